/-
  What is proved here: the loops of the laws' helper near. A text to be imported.
-/
import Derived.Test.YthddkcoflnbjbaaDoorQCon58
namespace Go.Proofs.YthddkcoflnbjbaaDoor
open Sm Go Go.RowKit Fl Ieee
set_option maxRecDepth 1000000
set_option linter.unusedVariables false
noncomputable def c44 : Code := pathC (bodyC Tryd.f44) [0]
def hv (a : Nat) (v : Nat → Blk) : List Blk := (List.range a).map v
def l44 (j n : Nat) (r : Nat → Nat × Nat) (b i : Nat) : List (Nat × AV) := [(0, .one (.sl j 0 n 1)), (1, prL n r), (2, AFl b), (7, iv i)]
def h44 (j n : Nat) (z : Nat → Nat × Nat) (v w : Nat → Blk) : List Blk := hv j v ++ bY n z :: hv (22 - j) w
def okN1 (z r : Nat × Nat) (b : Nat) : Prop := fok .sub .f64 z.1 r.1 = true ∧ fle (absW (fbin .sub .f64 z.1 r.1)) b = true ∧ fok .sub .f64 z.2 r.2 = true ∧ fle (absW (fbin .sub .f64 z.2 r.2)) b = true
theorem place1 (i : Nat) : placeN 0 (i : Int) 1 = i := by unfold placeN; simp
theorem round44_9 (n i b : Nat) (z r : Nat → Nat × Nat) (v w : Nat → Blk) (X : Ex → Nat → List AV → List Blk → Prop) : roundK Tryd.prog T0 FT 300 c44 (tmL 47 (l44 9 n r b i)) (h44 9 n z v w) [.b true, .b false, .b false] [0, 1, 2, 7] X =
  (decide ((i : Int) < n) = true ∧ (0 ≤ (i : Int) ∧ (i : Int) < n) ∧ placeN 0 (i : Int) 1 < n ∧ (0 ≤ (i : Int) ∧ (i : Int) < n) ∧ fok .sub .f64 (z (placeN 0 (i : Int) 1)).1 (r (i : Int).toNat).1 = true ∧ (!fle (absW (fbin .sub .f64 (z (placeN 0 (i : Int) 1)).1 (r (i : Int).toNat).1)) b) = false ∧
   (0 ≤ (i : Int) ∧ (i : Int) < n) ∧ placeN 0 (i : Int) 1 < n ∧ (0 ≤ (i : Int) ∧ (i : Int) < n) ∧ fok .sub .f64 (z (placeN 0 (i : Int) 1)).2 (r (i : Int).toNat).2 = true ∧ (!fle (absW (fbin .sub .f64 (z (placeN 0 (i : Int) 1)).2 (r (i : Int).toNat).2)) b) = false ∧
   X .normal 47 [.one (.sl 9 0 n 1), prL n r, AFl b, iv (W (i + 1))] (h44 9 n z v w)) := by kernel_rfl
theorem exit44_9 (n i b : Nat) (z r : Nat → Nat × Nat) (v w : Nat → Blk) (X : Ex → Nat → List AV → List Blk → Prop) : roundK Tryd.prog T0 FT 300 c44 (tmL 47 (l44 9 n r b i)) (h44 9 n z v w) [.b false] [] X =
  (decide ((i : Int) < n) = false ∧ X (.exit 0) 47 [] (h44 9 n z v w)) := by kernel_rfl
theorem loop44_9 {n b : Nat} {z r : Nat → Nat × Nat} {v w : Nat → Blk} (hn : n ≤ 4096) (hok : ∀ i, i < n → okN1 (z i) (r i) b) : LoopOk Tryd.prog c44 (tmL 47 (l44 9 n r b 0)) (h44 9 n z v w) (.exit 0) (tmL 47 []) (h44 9 n z v w) := by
  refine loop_rounds hm hT0 FTok 47 n (fun i => l44 9 n r b i) (fun _ => h44 9 n z v w) (.exit 0) _ _ (fun e => by cases e) (fun i hi => ⟨300, [.b true, .b false, .b false], ?_⟩) ⟨300, [.b false], ?_⟩ 0 (Nat.zero_le _)
  · show roundK Tryd.prog T0 FT 300 c44 (tmL 47 (l44 9 n r b i)) (h44 9 n z v w) [.b true, .b false, .b false] [0, 1, 2, 7] _
    have h0 : (i : Int).toNat = i := by omega
    have hr : 0 ≤ (i : Int) ∧ (i : Int) < n := ⟨by omega, by omega⟩
    obtain ⟨k1, k2, k3, k4⟩ := hok i hi
    rw [round44_9, h0, place1]
    refine ⟨decide_eq_true (by omega), hr, hi, hr, k1, by rw [k2]; rfl, hr, hi, hr, k3, by rw [k4]; rfl, rfl, rfl, ⟨sameV.refl _, sameV.refl _, sameV.refl _, iv_same _ _ ?_, trivial⟩, HpLe.refl _⟩
    rw [Wid (by omega) (by omega)]; omega
  · show roundK Tryd.prog T0 FT 300 c44 (tmL 47 (l44 9 n r b n)) (h44 9 n z v w) [.b false] [] _
    rw [exit44_9]
    exact ⟨decide_eq_false (by omega), rfl, rfl, trivial, HpLe.refl _⟩
theorem round44_12 (n i b : Nat) (z r : Nat → Nat × Nat) (v w : Nat → Blk) (X : Ex → Nat → List AV → List Blk → Prop) : roundK Tryd.prog T0 FT 300 c44 (tmL 47 (l44 12 n r b i)) (h44 12 n z v w) [.b true, .b false, .b false] [0, 1, 2, 7] X =
  (decide ((i : Int) < n) = true ∧ (0 ≤ (i : Int) ∧ (i : Int) < n) ∧ placeN 0 (i : Int) 1 < n ∧ (0 ≤ (i : Int) ∧ (i : Int) < n) ∧ fok .sub .f64 (z (placeN 0 (i : Int) 1)).1 (r (i : Int).toNat).1 = true ∧ (!fle (absW (fbin .sub .f64 (z (placeN 0 (i : Int) 1)).1 (r (i : Int).toNat).1)) b) = false ∧
   (0 ≤ (i : Int) ∧ (i : Int) < n) ∧ placeN 0 (i : Int) 1 < n ∧ (0 ≤ (i : Int) ∧ (i : Int) < n) ∧ fok .sub .f64 (z (placeN 0 (i : Int) 1)).2 (r (i : Int).toNat).2 = true ∧ (!fle (absW (fbin .sub .f64 (z (placeN 0 (i : Int) 1)).2 (r (i : Int).toNat).2)) b) = false ∧
   X .normal 47 [.one (.sl 12 0 n 1), prL n r, AFl b, iv (W (i + 1))] (h44 12 n z v w)) := by kernel_rfl
theorem exit44_12 (n i b : Nat) (z r : Nat → Nat × Nat) (v w : Nat → Blk) (X : Ex → Nat → List AV → List Blk → Prop) : roundK Tryd.prog T0 FT 300 c44 (tmL 47 (l44 12 n r b i)) (h44 12 n z v w) [.b false] [] X =
  (decide ((i : Int) < n) = false ∧ X (.exit 0) 47 [] (h44 12 n z v w)) := by kernel_rfl
theorem loop44_12 {n b : Nat} {z r : Nat → Nat × Nat} {v w : Nat → Blk} (hn : n ≤ 4096) (hok : ∀ i, i < n → okN1 (z i) (r i) b) : LoopOk Tryd.prog c44 (tmL 47 (l44 12 n r b 0)) (h44 12 n z v w) (.exit 0) (tmL 47 []) (h44 12 n z v w) := by
  refine loop_rounds hm hT0 FTok 47 n (fun i => l44 12 n r b i) (fun _ => h44 12 n z v w) (.exit 0) _ _ (fun e => by cases e) (fun i hi => ⟨300, [.b true, .b false, .b false], ?_⟩) ⟨300, [.b false], ?_⟩ 0 (Nat.zero_le _)
  · show roundK Tryd.prog T0 FT 300 c44 (tmL 47 (l44 12 n r b i)) (h44 12 n z v w) [.b true, .b false, .b false] [0, 1, 2, 7] _
    have h0 : (i : Int).toNat = i := by omega
    have hr : 0 ≤ (i : Int) ∧ (i : Int) < n := ⟨by omega, by omega⟩
    obtain ⟨k1, k2, k3, k4⟩ := hok i hi
    rw [round44_12, h0, place1]
    refine ⟨decide_eq_true (by omega), hr, hi, hr, k1, by rw [k2]; rfl, hr, hi, hr, k3, by rw [k4]; rfl, rfl, rfl, ⟨sameV.refl _, sameV.refl _, sameV.refl _, iv_same _ _ ?_, trivial⟩, HpLe.refl _⟩
    rw [Wid (by omega) (by omega)]; omega
  · show roundK Tryd.prog T0 FT 300 c44 (tmL 47 (l44 12 n r b n)) (h44 12 n z v w) [.b false] [] _
    rw [exit44_12]
    exact ⟨decide_eq_false (by omega), rfl, rfl, trivial, HpLe.refl _⟩
theorem round44_15 (n i b : Nat) (z r : Nat → Nat × Nat) (v w : Nat → Blk) (X : Ex → Nat → List AV → List Blk → Prop) : roundK Tryd.prog T0 FT 300 c44 (tmL 47 (l44 15 n r b i)) (h44 15 n z v w) [.b true, .b false, .b false] [0, 1, 2, 7] X =
  (decide ((i : Int) < n) = true ∧ (0 ≤ (i : Int) ∧ (i : Int) < n) ∧ placeN 0 (i : Int) 1 < n ∧ (0 ≤ (i : Int) ∧ (i : Int) < n) ∧ fok .sub .f64 (z (placeN 0 (i : Int) 1)).1 (r (i : Int).toNat).1 = true ∧ (!fle (absW (fbin .sub .f64 (z (placeN 0 (i : Int) 1)).1 (r (i : Int).toNat).1)) b) = false ∧
   (0 ≤ (i : Int) ∧ (i : Int) < n) ∧ placeN 0 (i : Int) 1 < n ∧ (0 ≤ (i : Int) ∧ (i : Int) < n) ∧ fok .sub .f64 (z (placeN 0 (i : Int) 1)).2 (r (i : Int).toNat).2 = true ∧ (!fle (absW (fbin .sub .f64 (z (placeN 0 (i : Int) 1)).2 (r (i : Int).toNat).2)) b) = false ∧
   X .normal 47 [.one (.sl 15 0 n 1), prL n r, AFl b, iv (W (i + 1))] (h44 15 n z v w)) := by kernel_rfl
theorem exit44_15 (n i b : Nat) (z r : Nat → Nat × Nat) (v w : Nat → Blk) (X : Ex → Nat → List AV → List Blk → Prop) : roundK Tryd.prog T0 FT 300 c44 (tmL 47 (l44 15 n r b i)) (h44 15 n z v w) [.b false] [] X =
  (decide ((i : Int) < n) = false ∧ X (.exit 0) 47 [] (h44 15 n z v w)) := by kernel_rfl
theorem loop44_15 {n b : Nat} {z r : Nat → Nat × Nat} {v w : Nat → Blk} (hn : n ≤ 4096) (hok : ∀ i, i < n → okN1 (z i) (r i) b) : LoopOk Tryd.prog c44 (tmL 47 (l44 15 n r b 0)) (h44 15 n z v w) (.exit 0) (tmL 47 []) (h44 15 n z v w) := by
  refine loop_rounds hm hT0 FTok 47 n (fun i => l44 15 n r b i) (fun _ => h44 15 n z v w) (.exit 0) _ _ (fun e => by cases e) (fun i hi => ⟨300, [.b true, .b false, .b false], ?_⟩) ⟨300, [.b false], ?_⟩ 0 (Nat.zero_le _)
  · show roundK Tryd.prog T0 FT 300 c44 (tmL 47 (l44 15 n r b i)) (h44 15 n z v w) [.b true, .b false, .b false] [0, 1, 2, 7] _
    have h0 : (i : Int).toNat = i := by omega
    have hr : 0 ≤ (i : Int) ∧ (i : Int) < n := ⟨by omega, by omega⟩
    obtain ⟨k1, k2, k3, k4⟩ := hok i hi
    rw [round44_15, h0, place1]
    refine ⟨decide_eq_true (by omega), hr, hi, hr, k1, by rw [k2]; rfl, hr, hi, hr, k3, by rw [k4]; rfl, rfl, rfl, ⟨sameV.refl _, sameV.refl _, sameV.refl _, iv_same _ _ ?_, trivial⟩, HpLe.refl _⟩
    rw [Wid (by omega) (by omega)]; omega
  · show roundK Tryd.prog T0 FT 300 c44 (tmL 47 (l44 15 n r b n)) (h44 15 n z v w) [.b false] [] _
    rw [exit44_15]
    exact ⟨decide_eq_false (by omega), rfl, rfl, trivial, HpLe.refl _⟩
theorem round44_18 (n i b : Nat) (z r : Nat → Nat × Nat) (v w : Nat → Blk) (X : Ex → Nat → List AV → List Blk → Prop) : roundK Tryd.prog T0 FT 300 c44 (tmL 47 (l44 18 n r b i)) (h44 18 n z v w) [.b true, .b false, .b false] [0, 1, 2, 7] X =
  (decide ((i : Int) < n) = true ∧ (0 ≤ (i : Int) ∧ (i : Int) < n) ∧ placeN 0 (i : Int) 1 < n ∧ (0 ≤ (i : Int) ∧ (i : Int) < n) ∧ fok .sub .f64 (z (placeN 0 (i : Int) 1)).1 (r (i : Int).toNat).1 = true ∧ (!fle (absW (fbin .sub .f64 (z (placeN 0 (i : Int) 1)).1 (r (i : Int).toNat).1)) b) = false ∧
   (0 ≤ (i : Int) ∧ (i : Int) < n) ∧ placeN 0 (i : Int) 1 < n ∧ (0 ≤ (i : Int) ∧ (i : Int) < n) ∧ fok .sub .f64 (z (placeN 0 (i : Int) 1)).2 (r (i : Int).toNat).2 = true ∧ (!fle (absW (fbin .sub .f64 (z (placeN 0 (i : Int) 1)).2 (r (i : Int).toNat).2)) b) = false ∧
   X .normal 47 [.one (.sl 18 0 n 1), prL n r, AFl b, iv (W (i + 1))] (h44 18 n z v w)) := by kernel_rfl
theorem exit44_18 (n i b : Nat) (z r : Nat → Nat × Nat) (v w : Nat → Blk) (X : Ex → Nat → List AV → List Blk → Prop) : roundK Tryd.prog T0 FT 300 c44 (tmL 47 (l44 18 n r b i)) (h44 18 n z v w) [.b false] [] X =
  (decide ((i : Int) < n) = false ∧ X (.exit 0) 47 [] (h44 18 n z v w)) := by kernel_rfl
theorem loop44_18 {n b : Nat} {z r : Nat → Nat × Nat} {v w : Nat → Blk} (hn : n ≤ 4096) (hok : ∀ i, i < n → okN1 (z i) (r i) b) : LoopOk Tryd.prog c44 (tmL 47 (l44 18 n r b 0)) (h44 18 n z v w) (.exit 0) (tmL 47 []) (h44 18 n z v w) := by
  refine loop_rounds hm hT0 FTok 47 n (fun i => l44 18 n r b i) (fun _ => h44 18 n z v w) (.exit 0) _ _ (fun e => by cases e) (fun i hi => ⟨300, [.b true, .b false, .b false], ?_⟩) ⟨300, [.b false], ?_⟩ 0 (Nat.zero_le _)
  · show roundK Tryd.prog T0 FT 300 c44 (tmL 47 (l44 18 n r b i)) (h44 18 n z v w) [.b true, .b false, .b false] [0, 1, 2, 7] _
    have h0 : (i : Int).toNat = i := by omega
    have hr : 0 ≤ (i : Int) ∧ (i : Int) < n := ⟨by omega, by omega⟩
    obtain ⟨k1, k2, k3, k4⟩ := hok i hi
    rw [round44_18, h0, place1]
    refine ⟨decide_eq_true (by omega), hr, hi, hr, k1, by rw [k2]; rfl, hr, hi, hr, k3, by rw [k4]; rfl, rfl, rfl, ⟨sameV.refl _, sameV.refl _, sameV.refl _, iv_same _ _ ?_, trivial⟩, HpLe.refl _⟩
    rw [Wid (by omega) (by omega)]; omega
  · show roundK Tryd.prog T0 FT 300 c44 (tmL 47 (l44 18 n r b n)) (h44 18 n z v w) [.b false] [] _
    rw [exit44_18]
    exact ⟨decide_eq_false (by omega), rfl, rfl, trivial, HpLe.refl _⟩
end Go.Proofs.YthddkcoflnbjbaaDoor
