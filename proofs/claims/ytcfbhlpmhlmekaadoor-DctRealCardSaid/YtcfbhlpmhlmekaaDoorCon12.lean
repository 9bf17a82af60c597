/-
  What is proved here: contracts of dct.cosines, dct.Real, dct.Waves. A text to be imported.
-/
import Derived.Test.YtcfbhlpmhlmekaaDoorCon11
import Derived.Test.YtcfbhlpmhlmekaaDoorSimW
import Derived.Test.YtcfbhlpmhlmekaaDoorSimY
namespace Go.Proofs.YtcfbhlpmhlmekaaDoor
open Sm Go Go.RowKit
set_option maxRecDepth 1000000
set_option linter.unusedVariables false
def ccL : List Nat := [4600040671590431693, 4600040671590431693, 4600040671590431693, 4600040671590431693, 4600040671590431693, 4600040671590431693, 4600040671590431693, 4600040671590431693, 4602505748364614832, 4601160832390177188, 4598675751706716361, 4591693290275448332, 13815065327130224136, 13822047788561492166, 13824532869244952996, 13825877785219390639, 4601993186954612038, 4596061832144136548, 13819433868998912354, 13825365223809387846, 13825365223809387847, 13819433868998912365, 4596061832144136551, 4601993186954612036, 4601160832390177188, 13815065327130224136, 13825877785219390639, 13822047788561492168, 4598675751706716357, 4602505748364614832, 4591693290275448349, 13824532869244952995, 4600040671590431693, 13823412708445207500, 13823412708445207502, 4600040671590431692, 4600040671590431694, 13823412708445207493, 13823412708445207498, 4600040671590431685, 4598675751706716361, 13825877785219390639, 4591693290275448331, 4601160832390177189, 13824532869244952995, 13815065327130224130, 4602505748364614834, 13822047788561492162, 4596061832144136548, 13825365223809387847, 4601993186954612036, 13819433868998912356, 13819433868998912369, 4601993186954612038, 13825365223809387842, 4596061832144136543, 4591693290275448332, 13822047788561492168, 4601160832390177189, 13825877785219390642, 4602505748364614832, 13824532869244952993, 4598675751706716354, 13815065327130224149]
def ccA : Value := .agg (ccL.map (Value.float .f64)).toArray
theorem runCc (u : Value) : runK Tryd.prog T FC 30000 Tryd.f19 [] [] [] (fun r _ => resW r = some u) = (some ccA = some u) := by kernel_rfl
def GCcs : List ArgV → Option Value
  | [] => some ccA
  | _ => none
theorem conCc : Con Tryd.prog 19 GCcs := by
  refine con_of_runW hm hT FCok Tryd.func19 Tryd.call19 fun avs u h => ?_
  unfold GCcs at h
  split at h
  · simp only [Option.some.injEq] at h; subst h
    exact ⟨[], 30000, [], _, _, rfl, of_run (runCc _) rfl⟩
  · cases h
noncomputable def FR : Fns := FC.add 19 GCcs
theorem FRok : FnsOk Tryd.prog FR := FCok.add conCc
/-! loops -/
def fsB (f : Nat → Nat) : Blk := { body := .sy 64 fun j => .sc (.float .f64 (f j)) false, elem := 23, live := true, ro := true }
def ssB (f : Nat → Nat) : Blk := { body := .sy 64 fun j => .sc (.float .f64 (f j)) false, elem := 23, live := true, ro := false }
def ccB : Blk := { body := .sy 64 fun j => .sc (.float .f64 (ccL.getD j 0)) false, elem := 42, live := true, ro := false }
def ivF (n : Int) : AV := .one (.sc (.int .i64 n) false)
def P0 : AV := .one (.ptr 0 0)
def P1 : AV := .one (.ptr 1 0)
def P2 : AV := .one (.ptr 2 0)
def P3 : AV := .one (.ptr 3 0)
def cc (j : Nat) : Nat := ccL.getD j 0
def pA (x y : Int) : Nat := placeN (placeN 0 (x.tmod 8) 8) (y.tmod 8) 1
def pB (x y : Int) : Nat := placeN (placeN 0 (W (x.tdiv 8)) 8) (W (y.tdiv 8)) 1
def wcI (x y : Int) : Nat := fbin .mul .f64 (cc (pA x y)) (cc (pB x y))
def suB (s : Nat → Nat) (o a : Nat) : Blk := { body := .sy 64 (updG (fun j => .sc (.float .f64 (s j)) false) o (.sc (.float .f64 a) false)), elem := 23, live := true, ro := false }
theorem suB_le (s s' : Nat → Nat) (o a : Nat) (h : ∀ j, j < 64 → s' j = bif Nat.beq j o then a else s j) : BlkLe (suB s o a) (ssB s') :=
  sy_le fun j hj => by
    show pickC (Nat.beq j o) (.sc (.float .f64 a) false) (.sc (.float .f64 (s j)) false) = .sc (.float .f64 (s' j)) false
    rw [h j hj]
    cases Nat.beq j o <;> rfl
def hR (r : Blk) (f s : Nat → Nat) : List Blk := [fsB f, r, ssB s, ccB]
theorem pA_eq (x y : Nat) (hx : x < 64) (hy : y < 64) : pA x y = 8 * (x % 8) + y % 8 ∧ pB x y = 8 * (x / 8) + y / 8 := by
  have e1 : ((x : Int).tmod 8) = ((x % 8 : Nat) : Int) := by rw [Int.tmod_eq_emod_of_nonneg (by omega)]; omega
  have e2 : ((y : Int).tmod 8) = ((y % 8 : Nat) : Int) := by rw [Int.tmod_eq_emod_of_nonneg (by omega)]; omega
  have e3 : W ((x : Int).tdiv 8) = ((x / 8 : Nat) : Int) := by rw [Int.tdiv_eq_ediv_of_nonneg (by omega), show (x : Int) / 8 = ((x / 8 : Nat) : Int) by omega]; exact w64 (by omega) (by omega)
  have e4 : W ((y : Int).tdiv 8) = ((y / 8 : Nat) : Int) := by rw [Int.tdiv_eq_ediv_of_nonneg (by omega), show (y : Int) / 8 = ((y / 8 : Nat) : Int) by omega]; exact w64 (by omega) (by omega)
  unfold pA pB
  rw [e1, e2, e3, e4]
  unfold placeN
  constructor <;> (simp; omega)
theorem W1 {k : Nat} (h : k < 64) : W ((k : Int) + 1) = ((k + 1 : Nat) : Int) := by rw [show ((k : Int) + 1) = ((k + 1 : Nat) : Int) by omega]; exact w64 (by omega) (by omega)
theorem pl1 (k : Nat) : placeN 0 (k : Int) 1 = k := by unfold placeN; simp

/-! f7 -/
noncomputable def cR1 : Code := pathC (bodyC Tryd.f7) [0]
noncomputable def cR2 : Code := pathC (bodyC Tryd.f7) [0, 0]
def lR1 (i : Nat) : List (Nat × AV) := [(0, P0), (2, P1), (3, P2), (4, P3), (12, ivF i)]
def lR2 (i k : Nat) : List (Nat × AV) := [(0, P0), (2, P1), (3, P2), (4, P3), (5, ivF i), (12, ivF i), (15, P0), (16, ivF k)]
theorem roundR2 (f s : Nat → Nat) (r : Blk) (i k : Nat) (Q : Ex → Nat → List AV → List Blk → Prop) : roundK Tryd.prog T FR 300 cR2 (tmL 47 (lR2 i k)) (hR r f s) [.b true] [0, 2, 3, 4, 5, 12, 15, 16] Q =
  (decide ((k : Int) < 64) = true ∧ (0 ≤ (k : Int) ∧ (k : Int) < (64 : Nat)) ∧ placeN 0 (k : Int) 1 < 64 ∧ (0 ≤ (i : Int) ∧ (i : Int) < (64 : Nat)) ∧ placeN 0 (i : Int) 1 < 64 ∧ (0 ≤ (k : Int).tmod 8 ∧ (k : Int).tmod 8 < (8 : Nat)) ∧ (0 ≤ (i : Int).tmod 8 ∧ (i : Int).tmod 8 < (8 : Nat)) ∧ pA k i < 64 ∧
   (0 ≤ W ((k : Int).tdiv 8) ∧ W ((k : Int).tdiv 8) < (8 : Nat)) ∧ (0 ≤ W ((i : Int).tdiv 8) ∧ W ((i : Int).tdiv 8) < (8 : Nat)) ∧ pB k i < 64 ∧ fok .mul .f64 (cc (pA k i)) (cc (pB k i)) = true ∧ fok .mul .f64 (wcI k i) (f (placeN 0 (k : Int) 1)) = true ∧
   fok .add .f64 (s (placeN 0 (i : Int) 1)) (fbin .mul .f64 (wcI k i) (f (placeN 0 (k : Int) 1))) = true ∧ (0 ≤ (i : Int) ∧ (i : Int) < (64 : Nat)) ∧ placeN 0 (i : Int) 1 < 64 ∧
   Q .normal 47 [P0, P1, P2, P3, ivF i, ivF i, P0, ivF (W (k + 1))] [fsB f, r, suB s (placeN 0 (i : Int) 1) (fbin .add .f64 (s (placeN 0 (i : Int) 1)) (fbin .mul .f64 (wcI k i) (f (placeN 0 (k : Int) 1)))), ccB]) := by kernel_rfl
theorem exitR2 (f s : Nat → Nat) (r : Blk) (i k : Nat) (Q : Ex → Nat → List AV → List Blk → Prop) : roundK Tryd.prog T FR 300 cR2 (tmL 47 (lR2 i k)) (hR r f s) [.b false] [0, 2, 3, 4, 12] Q =
  (decide ((k : Int) < 64) = false ∧ Q (.exit 2) 47 [P0, P1, P2, P3, ivF i] (hR r f s)) := by kernel_rfl
/-- A term, a sum. -/
def tR (f : Nat → Nat) (i k : Nat) : Nat := fbin .mul .f64 (wcI k i) (f k)
def sR (f : Nat → Nat) (i k : Nat) : Nat := fsum (tR f i) 0 k
def okR (f : Nat → Nat) (i : Nat) : Prop := ∀ k : Nat, k < 64 → fok .mul .f64 (cc (pA k i)) (cc (pB k i)) = true ∧ fok .mul .f64 (wcI k i) (f k) = true ∧ fok .add .f64 (sR f i k) (tR f i k) = true
/-- The sums that are made, as far as one has come. -/
def SR (f : Nat → Nat) (i k j : Nat) : Nat := if j < i then sR f j 64 else if j = i then sR f i k else 0
theorem loopR2 (f : Nat → Nat) (r : Blk) (i : Nat) (hi : i < 64) (hok : okR f i) : LoopOk Tryd.prog cR2 (tmL 47 (lR2 i 0)) (hR r f (SR f i 0)) (.exit 2) (tmL 47 (lR1 i)) (hR r f (SR f i 64)) := by
  refine loop_rounds hm hT FRok 47 64 (lR2 i) (fun k => hR r f (SR f i k)) (.exit 2) _ _ (fun e => by cases e) (fun k hk => ⟨300, [.b true], ?_⟩) ⟨300, [.b false], ?_⟩ 0 (Nat.zero_le _)
  · show roundK Tryd.prog T FR 300 cR2 (tmL 47 (lR2 i k)) (hR r f (SR f i k)) [.b true] [0, 2, 3, 4, 5, 12, 15, 16] _
    obtain ⟨a1, a2, a3⟩ := hok k hk
    obtain ⟨e1, e2⟩ := pA_eq k i (by omega) (by omega)
    have es : SR f i k i = sR f i k := by unfold SR; rw [if_neg (by omega), if_pos rfl]
    rw [roundR2, pl1, pl1, es]
    have m1 : 0 ≤ (i : Int).tmod 8 ∧ (i : Int).tmod 8 < (8 : Nat) := by rw [Int.tmod_eq_emod_of_nonneg (by omega)]; omega
    have m2 : 0 ≤ (k : Int).tmod 8 ∧ (k : Int).tmod 8 < (8 : Nat) := by rw [Int.tmod_eq_emod_of_nonneg (by omega)]; omega
    have d1 : 0 ≤ W ((i : Int).tdiv 8) ∧ W ((i : Int).tdiv 8) < (8 : Nat) := by rw [show W ((i : Int).tdiv 8) = ((i / 8 : Nat) : Int) from by rw [Int.tdiv_eq_ediv_of_nonneg (by omega), show (i : Int) / 8 = ((i / 8 : Nat) : Int) by omega]; exact w64 (by omega) (by omega)]; omega
    have d2 : 0 ≤ W ((k : Int).tdiv 8) ∧ W ((k : Int).tdiv 8) < (8 : Nat) := by rw [show W ((k : Int).tdiv 8) = ((k / 8 : Nat) : Int) from by rw [Int.tdiv_eq_ediv_of_nonneg (by omega), show (k : Int) / 8 = ((k / 8 : Nat) : Int) by omega]; exact w64 (by omega) (by omega)]; omega
    refine ⟨decide_eq_true (by omega), ⟨by omega, by omega⟩, hk, ⟨by omega, by omega⟩, hi, m2, m1, by rw [e1]; omega, d2, d1, by rw [e2]; omega, a1, a2, a3, ⟨by omega, by omega⟩, hi, rfl, rfl, ⟨sameV.refl _, sameV.refl _, sameV.refl _, sameV.refl _, sameV.refl _, sameV.refl _, sameV.refl _, congrArg (Value.int .i64) (W1 hk), trivial⟩, .refl _, .refl _, suB_le _ _ _ _ fun j hj => ?_, .refl _, trivial⟩
    by_cases h : j = i
    · subst h
      rw [show Nat.beq j j = true from Nat.beq_refl j]
      show SR f j (k + 1) j = fbin .add .f64 (sR f j k) (tR f j k)
      unfold SR
      rw [if_neg (by omega), if_pos rfl]
      rfl
    · rw [show Nat.beq j i = false from by rw [beq_eq]; simpa using h]
      show SR f i (k + 1) j = SR f i k j
      unfold SR
      rw [if_neg h, if_neg h]
  · show roundK Tryd.prog T FR 300 cR2 (tmL 47 (lR2 i 64)) (hR r f (SR f i 64)) [.b false] [0, 2, 3, 4, 12] _
    rw [exitR2]
    exact ⟨decide_eq_false (by omega), rfl, rfl, ⟨sameV.refl _, sameV.refl _, sameV.refl _, sameV.refl _, sameV.refl _, trivial⟩, HpLe.refl _⟩
theorem SR_next (f : Nat → Nat) (i j : Nat) : SR f i 64 j = SR f (i + 1) 0 j := by
  unfold SR
  by_cases h : j < i
  · rw [if_pos h, if_pos (by omega)]
  · rw [if_neg h]
    by_cases h2 : j = i
    · subst h2; rw [if_pos rfl, if_pos (by omega)]
    · rw [if_neg h2, if_neg (by omega)]
      by_cases h3 : j = i + 1
      · rw [if_pos h3]; rfl
      · rw [if_neg h3]
noncomputable def FR1 (f : Nat → Nat) (r : Blk) (i : Nat) (q : Prop) : Fns := FR.addLoop 1 cR2 (loopC 47 (lR2 i 0) (hR r f (SR f i 0)) q (.exit 2) (lR1 i) (hR r f (SR f i 64)))
theorem roundR1 (f : Nat → Nat) (r : Blk) (i : Nat) (q : Prop) (Q : Ex → Nat → List AV → List Blk → Prop) : roundK Tryd.prog T (FR1 f r i q) 300 cR1 (tmL 47 (lR1 i)) (hR r f (SR f i 0)) [.b true, .l 1] [0, 2, 3, 4, 12] Q =
  (decide ((i : Int) < 64) = true ∧ cR2 = cR2 ∧ ((47 = 47 ∧ startLs [P0, P1, P2, P3, ivF i, ivF i, P0, .one (.sc (.int .i64 0) true)] ((lR2 i 0).map (·.2)) ∧ startBs (hR r f (SR f i 0)) (hR r f (SR f i 0))) ∧ q) ∧ Q .normal 47 [P0, P1, P2, P3, ivF (W (i + 1))] (hR r f (SR f i 64))) := by kernel_rfl
theorem exitR1 (f s : Nat → Nat) (r : Blk) (i : Nat) (Q : Ex → Nat → List AV → List Blk → Prop) : roundK Tryd.prog T FR 300 cR1 (tmL 47 (lR1 i)) (hR r f s) [.b false] [0, 2, 3, 4] Q =
  (decide ((i : Int) < 64) = false ∧ Q (.exit 0) 47 [P0, P1, P2, P3] (hR r f s)) := by kernel_rfl
def lRf : List (Nat × AV) := [(0, P0), (2, P1), (3, P2), (4, P3)]
theorem loopR1 (f : Nat → Nat) (r : Blk) (hok : ∀ i, i < 64 → okR f i) : LoopOk Tryd.prog cR1 (tmL 47 (lR1 0)) (hR r f (SR f 0 0)) (.exit 0) (tmL 47 lRf) (hR r f (SR f 64 0)) := by
  refine loop_roundsF hm hT 47 64 lR1 (fun i => hR r f (SR f i 0)) (.exit 0) _ _ (fun e => by cases e) (fun i hi => ⟨FR1 f r i True, FRok.addKeep 1 fun _ => loopR2 f r i hi (hok i hi), 300, [.b true, .l 1], ?_⟩) ⟨FR, FRok, 300, [.b false], ?_⟩ 0 (Nat.zero_le _)
  · show roundK Tryd.prog T (FR1 f r i True) 300 cR1 (tmL 47 (lR1 i)) (hR r f (SR f i 0)) [.b true, .l 1] [0, 2, 3, 4, 12] _
    rw [roundR1]
    refine ⟨decide_eq_true (by omega), rfl, ⟨⟨rfl, ⟨rfl, rfl, rfl, rfl, rfl, rfl, rfl, rfl, trivial⟩, startBs.refl _⟩, trivial⟩, rfl, rfl, ⟨sameV.refl _, sameV.refl _, sameV.refl _, sameV.refl _, congrArg (Value.int .i64) (W1 hi), trivial⟩, .refl _, .refl _, sy_le fun j _ => ?_, .refl _, trivial⟩
    show (C1.sc (.float .f64 (SR f i 64 j)) false) = .sc (.float .f64 (SR f (i + 1) 0 j)) false
    rw [SR_next]
  · show roundK Tryd.prog T FR 300 cR1 (tmL 47 (lR1 64)) (hR r f (SR f 64 0)) [.b false] [0, 2, 3, 4] _
    rw [exitR1]
    exact ⟨decide_eq_false (by omega), rfl, rfl, ⟨sameV.refl _, sameV.refl _, sameV.refl _, sameV.refl _, trivial⟩, HpLe.refl _⟩

/-! f8 -/
noncomputable def cV1 : Code := pathC (bodyC Tryd.f8) [0]
noncomputable def cV2 : Code := pathC (bodyC Tryd.f8) [0, 0]
def lV1 (i : Nat) : List (Nat × AV) := [(0, P0), (2, P1), (3, P2), (4, P3), (12, ivF i)]
def lV2 (i k : Nat) : List (Nat × AV) := [(0, P0), (2, P1), (3, P2), (4, P3), (5, ivF i), (12, ivF i), (15, P0), (16, ivF k)]
theorem roundV2 (f s : Nat → Nat) (r : Blk) (i k : Nat) (Q : Ex → Nat → List AV → List Blk → Prop) : roundK Tryd.prog T FR 300 cV2 (tmL 47 (lV2 i k)) (hR r f s) [.b true] [0, 2, 3, 4, 5, 12, 15, 16] Q =
  (decide ((k : Int) < 64) = true ∧ (0 ≤ (k : Int) ∧ (k : Int) < (64 : Nat)) ∧ placeN 0 (k : Int) 1 < 64 ∧ (0 ≤ (i : Int) ∧ (i : Int) < (64 : Nat)) ∧ placeN 0 (i : Int) 1 < 64 ∧ (0 ≤ (i : Int).tmod 8 ∧ (i : Int).tmod 8 < (8 : Nat)) ∧ (0 ≤ (k : Int).tmod 8 ∧ (k : Int).tmod 8 < (8 : Nat)) ∧ pA i k < 64 ∧
   (0 ≤ W ((i : Int).tdiv 8) ∧ W ((i : Int).tdiv 8) < (8 : Nat)) ∧ (0 ≤ W ((k : Int).tdiv 8) ∧ W ((k : Int).tdiv 8) < (8 : Nat)) ∧ pB i k < 64 ∧ fok .mul .f64 (cc (pA i k)) (cc (pB i k)) = true ∧ fok .mul .f64 (wcI i k) (f (placeN 0 (k : Int) 1)) = true ∧
   fok .add .f64 (s (placeN 0 (i : Int) 1)) (fbin .mul .f64 (wcI i k) (f (placeN 0 (k : Int) 1))) = true ∧ (0 ≤ (i : Int) ∧ (i : Int) < (64 : Nat)) ∧ placeN 0 (i : Int) 1 < 64 ∧
   Q .normal 47 [P0, P1, P2, P3, ivF i, ivF i, P0, ivF (W (k + 1))] [fsB f, r, suB s (placeN 0 (i : Int) 1) (fbin .add .f64 (s (placeN 0 (i : Int) 1)) (fbin .mul .f64 (wcI i k) (f (placeN 0 (k : Int) 1)))), ccB]) := by kernel_rfl
theorem exitV2 (f s : Nat → Nat) (r : Blk) (i k : Nat) (Q : Ex → Nat → List AV → List Blk → Prop) : roundK Tryd.prog T FR 300 cV2 (tmL 47 (lV2 i k)) (hR r f s) [.b false] [0, 2, 3, 4, 12] Q =
  (decide ((k : Int) < 64) = false ∧ Q (.exit 2) 47 [P0, P1, P2, P3, ivF i] (hR r f s)) := by kernel_rfl
/-- A term, a sum. -/
def tV (f : Nat → Nat) (i k : Nat) : Nat := fbin .mul .f64 (wcI i k) (f k)
def sV (f : Nat → Nat) (i k : Nat) : Nat := fsum (tV f i) 0 k
def okWv (f : Nat → Nat) (i : Nat) : Prop := ∀ k : Nat, k < 64 → fok .mul .f64 (cc (pA i k)) (cc (pB i k)) = true ∧ fok .mul .f64 (wcI i k) (f k) = true ∧ fok .add .f64 (sV f i k) (tV f i k) = true
/-- The sums that are made, as far as one has come. -/
def SV (f : Nat → Nat) (i k j : Nat) : Nat := if j < i then sV f j 64 else if j = i then sV f i k else 0
theorem loopV2 (f : Nat → Nat) (r : Blk) (i : Nat) (hi : i < 64) (hok : okWv f i) : LoopOk Tryd.prog cV2 (tmL 47 (lV2 i 0)) (hR r f (SV f i 0)) (.exit 2) (tmL 47 (lV1 i)) (hR r f (SV f i 64)) := by
  refine loop_rounds hm hT FRok 47 64 (lV2 i) (fun k => hR r f (SV f i k)) (.exit 2) _ _ (fun e => by cases e) (fun k hk => ⟨300, [.b true], ?_⟩) ⟨300, [.b false], ?_⟩ 0 (Nat.zero_le _)
  · show roundK Tryd.prog T FR 300 cV2 (tmL 47 (lV2 i k)) (hR r f (SV f i k)) [.b true] [0, 2, 3, 4, 5, 12, 15, 16] _
    obtain ⟨a1, a2, a3⟩ := hok k hk
    obtain ⟨e1, e2⟩ := pA_eq i k (by omega) (by omega)
    have es : SV f i k i = sV f i k := by unfold SV; rw [if_neg (by omega), if_pos rfl]
    rw [roundV2, pl1, pl1, es]
    have m1 : 0 ≤ (i : Int).tmod 8 ∧ (i : Int).tmod 8 < (8 : Nat) := by rw [Int.tmod_eq_emod_of_nonneg (by omega)]; omega
    have m2 : 0 ≤ (k : Int).tmod 8 ∧ (k : Int).tmod 8 < (8 : Nat) := by rw [Int.tmod_eq_emod_of_nonneg (by omega)]; omega
    have d1 : 0 ≤ W ((i : Int).tdiv 8) ∧ W ((i : Int).tdiv 8) < (8 : Nat) := by rw [show W ((i : Int).tdiv 8) = ((i / 8 : Nat) : Int) from by rw [Int.tdiv_eq_ediv_of_nonneg (by omega), show (i : Int) / 8 = ((i / 8 : Nat) : Int) by omega]; exact w64 (by omega) (by omega)]; omega
    have d2 : 0 ≤ W ((k : Int).tdiv 8) ∧ W ((k : Int).tdiv 8) < (8 : Nat) := by rw [show W ((k : Int).tdiv 8) = ((k / 8 : Nat) : Int) from by rw [Int.tdiv_eq_ediv_of_nonneg (by omega), show (k : Int) / 8 = ((k / 8 : Nat) : Int) by omega]; exact w64 (by omega) (by omega)]; omega
    refine ⟨decide_eq_true (by omega), ⟨by omega, by omega⟩, hk, ⟨by omega, by omega⟩, hi, m1, m2, by rw [e1]; omega, d1, d2, by rw [e2]; omega, a1, a2, a3, ⟨by omega, by omega⟩, hi, rfl, rfl, ⟨sameV.refl _, sameV.refl _, sameV.refl _, sameV.refl _, sameV.refl _, sameV.refl _, sameV.refl _, congrArg (Value.int .i64) (W1 hk), trivial⟩, .refl _, .refl _, suB_le _ _ _ _ fun j hj => ?_, .refl _, trivial⟩
    by_cases h : j = i
    · subst h
      rw [show Nat.beq j j = true from Nat.beq_refl j]
      show SV f j (k + 1) j = fbin .add .f64 (sV f j k) (tV f j k)
      unfold SV
      rw [if_neg (by omega), if_pos rfl]
      rfl
    · rw [show Nat.beq j i = false from by rw [beq_eq]; simpa using h]
      show SV f i (k + 1) j = SV f i k j
      unfold SV
      rw [if_neg h, if_neg h]
  · show roundK Tryd.prog T FR 300 cV2 (tmL 47 (lV2 i 64)) (hR r f (SV f i 64)) [.b false] [0, 2, 3, 4, 12] _
    rw [exitV2]
    exact ⟨decide_eq_false (by omega), rfl, rfl, ⟨sameV.refl _, sameV.refl _, sameV.refl _, sameV.refl _, sameV.refl _, trivial⟩, HpLe.refl _⟩
theorem SV_next (f : Nat → Nat) (i j : Nat) : SV f i 64 j = SV f (i + 1) 0 j := by
  unfold SV
  by_cases h : j < i
  · rw [if_pos h, if_pos (by omega)]
  · rw [if_neg h]
    by_cases h2 : j = i
    · subst h2; rw [if_pos rfl, if_pos (by omega)]
    · rw [if_neg h2, if_neg (by omega)]
      by_cases h3 : j = i + 1
      · rw [if_pos h3]; rfl
      · rw [if_neg h3]
noncomputable def FV1 (f : Nat → Nat) (r : Blk) (i : Nat) (q : Prop) : Fns := FR.addLoop 1 cV2 (loopC 47 (lV2 i 0) (hR r f (SV f i 0)) q (.exit 2) (lV1 i) (hR r f (SV f i 64)))
theorem roundV1 (f : Nat → Nat) (r : Blk) (i : Nat) (q : Prop) (Q : Ex → Nat → List AV → List Blk → Prop) : roundK Tryd.prog T (FV1 f r i q) 300 cV1 (tmL 47 (lV1 i)) (hR r f (SV f i 0)) [.b true, .l 1] [0, 2, 3, 4, 12] Q =
  (decide ((i : Int) < 64) = true ∧ cV2 = cV2 ∧ ((47 = 47 ∧ startLs [P0, P1, P2, P3, ivF i, ivF i, P0, .one (.sc (.int .i64 0) true)] ((lV2 i 0).map (·.2)) ∧ startBs (hR r f (SV f i 0)) (hR r f (SV f i 0))) ∧ q) ∧ Q .normal 47 [P0, P1, P2, P3, ivF (W (i + 1))] (hR r f (SV f i 64))) := by kernel_rfl
theorem exitV1 (f s : Nat → Nat) (r : Blk) (i : Nat) (Q : Ex → Nat → List AV → List Blk → Prop) : roundK Tryd.prog T FR 300 cV1 (tmL 47 (lV1 i)) (hR r f s) [.b false] [0, 2, 3, 4] Q =
  (decide ((i : Int) < 64) = false ∧ Q (.exit 0) 47 [P0, P1, P2, P3] (hR r f s)) := by kernel_rfl
def lVf : List (Nat × AV) := [(0, P0), (2, P1), (3, P2), (4, P3)]
theorem loopV1 (f : Nat → Nat) (r : Blk) (hok : ∀ i, i < 64 → okWv f i) : LoopOk Tryd.prog cV1 (tmL 47 (lV1 0)) (hR r f (SV f 0 0)) (.exit 0) (tmL 47 lVf) (hR r f (SV f 64 0)) := by
  refine loop_roundsF hm hT 47 64 lV1 (fun i => hR r f (SV f i 0)) (.exit 0) _ _ (fun e => by cases e) (fun i hi => ⟨FV1 f r i True, FRok.addKeep 1 fun _ => loopV2 f r i hi (hok i hi), 300, [.b true, .l 1], ?_⟩) ⟨FR, FRok, 300, [.b false], ?_⟩ 0 (Nat.zero_le _)
  · show roundK Tryd.prog T (FV1 f r i True) 300 cV1 (tmL 47 (lV1 i)) (hR r f (SV f i 0)) [.b true, .l 1] [0, 2, 3, 4, 12] _
    rw [roundV1]
    refine ⟨decide_eq_true (by omega), rfl, ⟨⟨rfl, ⟨rfl, rfl, rfl, rfl, rfl, rfl, rfl, rfl, trivial⟩, startBs.refl _⟩, trivial⟩, rfl, rfl, ⟨sameV.refl _, sameV.refl _, sameV.refl _, sameV.refl _, congrArg (Value.int .i64) (W1 hi), trivial⟩, .refl _, .refl _, sy_le fun j _ => ?_, .refl _, trivial⟩
    show (C1.sc (.float .f64 (SV f i 64 j)) false) = .sc (.float .f64 (SV f (i + 1) 0 j)) false
    rw [SV_next]
  · show roundK Tryd.prog T FR 300 cV1 (tmL 47 (lV1 64)) (hR r f (SV f 64 0)) [.b false] [0, 2, 3, 4] _
    rw [exitV1]
    exact ⟨decide_eq_false (by omega), rfl, rfl, ⟨sameV.refl _, sameV.refl _, sameV.refl _, sameV.refl _, trivial⟩, HpLe.refl _⟩

def argB (f : Nat → Nat) : Blk := { body := .li ((List.range 64).map fun j => .sc (.float .f64 (f j)) false), elem := 23, live := true, ro := true }
def zB : Blk := { body := .li ((List.range 64).map fun _ => .sc (.float .f64 0) true), elem := 23, live := true, ro := false }
def cB : Blk := { body := .li (ccL.map fun v => .sc (.float .f64 v) true), elem := 42, live := true, ro := false }
noncomputable def FRn (f : Nat → Nat) (q : Prop) : Fns := FR.addLoop 0 cR1 (loopC 47 (lR1 0) (hR zB f (SR f 0 0)) q (.exit 0) lRf (hR zB f (SR f 64 0)))
noncomputable def FVn (f : Nat → Nat) (q : Prop) : Fns := FR.addLoop 0 cV1 (loopC 47 (lV1 0) (hR zB f (SV f 0 0)) q (.exit 0) lVf (hR zB f (SV f 64 0)))
def flA (f : Nat → Nat) : Value := .agg ((List.range 64).map fun j => .float .f64 (f j)).toArray

theorem startB_li {cs : List C1} {t : TypeId} {ro : Bool} {n : Nat} {g : Nat → C1} (hl : cs.length = n) (h : ∀ j, j < n → ∃ v s s', cs[j]? = some (.sc v s) ∧ g j = .sc v s') :
    startB { body := .li cs, elem := t, live := true, ro := ro } { body := .sy n g, elem := t, live := true, ro := ro } := by
  refine .inr ⟨rfl, rfl, rfl, fun E vs hr => ⟨?_, fun j c v hc hv => ?_⟩⟩
  · rw [← hr.1]
    show (symC _ _).length = cs.length
    rw [symC_length, hl]
  · have hj : j < n := by
      have := (List.getElem?_eq_some_iff.1 hc).1
      rwa [show ({ body := .sy n g, elem := t, live := true, ro := ro } : Blk).cells = symC n g from rfl, symC_length] at this
    rw [show ({ body := .sy n g, elem := t, live := true, ro := ro } : Blk).cells = symC n g from rfl, symC_get _ _ hj] at hc
    simp only [Option.some.injEq] at hc
    obtain ⟨u, s, s', e1, e2⟩ := h j hj
    have := hr.2 j _ v (show cs[j]? = some _ from e1) hv
    rw [← hc, e2]
    exact this
theorem startB_rng {m : Nat → C1} {t : TypeId} {ro : Bool} {n : Nat} {g : Nat → C1} (h : ∀ j, j < n → ∃ v s s', m j = .sc v s ∧ g j = .sc v s') :
    startB { body := .li ((List.range n).map m), elem := t, live := true, ro := ro } { body := .sy n g, elem := t, live := true, ro := ro } :=
  startB_li (by simp) fun j hj => by
    obtain ⟨v, s, s', e1, e2⟩ := h j hj
    exact ⟨v, s, s', by simp [hj, e1], e2⟩
theorem ccL_len : ccL.length = 64 := rfl
theorem sB_arg (f : Nat → Nat) : startB (argB f) (fsB f) := startB_rng fun j _ => ⟨_, false, false, rfl, rfl⟩
theorem sB_z : startB zB (ssB fun _ => 0) := startB_rng fun j _ => ⟨_, true, false, rfl, rfl⟩
theorem sB_c : startB cB ccB := startB_li (by simp [ccL_len]) fun j hj => ⟨.float .f64 (ccL.getD j 0), true, false, by rw [List.getElem?_map, List.getD_eq_getElem?_getD, List.getElem?_eq_getElem (by rw [ccL_len]; exact hj)]; rfl, rfl⟩
theorem SR0 (f : Nat → Nat) : SR f 0 0 = fun _ => 0 := by
  funext j
  unfold SR
  rw [if_neg (by omega)]
  by_cases h : j = 0
  · rw [if_pos h]; rfl
  · rw [if_neg h]
theorem SV0 (f : Nat → Nat) : SV f 0 0 = fun _ => 0 := by
  funext j
  unfold SV
  rw [if_neg (by omega)]
  by_cases h : j = 0
  · rw [if_pos h]; rfl
  · rw [if_neg h]
theorem run7 (f : Nat → Nat) (q : Prop) (u : Value) : runK Tryd.prog T (FRn f q) 300 Tryd.f7 [P0] [argB f] [.l 0] (fun r _ => resW r = some u) =
  (cR1 = cR1 ∧ ((47 = 47 ∧ startLs [P0, P1, P2, P3, .one (.sc (.int .i64 0) true)] ((lR1 0).map (·.2)) ∧ startBs [argB f, zB, zB, cB] (hR zB f (SR f 0 0))) ∧ q) ∧ 64 ≤ 64 ∧ some (flA (SR f 64 0)) = some u) := by kernel_rfl
theorem run8 (f : Nat → Nat) (q : Prop) (u : Value) : runK Tryd.prog T (FVn f q) 300 Tryd.f8 [P0] [argB f] [.l 0] (fun r _ => resW r = some u) =
  (cV1 = cV1 ∧ ((47 = 47 ∧ startLs [P0, P1, P2, P3, .one (.sc (.int .i64 0) true)] ((lV1 0).map (·.2)) ∧ startBs [argB f, zB, zB, cB] (hR zB f (SV f 0 0))) ∧ q) ∧ 64 ≤ 64 ∧ some (flA (SV f 64 0)) = some u) := by kernel_rfl
def GReal : List ArgV → Option (Prop × Value)
  | [.mem 23 cs] => fltsK .f64 cs fun xs => if xs.length = 64 then some ((∀ i, i < 64 → okR (xs.getD · 0) i), flA (SR (xs.getD · 0) 64 0)) else none
  | _ => none
def GWaves : List ArgV → Option (Prop × Value)
  | [.mem 23 cs] => fltsK .f64 cs fun xs => if xs.length = 64 then some ((∀ i, i < 64 → okWv (xs.getD · 0) i), flA (SV (xs.getD · 0) 64 0)) else none
  | _ => none
theorem list_of_nat (xs : List Nat) (n : Nat) (h : xs.length = n) : xs = (List.range n).map fun i => xs.getD i 0 := by
  apply List.ext_getElem?
  intro i
  by_cases hi : i < n
  · simp [hi, h, List.getD]
  · simp [hi, h]
theorem canonR (xs : List Nat) (h : xs.length = 64) : canon2 [] [.mem 23 (xs.map (Value.float .f64))] 0 = some ([P0], [argB (xs.getD · 0)]) := by
  conv => lhs; rw [list_of_nat xs 64 h]
  simp [canon2, argB, P0]
open Classical in
theorem conReal : ConP Tryd.prog 7 GReal := by
  have hF : ∀ f, (∀ i, i < 64 → okR f i) → FnsOk Tryd.prog (FRn f True) := fun f h => FRok.addKeep 0 fun _ => loopR1 f zB h
  refine ⟨Tryd.call7, fun avs p u h hp => ?_⟩
  unfold GReal at h
  split at h
  · obtain ⟨xs, rfl, h2⟩ := fltsK_spec _ _ _ h
    clear h
    split at h2
    · rename_i hl
      simp only [Option.some.injEq, Prod.mk.injEq] at h2
      obtain ⟨rfl, rfl⟩ := h2
      exact (conP_of_runW (G := fun a => if a = [.mem 23 (xs.map (Value.float .f64))] then some (True, flA (SR (xs.getD · 0) 64 0)) else none) hm hT (hF _ hp) Tryd.func7 Tryd.call7 fun avs p u h _ => by
        split at h
        · rename_i ha
          simp only [Option.some.injEq, Prod.mk.injEq] at h
          obtain ⟨_, rfl⟩ := h
          subst ha
          exact ⟨[], 300, [.l 0], _, _, canonR xs hl, of_run (run7 _ _ _) ⟨rfl, ⟨⟨rfl, ⟨rfl, rfl, rfl, rfl, rfl, trivial⟩, sB_arg _, startB.refl _, by rw [SR0]; exact sB_z, sB_c, trivial⟩, trivial⟩, Nat.le_refl _, rfl⟩⟩
        · cases h).2 _ True _ (if_pos rfl) trivial
    · cases h2
  · cases h
open Classical in
theorem conWaves : ConP Tryd.prog 8 GWaves := by
  have hF : ∀ f, (∀ i, i < 64 → okWv f i) → FnsOk Tryd.prog (FVn f True) := fun f h => FRok.addKeep 0 fun _ => loopV1 f zB h
  refine ⟨Tryd.call8, fun avs p u h hp => ?_⟩
  unfold GWaves at h
  split at h
  · obtain ⟨xs, rfl, h2⟩ := fltsK_spec _ _ _ h
    clear h
    split at h2
    · rename_i hl
      simp only [Option.some.injEq, Prod.mk.injEq] at h2
      obtain ⟨rfl, rfl⟩ := h2
      exact (conP_of_runW (G := fun a => if a = [.mem 23 (xs.map (Value.float .f64))] then some (True, flA (SV (xs.getD · 0) 64 0)) else none) hm hT (hF _ hp) Tryd.func8 Tryd.call8 fun avs p u h _ => by
        split at h
        · rename_i ha
          simp only [Option.some.injEq, Prod.mk.injEq] at h
          obtain ⟨_, rfl⟩ := h
          subst ha
          exact ⟨[], 300, [.l 0], _, _, canonR xs hl, of_run (run8 _ _ _) ⟨rfl, ⟨⟨rfl, ⟨rfl, rfl, rfl, rfl, rfl, trivial⟩, sB_arg _, startB.refl _, by rw [SV0]; exact sB_z, sB_c, trivial⟩, trivial⟩, Nat.le_refl _, rfl⟩⟩
        · cases h).2 _ True _ (if_pos rfl) trivial
    · cases h2
  · cases h
end Go.Proofs.YtcfbhlpmhlmekaaDoor
