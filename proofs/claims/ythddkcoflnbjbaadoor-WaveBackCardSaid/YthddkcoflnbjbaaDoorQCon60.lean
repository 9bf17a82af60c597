/-
  What is proved here: the loops of the laws' helper apart that write the lists full. A text to be imported.
-/
import Derived.Test.YthddkcoflnbjbaaDoorQCon59
namespace Go.Proofs.YthddkcoflnbjbaaDoor
open Sm Go Go.RowKit Fl Ieee
set_option maxRecDepth 1000000
set_option linter.unusedVariables false
noncomputable def c45a : Code := pathC (bodyC Tryd.f45) [0, 0]
noncomputable def c45b : Code := pathC (bodyC Tryd.f45) [1, 0]
noncomputable def c45c : Code := pathC (bodyC Tryd.f45) [2, 0]
def gotA : AV := .one (.sl 20 0 4 1)
def ic (i : Int) : AV := .one (.sc (.int .i64 i) true)
def nilC : C1 := .sc (.slice none 0 0) true
def syZ (n : Nat) (Z : Nat → C1) : Blk := { body := .sy n Z, elem := 28, live := true, ro := false, full := true }
def gotB (c : List C1) : Blk := { body := .li c, elem := 24, live := true, ro := false }
def hpG (j n : Nat) (Z : Nat → C1) (v w u : Nat → Blk) (c : List C1) : List Blk := hv j v ++ syZ n Z :: (hv (19 - j) w ++ gotB c :: hv 2 u)
def l45a (i : Int) (k : Nat) : List (Nat × AV) := [(0, gotA), (3, ic i), (4, iv k)]
def oneW : Nat := 4607182418800017408
def twoW : Nat := 4611686018427387904
def mkS (Z : Nat → C1) (m k t : Nat) : C1 := if t < k then CC (m, oneW) else Z t
theorem syZ_le {n : Nat} {g h : Nat → C1} (hle : ∀ j, j < n → ∀ E u, RC E (g j) u → RC E (h j) u) : BlkLe (syZ n g) (syZ n h) := ⟨rfl, rfl, rfl, fun E vs hr => ⟨by
    have := hr.1
    rw [show (syZ n g).cells = symC n g from rfl, symC_length] at this
    rw [show (syZ n h).cells = symC n h from rfl, symC_length, this], fun j c v hc hv => by
    have hj : j < n := by
      have := (List.getElem?_eq_some_iff.1 hc).1
      rwa [show (syZ n h).cells = symC n h from rfl, symC_length] at this
    rw [show (syZ n h).cells = symC n h from rfl, symC_get _ _ hj] at hc
    simp only [Option.some.injEq] at hc
    subst hc
    exact hle j hj E v (hr.2 j (g j) v (by show (symC n _)[j]? = _; rw [symC_get _ _ hj]) hv)⟩⟩
theorem mkS_le {n k m : Nat} {Z : Nat → C1} : BlkLe (syZ n (updG (mkS Z m k) k (.sc (.complex .f64 m oneW) true))) (syZ n (mkS Z m (k + 1))) := by
  refine syZ_le fun j hj E u hr => ?_
  unfold updG at hr
  unfold mkS at hr ⊢
  by_cases h : j = k
  · subst h
    rw [beq_self'] at hr
    rw [if_pos (by omega)]
    have h3 := pickC_t hr
    exact h3
  · rw [beq_ne h] at hr
    have := pickC_f hr
    by_cases h2 : j < k
    · rw [if_pos h2] at this; rw [if_pos (by omega)]; exact this
    · rw [if_neg h2] at this; rw [if_neg (by omega)]; exact this
def syW (n : Nat) (z : Nat → Nat × Nat) : Blk := { body := .sy n fun k => CC (z k), elem := 28, live := true, ro := false, full := true }
def hpW (j n : Nat) (z : Nat → Nat × Nat) (v w u : Nat → Blk) (c : List C1) : List Blk := hv j v ++ syW n z :: (hv (19 - j) w ++ gotB c :: hv 2 u)
theorem mkS_all {n m : Nat} {Z : Nat → C1} : BlkLe (syZ n (mkS Z m n)) (syW n fun _ => (m, oneW)) := syZ_le fun j hj E u hr => by
  unfold mkS at hr
  rw [if_pos hj] at hr
  exact hr
theorem hpLe_app : ∀ {a a' b b' : List Blk}, HpLe a a' → HpLe b b' → HpLe (a ++ b) (a' ++ b')
  | [], [], _, _, _, h => h
  | _ :: _, _ :: _, _, _, h1, h2 => ⟨h1.1, hpLe_app h1.2 h2⟩
  | [], _ :: _, _, _, h1, _ => h1.elim
  | _ :: _, [], _, _, h1, _ => h1.elim
def gotC0 (n : Nat) (a b c : C1) : List C1 := [.sl 9 0 n 1, a, b, c]
theorem round45a_0 (n k : Nat) (Z : Nat → C1) (v w u : Nat → Blk) (a b c : C1) (X : Ex → Nat → List AV → List Blk → Prop) : roundK Tryd.prog T FT 300 c45a (tmL 131 (l45a 0 k)) (hpG 9 n Z v w u (gotC0 n a b c)) [.b true] [0, 3, 4] X =
  (decide ((k : Int) < n) = true ∧ (0 ≤ (k : Int) ∧ (k : Int) < n) ∧ placeN 0 (k : Int) 1 < n ∧ X .normal 131 [gotA, ic 0, iv (W (k + 1))] (hpG 9 n (updG Z (placeN 0 (k : Int) 1) (.sc (.complex .f64 0 oneW) true)) v w u (gotC0 n a b c))) := by kernel_rfl
theorem exit45a_0 (n k : Nat) (Z : Nat → C1) (v w u : Nat → Blk) (a b c : C1) (X : Ex → Nat → List AV → List Blk → Prop) : roundK Tryd.prog T FT 300 c45a (tmL 131 (l45a 0 k)) (hpG 9 n Z v w u (gotC0 n a b c)) [.b false] [0, 3] X =
  (decide ((k : Int) < n) = false ∧ X (.exit 2) 131 [gotA, ic 0] (hpG 9 n Z v w u (gotC0 n a b c))) := by kernel_rfl
theorem loop45a_0 {n : Nat} {Z : Nat → C1} {v w u : Nat → Blk} {a b c : C1} (hn : n ≤ 4096) : LoopOk Tryd.prog c45a (tmL 131 (l45a 0 0)) (hpG 9 n Z v w u (gotC0 n a b c)) (.exit 2) (tmL 131 [(0, gotA), (3, ic 0)]) (hpW 9 n (fun _ => (0, oneW)) v w u (gotC0 n a b c)) := by
  have e0 : Z = mkS Z 0 0 := by funext t; unfold mkS; rw [if_neg (by omega)]
  have e1 : hpG 9 n Z v w u (gotC0 n a b c) = hpG 9 n (mkS Z 0 0) v w u (gotC0 n a b c) := by rw [← e0]
  rw [e1]
  refine loop_rounds hm hT FTok 131 n (fun k => l45a 0 k) (fun k => hpG 9 n (mkS Z 0 k) v w u (gotC0 n a b c)) (.exit 2) _ _ (fun e => by cases e) (fun k hk => ⟨300, [.b true], ?_⟩) ⟨300, [.b false], ?_⟩ 0 (Nat.zero_le _)
  · show roundK Tryd.prog T FT 300 c45a (tmL 131 (l45a 0 k)) (hpG 9 n (mkS Z 0 k) v w u (gotC0 n a b c)) [.b true] [0, 3, 4] _
    rw [round45a_0, place1]
    refine ⟨decide_eq_true (by omega), ⟨by omega, by omega⟩, hk, rfl, rfl, ⟨sameV.refl _, sameV.refl _, iv_same _ _ ?_, trivial⟩, hpLe_app (HpLe.refl _) ⟨mkS_le, HpLe.refl _⟩⟩
    rw [Wid (by omega) (by omega)]; omega
  · show roundK Tryd.prog T FT 300 c45a (tmL 131 (l45a 0 n)) (hpG 9 n (mkS Z 0 n) v w u (gotC0 n a b c)) [.b false] [0, 3] _
    rw [exit45a_0]
    exact ⟨decide_eq_false (by omega), rfl, rfl, ⟨sameV.refl _, sameV.refl _, trivial⟩, hpLe_app (HpLe.refl _) ⟨mkS_all, HpLe.refl _⟩⟩
def gotC1 (n : Nat) (a b c : C1) : List C1 := [a, .sl 12 0 n 1, b, c]
theorem round45a_1 (n k : Nat) (Z : Nat → C1) (v w u : Nat → Blk) (a b c : C1) (X : Ex → Nat → List AV → List Blk → Prop) : roundK Tryd.prog T FT 300 c45a (tmL 131 (l45a 1 k)) (hpG 12 n Z v w u (gotC1 n a b c)) [.b true] [0, 3, 4] X =
  (decide ((k : Int) < n) = true ∧ (0 ≤ (k : Int) ∧ (k : Int) < n) ∧ placeN 0 (k : Int) 1 < n ∧ X .normal 131 [gotA, ic 1, iv (W (k + 1))] (hpG 12 n (updG Z (placeN 0 (k : Int) 1) (.sc (.complex .f64 4607182418800017408 oneW) true)) v w u (gotC1 n a b c))) := by kernel_rfl
theorem exit45a_1 (n k : Nat) (Z : Nat → C1) (v w u : Nat → Blk) (a b c : C1) (X : Ex → Nat → List AV → List Blk → Prop) : roundK Tryd.prog T FT 300 c45a (tmL 131 (l45a 1 k)) (hpG 12 n Z v w u (gotC1 n a b c)) [.b false] [0, 3] X =
  (decide ((k : Int) < n) = false ∧ X (.exit 2) 131 [gotA, ic 1] (hpG 12 n Z v w u (gotC1 n a b c))) := by kernel_rfl
theorem loop45a_1 {n : Nat} {Z : Nat → C1} {v w u : Nat → Blk} {a b c : C1} (hn : n ≤ 4096) : LoopOk Tryd.prog c45a (tmL 131 (l45a 1 0)) (hpG 12 n Z v w u (gotC1 n a b c)) (.exit 2) (tmL 131 [(0, gotA), (3, ic 1)]) (hpW 12 n (fun _ => (4607182418800017408, oneW)) v w u (gotC1 n a b c)) := by
  have e0 : Z = mkS Z 4607182418800017408 0 := by funext t; unfold mkS; rw [if_neg (by omega)]
  have e1 : hpG 12 n Z v w u (gotC1 n a b c) = hpG 12 n (mkS Z 4607182418800017408 0) v w u (gotC1 n a b c) := by rw [← e0]
  rw [e1]
  refine loop_rounds hm hT FTok 131 n (fun k => l45a 1 k) (fun k => hpG 12 n (mkS Z 4607182418800017408 k) v w u (gotC1 n a b c)) (.exit 2) _ _ (fun e => by cases e) (fun k hk => ⟨300, [.b true], ?_⟩) ⟨300, [.b false], ?_⟩ 0 (Nat.zero_le _)
  · show roundK Tryd.prog T FT 300 c45a (tmL 131 (l45a 1 k)) (hpG 12 n (mkS Z 4607182418800017408 k) v w u (gotC1 n a b c)) [.b true] [0, 3, 4] _
    rw [round45a_1, place1]
    refine ⟨decide_eq_true (by omega), ⟨by omega, by omega⟩, hk, rfl, rfl, ⟨sameV.refl _, sameV.refl _, iv_same _ _ ?_, trivial⟩, hpLe_app (HpLe.refl _) ⟨mkS_le, HpLe.refl _⟩⟩
    rw [Wid (by omega) (by omega)]; omega
  · show roundK Tryd.prog T FT 300 c45a (tmL 131 (l45a 1 n)) (hpG 12 n (mkS Z 4607182418800017408 n) v w u (gotC1 n a b c)) [.b false] [0, 3] _
    rw [exit45a_1]
    exact ⟨decide_eq_false (by omega), rfl, rfl, ⟨sameV.refl _, sameV.refl _, trivial⟩, hpLe_app (HpLe.refl _) ⟨mkS_all, HpLe.refl _⟩⟩
def gotC2 (n : Nat) (a b c : C1) : List C1 := [a, b, .sl 15 0 n 1, c]
theorem round45a_2 (n k : Nat) (Z : Nat → C1) (v w u : Nat → Blk) (a b c : C1) (X : Ex → Nat → List AV → List Blk → Prop) : roundK Tryd.prog T FT 300 c45a (tmL 131 (l45a 2 k)) (hpG 15 n Z v w u (gotC2 n a b c)) [.b true] [0, 3, 4] X =
  (decide ((k : Int) < n) = true ∧ (0 ≤ (k : Int) ∧ (k : Int) < n) ∧ placeN 0 (k : Int) 1 < n ∧ X .normal 131 [gotA, ic 2, iv (W (k + 1))] (hpG 15 n (updG Z (placeN 0 (k : Int) 1) (.sc (.complex .f64 4611686018427387904 oneW) true)) v w u (gotC2 n a b c))) := by kernel_rfl
theorem exit45a_2 (n k : Nat) (Z : Nat → C1) (v w u : Nat → Blk) (a b c : C1) (X : Ex → Nat → List AV → List Blk → Prop) : roundK Tryd.prog T FT 300 c45a (tmL 131 (l45a 2 k)) (hpG 15 n Z v w u (gotC2 n a b c)) [.b false] [0, 3] X =
  (decide ((k : Int) < n) = false ∧ X (.exit 2) 131 [gotA, ic 2] (hpG 15 n Z v w u (gotC2 n a b c))) := by kernel_rfl
theorem loop45a_2 {n : Nat} {Z : Nat → C1} {v w u : Nat → Blk} {a b c : C1} (hn : n ≤ 4096) : LoopOk Tryd.prog c45a (tmL 131 (l45a 2 0)) (hpG 15 n Z v w u (gotC2 n a b c)) (.exit 2) (tmL 131 [(0, gotA), (3, ic 2)]) (hpW 15 n (fun _ => (4611686018427387904, oneW)) v w u (gotC2 n a b c)) := by
  have e0 : Z = mkS Z 4611686018427387904 0 := by funext t; unfold mkS; rw [if_neg (by omega)]
  have e1 : hpG 15 n Z v w u (gotC2 n a b c) = hpG 15 n (mkS Z 4611686018427387904 0) v w u (gotC2 n a b c) := by rw [← e0]
  rw [e1]
  refine loop_rounds hm hT FTok 131 n (fun k => l45a 2 k) (fun k => hpG 15 n (mkS Z 4611686018427387904 k) v w u (gotC2 n a b c)) (.exit 2) _ _ (fun e => by cases e) (fun k hk => ⟨300, [.b true], ?_⟩) ⟨300, [.b false], ?_⟩ 0 (Nat.zero_le _)
  · show roundK Tryd.prog T FT 300 c45a (tmL 131 (l45a 2 k)) (hpG 15 n (mkS Z 4611686018427387904 k) v w u (gotC2 n a b c)) [.b true] [0, 3, 4] _
    rw [round45a_2, place1]
    refine ⟨decide_eq_true (by omega), ⟨by omega, by omega⟩, hk, rfl, rfl, ⟨sameV.refl _, sameV.refl _, iv_same _ _ ?_, trivial⟩, hpLe_app (HpLe.refl _) ⟨mkS_le, HpLe.refl _⟩⟩
    rw [Wid (by omega) (by omega)]; omega
  · show roundK Tryd.prog T FT 300 c45a (tmL 131 (l45a 2 n)) (hpG 15 n (mkS Z 4611686018427387904 n) v w u (gotC2 n a b c)) [.b false] [0, 3] _
    rw [exit45a_2]
    exact ⟨decide_eq_false (by omega), rfl, rfl, ⟨sameV.refl _, sameV.refl _, trivial⟩, hpLe_app (HpLe.refl _) ⟨mkS_all, HpLe.refl _⟩⟩
def gotC3 (n : Nat) (a b c : C1) : List C1 := [a, b, c, .sl 18 0 n 1]
theorem round45a_3 (n k : Nat) (Z : Nat → C1) (v w u : Nat → Blk) (a b c : C1) (X : Ex → Nat → List AV → List Blk → Prop) : roundK Tryd.prog T FT 300 c45a (tmL 131 (l45a 3 k)) (hpG 18 n Z v w u (gotC3 n a b c)) [.b true] [0, 3, 4] X =
  (decide ((k : Int) < n) = true ∧ (0 ≤ (k : Int) ∧ (k : Int) < n) ∧ placeN 0 (k : Int) 1 < n ∧ X .normal 131 [gotA, ic 3, iv (W (k + 1))] (hpG 18 n (updG Z (placeN 0 (k : Int) 1) (.sc (.complex .f64 4613937818241073152 oneW) true)) v w u (gotC3 n a b c))) := by kernel_rfl
theorem exit45a_3 (n k : Nat) (Z : Nat → C1) (v w u : Nat → Blk) (a b c : C1) (X : Ex → Nat → List AV → List Blk → Prop) : roundK Tryd.prog T FT 300 c45a (tmL 131 (l45a 3 k)) (hpG 18 n Z v w u (gotC3 n a b c)) [.b false] [0, 3] X =
  (decide ((k : Int) < n) = false ∧ X (.exit 2) 131 [gotA, ic 3] (hpG 18 n Z v w u (gotC3 n a b c))) := by kernel_rfl
theorem loop45a_3 {n : Nat} {Z : Nat → C1} {v w u : Nat → Blk} {a b c : C1} (hn : n ≤ 4096) : LoopOk Tryd.prog c45a (tmL 131 (l45a 3 0)) (hpG 18 n Z v w u (gotC3 n a b c)) (.exit 2) (tmL 131 [(0, gotA), (3, ic 3)]) (hpW 18 n (fun _ => (4613937818241073152, oneW)) v w u (gotC3 n a b c)) := by
  have e0 : Z = mkS Z 4613937818241073152 0 := by funext t; unfold mkS; rw [if_neg (by omega)]
  have e1 : hpG 18 n Z v w u (gotC3 n a b c) = hpG 18 n (mkS Z 4613937818241073152 0) v w u (gotC3 n a b c) := by rw [← e0]
  rw [e1]
  refine loop_rounds hm hT FTok 131 n (fun k => l45a 3 k) (fun k => hpG 18 n (mkS Z 4613937818241073152 k) v w u (gotC3 n a b c)) (.exit 2) _ _ (fun e => by cases e) (fun k hk => ⟨300, [.b true], ?_⟩) ⟨300, [.b false], ?_⟩ 0 (Nat.zero_le _)
  · show roundK Tryd.prog T FT 300 c45a (tmL 131 (l45a 3 k)) (hpG 18 n (mkS Z 4613937818241073152 k) v w u (gotC3 n a b c)) [.b true] [0, 3, 4] _
    rw [round45a_3, place1]
    refine ⟨decide_eq_true (by omega), ⟨by omega, by omega⟩, hk, rfl, rfl, ⟨sameV.refl _, sameV.refl _, iv_same _ _ ?_, trivial⟩, hpLe_app (HpLe.refl _) ⟨mkS_le, HpLe.refl _⟩⟩
    rw [Wid (by omega) (by omega)]; omega
  · show roundK Tryd.prog T FT 300 c45a (tmL 131 (l45a 3 n)) (hpG 18 n (mkS Z 4613937818241073152 n) v w u (gotC3 n a b c)) [.b false] [0, 3] _
    rw [exit45a_3]
    exact ⟨decide_eq_false (by omega), rfl, rfl, ⟨sameV.refl _, sameV.refl _, trivial⟩, hpLe_app (HpLe.refl _) ⟨mkS_all, HpLe.refl _⟩⟩
end Go.Proofs.YthddkcoflnbjbaaDoor
