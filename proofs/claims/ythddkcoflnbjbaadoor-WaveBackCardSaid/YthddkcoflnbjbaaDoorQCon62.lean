/-
  What is proved here: the loops of the laws' helper apart that look at the lists. A text to be imported.
-/
import Derived.Test.YthddkcoflnbjbaaDoorQCon61
namespace Go.Proofs.YthddkcoflnbjbaaDoor
open Sm Go Go.RowKit Fl Ieee
set_option maxRecDepth 1000000
set_option linter.unusedVariables false
def longA : AV := .one (.sl 34 0 4 1)
def l45c (i : Int) (k : Nat) : List (Nat × AV) := [(0, gotA), (5, longA), (9, ic i), (10, iv k)]
def neC (x y : Nat × Nat) : Bool := !(FloatKind.f64.format.order x.1 y.1 == some .eq && FloatKind.f64.format.order x.2 y.2 == some .eq)
theorem neC_of {x y : Nat × Nat} (h : FloatKind.f64.format.order x.1 y.1 = some .eq ∧ FloatKind.f64.format.order x.2 y.2 = some .eq) : neC x y = false := by
  unfold neC; rw [h.1, h.2]; rfl
def sgA : List Sg := [.b true, .b true, .b false, .b false, .b false, .b false]
def sgB : List Sg := [.b true, .b false, .b true, .b false, .b false, .b false]
theorem ord45_0 : FloatKind.f64.format.order 0 0 = some .eq := by decide +kernel
theorem ord45_1 : FloatKind.f64.format.order 4607182418800017408 4607182418800017408 = some .eq := by decide +kernel
theorem ord45_2 : FloatKind.f64.format.order 4611686018427387904 4611686018427387904 = some .eq := by decide +kernel
theorem ord45_3 : FloatKind.f64.format.order 4613937818241073152 4613937818241073152 = some .eq := by decide +kernel
def hc0 (n : Nat) (z q : Nat → Nat × Nat) (v w u o : Nat → Blk) (c d : List C1) : List Blk := hv 9 v ++ syW n z :: (hv 10 w ++ gotB c :: (hv 2 u ++ syL (n + 20) q :: (hv 10 o ++ [gotB d])))
def hcn0 (q : Nat → Nat × Nat) (v w u o : Nat → Blk) (c d : List C1) : List Blk := hv 20 v ++ gotB c :: (hv 2 u ++ syL (0 + 20) q :: (hv 10 o ++ [gotB d]))
def gotD0 (n : Nat) (a b c : C1) : List C1 := [.sl 23 0 (n + 20) 1, a, b, c]
def gotN0 (a b c : C1) : List C1 := [nilC, a, b, c]
theorem round45c_0 (n k : Nat) (z q : Nat → Nat × Nat) (v w u o : Nat → Blk) (a b c d e f : C1) (X : Ex → Nat → List AV → List Blk → Prop) : roundK Tryd.prog T0 FT 300 c45c (tmL 131 (l45c 0 k)) (hc0 n z q v w u o (gotC0 n a b c) (gotD0 n d e f)) sgA [0, 5, 9, 10] X =
  (decide ((k : Int) < (n + 20 : Nat)) = true ∧ decide ((k : Int) < n) = true ∧ (0 ≤ (k : Int) ∧ (k : Int) < n) ∧ placeN 0 (k : Int) 1 < n ∧ neC (z (placeN 0 (k : Int) 1)) (0, oneW) = false ∧ (0 ≤ (k : Int) ∧ (k : Int) < (n + 20 : Nat)) ∧ placeN 0 (k : Int) 1 < n + 20 ∧ (0 ≤ (k : Int) ∧ (k : Int) < n) ∧ placeN 0 (k : Int) 1 < n ∧
   neC (q (placeN 0 (k : Int) 1)) (z (placeN 0 (k : Int) 1)) = false ∧ decide ((k : Int) ≥ n) = false ∧ X .normal 131 [gotA, longA, ic 0, iv (W (k + 1))] (hc0 n z q v w u o (gotC0 n a b c) (gotD0 n d e f))) := by kernel_rfl
theorem roundd45c_0 (n k : Nat) (z q : Nat → Nat × Nat) (v w u o : Nat → Blk) (a b c d e f : C1) (X : Ex → Nat → List AV → List Blk → Prop) : roundK Tryd.prog T0 FT 300 c45c (tmL 131 (l45c 0 k)) (hc0 n z q v w u o (gotC0 n a b c) (gotD0 n d e f)) sgB [0, 5, 9, 10] X =
  (decide ((k : Int) < (n + 20 : Nat)) = true ∧ decide ((k : Int) < n) = false ∧ decide ((k : Int) ≥ n) = true ∧ (0 ≤ (k : Int) ∧ (k : Int) < (n + 20 : Nat)) ∧ placeN 0 (k : Int) 1 < n + 20 ∧ neC (q (placeN 0 (k : Int) 1)) (0, twoW) = false ∧
   X .normal 131 [gotA, longA, ic 0, iv (W (k + 1))] (hc0 n z q v w u o (gotC0 n a b c) (gotD0 n d e f))) := by kernel_rfl
theorem exit45c_0 (n k : Nat) (z q : Nat → Nat × Nat) (v w u o : Nat → Blk) (a b c d e f : C1) (X : Ex → Nat → List AV → List Blk → Prop) : roundK Tryd.prog T0 FT 300 c45c (tmL 131 (l45c 0 k)) (hc0 n z q v w u o (gotC0 n a b c) (gotD0 n d e f)) [.b false] [0, 5, 9] X =
  (decide ((k : Int) < (n + 20 : Nat)) = false ∧ X (.exit 10) 131 [gotA, longA, ic 0] (hc0 n z q v w u o (gotC0 n a b c) (gotD0 n d e f))) := by kernel_rfl
theorem loop45c_0 {n : Nat} {v w u o : Nat → Blk} {a b c d e f : C1} (hn : n ≤ 4096) : LoopOk Tryd.prog c45c (tmL 131 (l45c 0 0)) (hc0 n (fun _ => (0, oneW)) (lgW n 0) v w u o (gotC0 n a b c) (gotD0 n d e f)) (.exit 10) (tmL 131 [(0, gotA), (5, longA), (9, ic 0)]) (hc0 n (fun _ => (0, oneW)) (lgW n 0) v w u o (gotC0 n a b c) (gotD0 n d e f)) := by
  refine loop_rounds hm hT0 FTok 131 (n + 20) (fun k => l45c 0 k) (fun _ => hc0 n (fun _ => (0, oneW)) (lgW n 0) v w u o (gotC0 n a b c) (gotD0 n d e f)) (.exit 10) _ _ (fun e => by cases e) (fun k hk => ?_) ⟨300, [.b false], ?_⟩ 0 (Nat.zero_le _)
  · have hr20 : 0 ≤ (k : Int) ∧ (k : Int) < (n + 20 : Nat) := ⟨by omega, by omega⟩
    by_cases hkn : k < n
    · have hr : 0 ≤ (k : Int) ∧ (k : Int) < n := ⟨by omega, by omega⟩
      have e1 : lgW n 0 k = (0, oneW) := if_pos hkn
      refine ⟨300, sgA, ?_⟩
      show roundK Tryd.prog T0 FT 300 c45c (tmL 131 (l45c 0 k)) (hc0 n (fun _ => (0, oneW)) (lgW n 0) v w u o (gotC0 n a b c) (gotD0 n d e f)) sgA [0, 5, 9, 10] _
      rw [round45c_0, place1]
      refine ⟨decide_eq_true (by omega), decide_eq_true (by omega), hr, hkn, neC_of ⟨ord45_0, ord45_1⟩, hr20, hk, hr, hkn, by rw [e1]; exact neC_of ⟨ord45_0, ord45_1⟩, decide_eq_false (by omega), rfl, rfl, ⟨sameV.refl _, sameV.refl _, sameV.refl _, iv_same _ _ ?_, trivial⟩, HpLe.refl _⟩
      rw [Wid (by omega) (by omega)]; omega
    · have e1 : lgW n 0 k = (0, twoW) := if_neg hkn
      refine ⟨300, sgB, ?_⟩
      show roundK Tryd.prog T0 FT 300 c45c (tmL 131 (l45c 0 k)) (hc0 n (fun _ => (0, oneW)) (lgW n 0) v w u o (gotC0 n a b c) (gotD0 n d e f)) sgB [0, 5, 9, 10] _
      rw [roundd45c_0, place1]
      refine ⟨decide_eq_true (by omega), decide_eq_false (by omega), decide_eq_true (by omega), hr20, hk, by rw [e1]; exact neC_of ⟨ord45_0, ord45_2⟩, rfl, rfl, ⟨sameV.refl _, sameV.refl _, sameV.refl _, iv_same _ _ ?_, trivial⟩, HpLe.refl _⟩
      rw [Wid (by omega) (by omega)]; omega
  · show roundK Tryd.prog T0 FT 300 c45c (tmL 131 (l45c 0 (n + 20 : Nat))) (hc0 n (fun _ => (0, oneW)) (lgW n 0) v w u o (gotC0 n a b c) (gotD0 n d e f)) [.b false] [0, 5, 9] _
    rw [exit45c_0]
    exact ⟨decide_eq_false (by omega), rfl, rfl, ⟨sameV.refl _, sameV.refl _, sameV.refl _, trivial⟩, HpLe.refl _⟩
theorem roundn45c_0 (k : Nat) (q : Nat → Nat × Nat) (v w u o : Nat → Blk) (a b c d e f : C1) (X : Ex → Nat → List AV → List Blk → Prop) : roundK Tryd.prog T0 FT 300 c45c (tmL 131 (l45c 0 k)) (hcn0 q v w u o (gotN0 a b c) (gotD0 0 d e f)) sgB [0, 5, 9, 10] X =
  (decide ((k : Int) < (0 + 20 : Nat)) = true ∧ decide ((k : Int) < 0) = false ∧ decide ((k : Int) ≥ 0) = true ∧ (0 ≤ (k : Int) ∧ (k : Int) < (0 + 20 : Nat)) ∧ placeN 0 (k : Int) 1 < 0 + 20 ∧ neC (q (placeN 0 (k : Int) 1)) (0, twoW) = false ∧
   X .normal 131 [gotA, longA, ic 0, iv (W (k + 1))] (hcn0 q v w u o (gotN0 a b c) (gotD0 0 d e f))) := by kernel_rfl
theorem exitn45c_0 (k : Nat) (q : Nat → Nat × Nat) (v w u o : Nat → Blk) (a b c d e f : C1) (X : Ex → Nat → List AV → List Blk → Prop) : roundK Tryd.prog T0 FT 300 c45c (tmL 131 (l45c 0 k)) (hcn0 q v w u o (gotN0 a b c) (gotD0 0 d e f)) [.b false] [0, 5, 9] X =
  (decide ((k : Int) < (0 + 20 : Nat)) = false ∧ X (.exit 10) 131 [gotA, longA, ic 0] (hcn0 q v w u o (gotN0 a b c) (gotD0 0 d e f))) := by kernel_rfl
theorem loopn45c_0 {v w u o : Nat → Blk} {a b c d e f : C1} : LoopOk Tryd.prog c45c (tmL 131 (l45c 0 0)) (hcn0 (lgW 0 0) v w u o (gotN0 a b c) (gotD0 0 d e f)) (.exit 10) (tmL 131 [(0, gotA), (5, longA), (9, ic 0)]) (hcn0 (lgW 0 0) v w u o (gotN0 a b c) (gotD0 0 d e f)) := by
  refine loop_rounds hm hT0 FTok 131 (0 + 20) (fun k => l45c 0 k) (fun _ => hcn0 (lgW 0 0) v w u o (gotN0 a b c) (gotD0 0 d e f)) (.exit 10) _ _ (fun e => by cases e) (fun k hk => ?_) ⟨300, [.b false], ?_⟩ 0 (Nat.zero_le _)
  · have hr20 : 0 ≤ (k : Int) ∧ (k : Int) < (0 + 20 : Nat) := ⟨by omega, by omega⟩
    have e1 : lgW 0 0 k = (0, twoW) := if_neg (by omega)
    refine ⟨300, sgB, ?_⟩
    show roundK Tryd.prog T0 FT 300 c45c (tmL 131 (l45c 0 k)) (hcn0 (lgW 0 0) v w u o (gotN0 a b c) (gotD0 0 d e f)) sgB [0, 5, 9, 10] _
    rw [roundn45c_0, place1]
    refine ⟨decide_eq_true (by omega), decide_eq_false (by omega), decide_eq_true (by omega), hr20, hk, by rw [e1]; exact neC_of ⟨ord45_0, ord45_2⟩, rfl, rfl, ⟨sameV.refl _, sameV.refl _, sameV.refl _, iv_same _ _ ?_, trivial⟩, HpLe.refl _⟩
    rw [Wid (by omega) (by omega)]; omega
  · show roundK Tryd.prog T0 FT 300 c45c (tmL 131 (l45c 0 (0 + 20 : Nat))) (hcn0 (lgW 0 0) v w u o (gotN0 a b c) (gotD0 0 d e f)) [.b false] [0, 5, 9] _
    rw [exitn45c_0]
    exact ⟨decide_eq_false (by omega), rfl, rfl, ⟨sameV.refl _, sameV.refl _, sameV.refl _, trivial⟩, HpLe.refl _⟩
def hc1 (n : Nat) (z q : Nat → Nat × Nat) (v w u o : Nat → Blk) (c d : List C1) : List Blk := hv 12 v ++ syW n z :: (hv 7 w ++ gotB c :: (hv 5 u ++ syL (n + 20) q :: (hv 7 o ++ [gotB d])))
def hcn1 (q : Nat → Nat × Nat) (v w u o : Nat → Blk) (c d : List C1) : List Blk := hv 20 v ++ gotB c :: (hv 5 u ++ syL (0 + 20) q :: (hv 7 o ++ [gotB d]))
def gotD1 (n : Nat) (a b c : C1) : List C1 := [a, .sl 26 0 (n + 20) 1, b, c]
def gotN1 (a b c : C1) : List C1 := [a, nilC, b, c]
theorem round45c_1 (n k : Nat) (z q : Nat → Nat × Nat) (v w u o : Nat → Blk) (a b c d e f : C1) (X : Ex → Nat → List AV → List Blk → Prop) : roundK Tryd.prog T0 FT 300 c45c (tmL 131 (l45c 1 k)) (hc1 n z q v w u o (gotC1 n a b c) (gotD1 n d e f)) sgA [0, 5, 9, 10] X =
  (decide ((k : Int) < (n + 20 : Nat)) = true ∧ decide ((k : Int) < n) = true ∧ (0 ≤ (k : Int) ∧ (k : Int) < n) ∧ placeN 0 (k : Int) 1 < n ∧ neC (z (placeN 0 (k : Int) 1)) (4607182418800017408, oneW) = false ∧ (0 ≤ (k : Int) ∧ (k : Int) < (n + 20 : Nat)) ∧ placeN 0 (k : Int) 1 < n + 20 ∧ (0 ≤ (k : Int) ∧ (k : Int) < n) ∧ placeN 0 (k : Int) 1 < n ∧
   neC (q (placeN 0 (k : Int) 1)) (z (placeN 0 (k : Int) 1)) = false ∧ decide ((k : Int) ≥ n) = false ∧ X .normal 131 [gotA, longA, ic 1, iv (W (k + 1))] (hc1 n z q v w u o (gotC1 n a b c) (gotD1 n d e f))) := by kernel_rfl
theorem roundd45c_1 (n k : Nat) (z q : Nat → Nat × Nat) (v w u o : Nat → Blk) (a b c d e f : C1) (X : Ex → Nat → List AV → List Blk → Prop) : roundK Tryd.prog T0 FT 300 c45c (tmL 131 (l45c 1 k)) (hc1 n z q v w u o (gotC1 n a b c) (gotD1 n d e f)) sgB [0, 5, 9, 10] X =
  (decide ((k : Int) < (n + 20 : Nat)) = true ∧ decide ((k : Int) < n) = false ∧ decide ((k : Int) ≥ n) = true ∧ (0 ≤ (k : Int) ∧ (k : Int) < (n + 20 : Nat)) ∧ placeN 0 (k : Int) 1 < n + 20 ∧ neC (q (placeN 0 (k : Int) 1)) (4607182418800017408, twoW) = false ∧
   X .normal 131 [gotA, longA, ic 1, iv (W (k + 1))] (hc1 n z q v w u o (gotC1 n a b c) (gotD1 n d e f))) := by kernel_rfl
theorem exit45c_1 (n k : Nat) (z q : Nat → Nat × Nat) (v w u o : Nat → Blk) (a b c d e f : C1) (X : Ex → Nat → List AV → List Blk → Prop) : roundK Tryd.prog T0 FT 300 c45c (tmL 131 (l45c 1 k)) (hc1 n z q v w u o (gotC1 n a b c) (gotD1 n d e f)) [.b false] [0, 5, 9] X =
  (decide ((k : Int) < (n + 20 : Nat)) = false ∧ X (.exit 10) 131 [gotA, longA, ic 1] (hc1 n z q v w u o (gotC1 n a b c) (gotD1 n d e f))) := by kernel_rfl
theorem loop45c_1 {n : Nat} {v w u o : Nat → Blk} {a b c d e f : C1} (hn : n ≤ 4096) : LoopOk Tryd.prog c45c (tmL 131 (l45c 1 0)) (hc1 n (fun _ => (4607182418800017408, oneW)) (lgW n 4607182418800017408) v w u o (gotC1 n a b c) (gotD1 n d e f)) (.exit 10) (tmL 131 [(0, gotA), (5, longA), (9, ic 1)]) (hc1 n (fun _ => (4607182418800017408, oneW)) (lgW n 4607182418800017408) v w u o (gotC1 n a b c) (gotD1 n d e f)) := by
  refine loop_rounds hm hT0 FTok 131 (n + 20) (fun k => l45c 1 k) (fun _ => hc1 n (fun _ => (4607182418800017408, oneW)) (lgW n 4607182418800017408) v w u o (gotC1 n a b c) (gotD1 n d e f)) (.exit 10) _ _ (fun e => by cases e) (fun k hk => ?_) ⟨300, [.b false], ?_⟩ 0 (Nat.zero_le _)
  · have hr20 : 0 ≤ (k : Int) ∧ (k : Int) < (n + 20 : Nat) := ⟨by omega, by omega⟩
    by_cases hkn : k < n
    · have hr : 0 ≤ (k : Int) ∧ (k : Int) < n := ⟨by omega, by omega⟩
      have e1 : lgW n 4607182418800017408 k = (4607182418800017408, oneW) := if_pos hkn
      refine ⟨300, sgA, ?_⟩
      show roundK Tryd.prog T0 FT 300 c45c (tmL 131 (l45c 1 k)) (hc1 n (fun _ => (4607182418800017408, oneW)) (lgW n 4607182418800017408) v w u o (gotC1 n a b c) (gotD1 n d e f)) sgA [0, 5, 9, 10] _
      rw [round45c_1, place1]
      refine ⟨decide_eq_true (by omega), decide_eq_true (by omega), hr, hkn, neC_of ⟨ord45_1, ord45_1⟩, hr20, hk, hr, hkn, by rw [e1]; exact neC_of ⟨ord45_1, ord45_1⟩, decide_eq_false (by omega), rfl, rfl, ⟨sameV.refl _, sameV.refl _, sameV.refl _, iv_same _ _ ?_, trivial⟩, HpLe.refl _⟩
      rw [Wid (by omega) (by omega)]; omega
    · have e1 : lgW n 4607182418800017408 k = (4607182418800017408, twoW) := if_neg hkn
      refine ⟨300, sgB, ?_⟩
      show roundK Tryd.prog T0 FT 300 c45c (tmL 131 (l45c 1 k)) (hc1 n (fun _ => (4607182418800017408, oneW)) (lgW n 4607182418800017408) v w u o (gotC1 n a b c) (gotD1 n d e f)) sgB [0, 5, 9, 10] _
      rw [roundd45c_1, place1]
      refine ⟨decide_eq_true (by omega), decide_eq_false (by omega), decide_eq_true (by omega), hr20, hk, by rw [e1]; exact neC_of ⟨ord45_1, ord45_2⟩, rfl, rfl, ⟨sameV.refl _, sameV.refl _, sameV.refl _, iv_same _ _ ?_, trivial⟩, HpLe.refl _⟩
      rw [Wid (by omega) (by omega)]; omega
  · show roundK Tryd.prog T0 FT 300 c45c (tmL 131 (l45c 1 (n + 20 : Nat))) (hc1 n (fun _ => (4607182418800017408, oneW)) (lgW n 4607182418800017408) v w u o (gotC1 n a b c) (gotD1 n d e f)) [.b false] [0, 5, 9] _
    rw [exit45c_1]
    exact ⟨decide_eq_false (by omega), rfl, rfl, ⟨sameV.refl _, sameV.refl _, sameV.refl _, trivial⟩, HpLe.refl _⟩
theorem roundn45c_1 (k : Nat) (q : Nat → Nat × Nat) (v w u o : Nat → Blk) (a b c d e f : C1) (X : Ex → Nat → List AV → List Blk → Prop) : roundK Tryd.prog T0 FT 300 c45c (tmL 131 (l45c 1 k)) (hcn1 q v w u o (gotN1 a b c) (gotD1 0 d e f)) sgB [0, 5, 9, 10] X =
  (decide ((k : Int) < (0 + 20 : Nat)) = true ∧ decide ((k : Int) < 0) = false ∧ decide ((k : Int) ≥ 0) = true ∧ (0 ≤ (k : Int) ∧ (k : Int) < (0 + 20 : Nat)) ∧ placeN 0 (k : Int) 1 < 0 + 20 ∧ neC (q (placeN 0 (k : Int) 1)) (4607182418800017408, twoW) = false ∧
   X .normal 131 [gotA, longA, ic 1, iv (W (k + 1))] (hcn1 q v w u o (gotN1 a b c) (gotD1 0 d e f))) := by kernel_rfl
theorem exitn45c_1 (k : Nat) (q : Nat → Nat × Nat) (v w u o : Nat → Blk) (a b c d e f : C1) (X : Ex → Nat → List AV → List Blk → Prop) : roundK Tryd.prog T0 FT 300 c45c (tmL 131 (l45c 1 k)) (hcn1 q v w u o (gotN1 a b c) (gotD1 0 d e f)) [.b false] [0, 5, 9] X =
  (decide ((k : Int) < (0 + 20 : Nat)) = false ∧ X (.exit 10) 131 [gotA, longA, ic 1] (hcn1 q v w u o (gotN1 a b c) (gotD1 0 d e f))) := by kernel_rfl
theorem loopn45c_1 {v w u o : Nat → Blk} {a b c d e f : C1} : LoopOk Tryd.prog c45c (tmL 131 (l45c 1 0)) (hcn1 (lgW 0 4607182418800017408) v w u o (gotN1 a b c) (gotD1 0 d e f)) (.exit 10) (tmL 131 [(0, gotA), (5, longA), (9, ic 1)]) (hcn1 (lgW 0 4607182418800017408) v w u o (gotN1 a b c) (gotD1 0 d e f)) := by
  refine loop_rounds hm hT0 FTok 131 (0 + 20) (fun k => l45c 1 k) (fun _ => hcn1 (lgW 0 4607182418800017408) v w u o (gotN1 a b c) (gotD1 0 d e f)) (.exit 10) _ _ (fun e => by cases e) (fun k hk => ?_) ⟨300, [.b false], ?_⟩ 0 (Nat.zero_le _)
  · have hr20 : 0 ≤ (k : Int) ∧ (k : Int) < (0 + 20 : Nat) := ⟨by omega, by omega⟩
    have e1 : lgW 0 4607182418800017408 k = (4607182418800017408, twoW) := if_neg (by omega)
    refine ⟨300, sgB, ?_⟩
    show roundK Tryd.prog T0 FT 300 c45c (tmL 131 (l45c 1 k)) (hcn1 (lgW 0 4607182418800017408) v w u o (gotN1 a b c) (gotD1 0 d e f)) sgB [0, 5, 9, 10] _
    rw [roundn45c_1, place1]
    refine ⟨decide_eq_true (by omega), decide_eq_false (by omega), decide_eq_true (by omega), hr20, hk, by rw [e1]; exact neC_of ⟨ord45_1, ord45_2⟩, rfl, rfl, ⟨sameV.refl _, sameV.refl _, sameV.refl _, iv_same _ _ ?_, trivial⟩, HpLe.refl _⟩
    rw [Wid (by omega) (by omega)]; omega
  · show roundK Tryd.prog T0 FT 300 c45c (tmL 131 (l45c 1 (0 + 20 : Nat))) (hcn1 (lgW 0 4607182418800017408) v w u o (gotN1 a b c) (gotD1 0 d e f)) [.b false] [0, 5, 9] _
    rw [exitn45c_1]
    exact ⟨decide_eq_false (by omega), rfl, rfl, ⟨sameV.refl _, sameV.refl _, sameV.refl _, trivial⟩, HpLe.refl _⟩
def hc2 (n : Nat) (z q : Nat → Nat × Nat) (v w u o : Nat → Blk) (c d : List C1) : List Blk := hv 15 v ++ syW n z :: (hv 4 w ++ gotB c :: (hv 8 u ++ syL (n + 20) q :: (hv 4 o ++ [gotB d])))
def hcn2 (q : Nat → Nat × Nat) (v w u o : Nat → Blk) (c d : List C1) : List Blk := hv 20 v ++ gotB c :: (hv 8 u ++ syL (0 + 20) q :: (hv 4 o ++ [gotB d]))
def gotD2 (n : Nat) (a b c : C1) : List C1 := [a, b, .sl 29 0 (n + 20) 1, c]
def gotN2 (a b c : C1) : List C1 := [a, b, nilC, c]
theorem round45c_2 (n k : Nat) (z q : Nat → Nat × Nat) (v w u o : Nat → Blk) (a b c d e f : C1) (X : Ex → Nat → List AV → List Blk → Prop) : roundK Tryd.prog T0 FT 300 c45c (tmL 131 (l45c 2 k)) (hc2 n z q v w u o (gotC2 n a b c) (gotD2 n d e f)) sgA [0, 5, 9, 10] X =
  (decide ((k : Int) < (n + 20 : Nat)) = true ∧ decide ((k : Int) < n) = true ∧ (0 ≤ (k : Int) ∧ (k : Int) < n) ∧ placeN 0 (k : Int) 1 < n ∧ neC (z (placeN 0 (k : Int) 1)) (4611686018427387904, oneW) = false ∧ (0 ≤ (k : Int) ∧ (k : Int) < (n + 20 : Nat)) ∧ placeN 0 (k : Int) 1 < n + 20 ∧ (0 ≤ (k : Int) ∧ (k : Int) < n) ∧ placeN 0 (k : Int) 1 < n ∧
   neC (q (placeN 0 (k : Int) 1)) (z (placeN 0 (k : Int) 1)) = false ∧ decide ((k : Int) ≥ n) = false ∧ X .normal 131 [gotA, longA, ic 2, iv (W (k + 1))] (hc2 n z q v w u o (gotC2 n a b c) (gotD2 n d e f))) := by kernel_rfl
theorem roundd45c_2 (n k : Nat) (z q : Nat → Nat × Nat) (v w u o : Nat → Blk) (a b c d e f : C1) (X : Ex → Nat → List AV → List Blk → Prop) : roundK Tryd.prog T0 FT 300 c45c (tmL 131 (l45c 2 k)) (hc2 n z q v w u o (gotC2 n a b c) (gotD2 n d e f)) sgB [0, 5, 9, 10] X =
  (decide ((k : Int) < (n + 20 : Nat)) = true ∧ decide ((k : Int) < n) = false ∧ decide ((k : Int) ≥ n) = true ∧ (0 ≤ (k : Int) ∧ (k : Int) < (n + 20 : Nat)) ∧ placeN 0 (k : Int) 1 < n + 20 ∧ neC (q (placeN 0 (k : Int) 1)) (4611686018427387904, twoW) = false ∧
   X .normal 131 [gotA, longA, ic 2, iv (W (k + 1))] (hc2 n z q v w u o (gotC2 n a b c) (gotD2 n d e f))) := by kernel_rfl
theorem exit45c_2 (n k : Nat) (z q : Nat → Nat × Nat) (v w u o : Nat → Blk) (a b c d e f : C1) (X : Ex → Nat → List AV → List Blk → Prop) : roundK Tryd.prog T0 FT 300 c45c (tmL 131 (l45c 2 k)) (hc2 n z q v w u o (gotC2 n a b c) (gotD2 n d e f)) [.b false] [0, 5, 9] X =
  (decide ((k : Int) < (n + 20 : Nat)) = false ∧ X (.exit 10) 131 [gotA, longA, ic 2] (hc2 n z q v w u o (gotC2 n a b c) (gotD2 n d e f))) := by kernel_rfl
theorem loop45c_2 {n : Nat} {v w u o : Nat → Blk} {a b c d e f : C1} (hn : n ≤ 4096) : LoopOk Tryd.prog c45c (tmL 131 (l45c 2 0)) (hc2 n (fun _ => (4611686018427387904, oneW)) (lgW n 4611686018427387904) v w u o (gotC2 n a b c) (gotD2 n d e f)) (.exit 10) (tmL 131 [(0, gotA), (5, longA), (9, ic 2)]) (hc2 n (fun _ => (4611686018427387904, oneW)) (lgW n 4611686018427387904) v w u o (gotC2 n a b c) (gotD2 n d e f)) := by
  refine loop_rounds hm hT0 FTok 131 (n + 20) (fun k => l45c 2 k) (fun _ => hc2 n (fun _ => (4611686018427387904, oneW)) (lgW n 4611686018427387904) v w u o (gotC2 n a b c) (gotD2 n d e f)) (.exit 10) _ _ (fun e => by cases e) (fun k hk => ?_) ⟨300, [.b false], ?_⟩ 0 (Nat.zero_le _)
  · have hr20 : 0 ≤ (k : Int) ∧ (k : Int) < (n + 20 : Nat) := ⟨by omega, by omega⟩
    by_cases hkn : k < n
    · have hr : 0 ≤ (k : Int) ∧ (k : Int) < n := ⟨by omega, by omega⟩
      have e1 : lgW n 4611686018427387904 k = (4611686018427387904, oneW) := if_pos hkn
      refine ⟨300, sgA, ?_⟩
      show roundK Tryd.prog T0 FT 300 c45c (tmL 131 (l45c 2 k)) (hc2 n (fun _ => (4611686018427387904, oneW)) (lgW n 4611686018427387904) v w u o (gotC2 n a b c) (gotD2 n d e f)) sgA [0, 5, 9, 10] _
      rw [round45c_2, place1]
      refine ⟨decide_eq_true (by omega), decide_eq_true (by omega), hr, hkn, neC_of ⟨ord45_2, ord45_1⟩, hr20, hk, hr, hkn, by rw [e1]; exact neC_of ⟨ord45_2, ord45_1⟩, decide_eq_false (by omega), rfl, rfl, ⟨sameV.refl _, sameV.refl _, sameV.refl _, iv_same _ _ ?_, trivial⟩, HpLe.refl _⟩
      rw [Wid (by omega) (by omega)]; omega
    · have e1 : lgW n 4611686018427387904 k = (4611686018427387904, twoW) := if_neg hkn
      refine ⟨300, sgB, ?_⟩
      show roundK Tryd.prog T0 FT 300 c45c (tmL 131 (l45c 2 k)) (hc2 n (fun _ => (4611686018427387904, oneW)) (lgW n 4611686018427387904) v w u o (gotC2 n a b c) (gotD2 n d e f)) sgB [0, 5, 9, 10] _
      rw [roundd45c_2, place1]
      refine ⟨decide_eq_true (by omega), decide_eq_false (by omega), decide_eq_true (by omega), hr20, hk, by rw [e1]; exact neC_of ⟨ord45_2, ord45_2⟩, rfl, rfl, ⟨sameV.refl _, sameV.refl _, sameV.refl _, iv_same _ _ ?_, trivial⟩, HpLe.refl _⟩
      rw [Wid (by omega) (by omega)]; omega
  · show roundK Tryd.prog T0 FT 300 c45c (tmL 131 (l45c 2 (n + 20 : Nat))) (hc2 n (fun _ => (4611686018427387904, oneW)) (lgW n 4611686018427387904) v w u o (gotC2 n a b c) (gotD2 n d e f)) [.b false] [0, 5, 9] _
    rw [exit45c_2]
    exact ⟨decide_eq_false (by omega), rfl, rfl, ⟨sameV.refl _, sameV.refl _, sameV.refl _, trivial⟩, HpLe.refl _⟩
theorem roundn45c_2 (k : Nat) (q : Nat → Nat × Nat) (v w u o : Nat → Blk) (a b c d e f : C1) (X : Ex → Nat → List AV → List Blk → Prop) : roundK Tryd.prog T0 FT 300 c45c (tmL 131 (l45c 2 k)) (hcn2 q v w u o (gotN2 a b c) (gotD2 0 d e f)) sgB [0, 5, 9, 10] X =
  (decide ((k : Int) < (0 + 20 : Nat)) = true ∧ decide ((k : Int) < 0) = false ∧ decide ((k : Int) ≥ 0) = true ∧ (0 ≤ (k : Int) ∧ (k : Int) < (0 + 20 : Nat)) ∧ placeN 0 (k : Int) 1 < 0 + 20 ∧ neC (q (placeN 0 (k : Int) 1)) (4611686018427387904, twoW) = false ∧
   X .normal 131 [gotA, longA, ic 2, iv (W (k + 1))] (hcn2 q v w u o (gotN2 a b c) (gotD2 0 d e f))) := by kernel_rfl
theorem exitn45c_2 (k : Nat) (q : Nat → Nat × Nat) (v w u o : Nat → Blk) (a b c d e f : C1) (X : Ex → Nat → List AV → List Blk → Prop) : roundK Tryd.prog T0 FT 300 c45c (tmL 131 (l45c 2 k)) (hcn2 q v w u o (gotN2 a b c) (gotD2 0 d e f)) [.b false] [0, 5, 9] X =
  (decide ((k : Int) < (0 + 20 : Nat)) = false ∧ X (.exit 10) 131 [gotA, longA, ic 2] (hcn2 q v w u o (gotN2 a b c) (gotD2 0 d e f))) := by kernel_rfl
theorem loopn45c_2 {v w u o : Nat → Blk} {a b c d e f : C1} : LoopOk Tryd.prog c45c (tmL 131 (l45c 2 0)) (hcn2 (lgW 0 4611686018427387904) v w u o (gotN2 a b c) (gotD2 0 d e f)) (.exit 10) (tmL 131 [(0, gotA), (5, longA), (9, ic 2)]) (hcn2 (lgW 0 4611686018427387904) v w u o (gotN2 a b c) (gotD2 0 d e f)) := by
  refine loop_rounds hm hT0 FTok 131 (0 + 20) (fun k => l45c 2 k) (fun _ => hcn2 (lgW 0 4611686018427387904) v w u o (gotN2 a b c) (gotD2 0 d e f)) (.exit 10) _ _ (fun e => by cases e) (fun k hk => ?_) ⟨300, [.b false], ?_⟩ 0 (Nat.zero_le _)
  · have hr20 : 0 ≤ (k : Int) ∧ (k : Int) < (0 + 20 : Nat) := ⟨by omega, by omega⟩
    have e1 : lgW 0 4611686018427387904 k = (4611686018427387904, twoW) := if_neg (by omega)
    refine ⟨300, sgB, ?_⟩
    show roundK Tryd.prog T0 FT 300 c45c (tmL 131 (l45c 2 k)) (hcn2 (lgW 0 4611686018427387904) v w u o (gotN2 a b c) (gotD2 0 d e f)) sgB [0, 5, 9, 10] _
    rw [roundn45c_2, place1]
    refine ⟨decide_eq_true (by omega), decide_eq_false (by omega), decide_eq_true (by omega), hr20, hk, by rw [e1]; exact neC_of ⟨ord45_2, ord45_2⟩, rfl, rfl, ⟨sameV.refl _, sameV.refl _, sameV.refl _, iv_same _ _ ?_, trivial⟩, HpLe.refl _⟩
    rw [Wid (by omega) (by omega)]; omega
  · show roundK Tryd.prog T0 FT 300 c45c (tmL 131 (l45c 2 (0 + 20 : Nat))) (hcn2 (lgW 0 4611686018427387904) v w u o (gotN2 a b c) (gotD2 0 d e f)) [.b false] [0, 5, 9] _
    rw [exitn45c_2]
    exact ⟨decide_eq_false (by omega), rfl, rfl, ⟨sameV.refl _, sameV.refl _, sameV.refl _, trivial⟩, HpLe.refl _⟩
def hc3 (n : Nat) (z q : Nat → Nat × Nat) (v w u o : Nat → Blk) (c d : List C1) : List Blk := hv 18 v ++ syW n z :: (hv 1 w ++ gotB c :: (hv 11 u ++ syL (n + 20) q :: (hv 1 o ++ [gotB d])))
def hcn3 (q : Nat → Nat × Nat) (v w u o : Nat → Blk) (c d : List C1) : List Blk := hv 20 v ++ gotB c :: (hv 11 u ++ syL (0 + 20) q :: (hv 1 o ++ [gotB d]))
def gotD3 (n : Nat) (a b c : C1) : List C1 := [a, b, c, .sl 32 0 (n + 20) 1]
def gotN3 (a b c : C1) : List C1 := [a, b, c, nilC]
theorem round45c_3 (n k : Nat) (z q : Nat → Nat × Nat) (v w u o : Nat → Blk) (a b c d e f : C1) (X : Ex → Nat → List AV → List Blk → Prop) : roundK Tryd.prog T0 FT 300 c45c (tmL 131 (l45c 3 k)) (hc3 n z q v w u o (gotC3 n a b c) (gotD3 n d e f)) sgA [0, 5, 9, 10] X =
  (decide ((k : Int) < (n + 20 : Nat)) = true ∧ decide ((k : Int) < n) = true ∧ (0 ≤ (k : Int) ∧ (k : Int) < n) ∧ placeN 0 (k : Int) 1 < n ∧ neC (z (placeN 0 (k : Int) 1)) (4613937818241073152, oneW) = false ∧ (0 ≤ (k : Int) ∧ (k : Int) < (n + 20 : Nat)) ∧ placeN 0 (k : Int) 1 < n + 20 ∧ (0 ≤ (k : Int) ∧ (k : Int) < n) ∧ placeN 0 (k : Int) 1 < n ∧
   neC (q (placeN 0 (k : Int) 1)) (z (placeN 0 (k : Int) 1)) = false ∧ decide ((k : Int) ≥ n) = false ∧ X .normal 131 [gotA, longA, ic 3, iv (W (k + 1))] (hc3 n z q v w u o (gotC3 n a b c) (gotD3 n d e f))) := by kernel_rfl
theorem roundd45c_3 (n k : Nat) (z q : Nat → Nat × Nat) (v w u o : Nat → Blk) (a b c d e f : C1) (X : Ex → Nat → List AV → List Blk → Prop) : roundK Tryd.prog T0 FT 300 c45c (tmL 131 (l45c 3 k)) (hc3 n z q v w u o (gotC3 n a b c) (gotD3 n d e f)) sgB [0, 5, 9, 10] X =
  (decide ((k : Int) < (n + 20 : Nat)) = true ∧ decide ((k : Int) < n) = false ∧ decide ((k : Int) ≥ n) = true ∧ (0 ≤ (k : Int) ∧ (k : Int) < (n + 20 : Nat)) ∧ placeN 0 (k : Int) 1 < n + 20 ∧ neC (q (placeN 0 (k : Int) 1)) (4613937818241073152, twoW) = false ∧
   X .normal 131 [gotA, longA, ic 3, iv (W (k + 1))] (hc3 n z q v w u o (gotC3 n a b c) (gotD3 n d e f))) := by kernel_rfl
theorem exit45c_3 (n k : Nat) (z q : Nat → Nat × Nat) (v w u o : Nat → Blk) (a b c d e f : C1) (X : Ex → Nat → List AV → List Blk → Prop) : roundK Tryd.prog T0 FT 300 c45c (tmL 131 (l45c 3 k)) (hc3 n z q v w u o (gotC3 n a b c) (gotD3 n d e f)) [.b false] [0, 5, 9] X =
  (decide ((k : Int) < (n + 20 : Nat)) = false ∧ X (.exit 10) 131 [gotA, longA, ic 3] (hc3 n z q v w u o (gotC3 n a b c) (gotD3 n d e f))) := by kernel_rfl
theorem loop45c_3 {n : Nat} {v w u o : Nat → Blk} {a b c d e f : C1} (hn : n ≤ 4096) : LoopOk Tryd.prog c45c (tmL 131 (l45c 3 0)) (hc3 n (fun _ => (4613937818241073152, oneW)) (lgW n 4613937818241073152) v w u o (gotC3 n a b c) (gotD3 n d e f)) (.exit 10) (tmL 131 [(0, gotA), (5, longA), (9, ic 3)]) (hc3 n (fun _ => (4613937818241073152, oneW)) (lgW n 4613937818241073152) v w u o (gotC3 n a b c) (gotD3 n d e f)) := by
  refine loop_rounds hm hT0 FTok 131 (n + 20) (fun k => l45c 3 k) (fun _ => hc3 n (fun _ => (4613937818241073152, oneW)) (lgW n 4613937818241073152) v w u o (gotC3 n a b c) (gotD3 n d e f)) (.exit 10) _ _ (fun e => by cases e) (fun k hk => ?_) ⟨300, [.b false], ?_⟩ 0 (Nat.zero_le _)
  · have hr20 : 0 ≤ (k : Int) ∧ (k : Int) < (n + 20 : Nat) := ⟨by omega, by omega⟩
    by_cases hkn : k < n
    · have hr : 0 ≤ (k : Int) ∧ (k : Int) < n := ⟨by omega, by omega⟩
      have e1 : lgW n 4613937818241073152 k = (4613937818241073152, oneW) := if_pos hkn
      refine ⟨300, sgA, ?_⟩
      show roundK Tryd.prog T0 FT 300 c45c (tmL 131 (l45c 3 k)) (hc3 n (fun _ => (4613937818241073152, oneW)) (lgW n 4613937818241073152) v w u o (gotC3 n a b c) (gotD3 n d e f)) sgA [0, 5, 9, 10] _
      rw [round45c_3, place1]
      refine ⟨decide_eq_true (by omega), decide_eq_true (by omega), hr, hkn, neC_of ⟨ord45_3, ord45_1⟩, hr20, hk, hr, hkn, by rw [e1]; exact neC_of ⟨ord45_3, ord45_1⟩, decide_eq_false (by omega), rfl, rfl, ⟨sameV.refl _, sameV.refl _, sameV.refl _, iv_same _ _ ?_, trivial⟩, HpLe.refl _⟩
      rw [Wid (by omega) (by omega)]; omega
    · have e1 : lgW n 4613937818241073152 k = (4613937818241073152, twoW) := if_neg hkn
      refine ⟨300, sgB, ?_⟩
      show roundK Tryd.prog T0 FT 300 c45c (tmL 131 (l45c 3 k)) (hc3 n (fun _ => (4613937818241073152, oneW)) (lgW n 4613937818241073152) v w u o (gotC3 n a b c) (gotD3 n d e f)) sgB [0, 5, 9, 10] _
      rw [roundd45c_3, place1]
      refine ⟨decide_eq_true (by omega), decide_eq_false (by omega), decide_eq_true (by omega), hr20, hk, by rw [e1]; exact neC_of ⟨ord45_3, ord45_2⟩, rfl, rfl, ⟨sameV.refl _, sameV.refl _, sameV.refl _, iv_same _ _ ?_, trivial⟩, HpLe.refl _⟩
      rw [Wid (by omega) (by omega)]; omega
  · show roundK Tryd.prog T0 FT 300 c45c (tmL 131 (l45c 3 (n + 20 : Nat))) (hc3 n (fun _ => (4613937818241073152, oneW)) (lgW n 4613937818241073152) v w u o (gotC3 n a b c) (gotD3 n d e f)) [.b false] [0, 5, 9] _
    rw [exit45c_3]
    exact ⟨decide_eq_false (by omega), rfl, rfl, ⟨sameV.refl _, sameV.refl _, sameV.refl _, trivial⟩, HpLe.refl _⟩
theorem roundn45c_3 (k : Nat) (q : Nat → Nat × Nat) (v w u o : Nat → Blk) (a b c d e f : C1) (X : Ex → Nat → List AV → List Blk → Prop) : roundK Tryd.prog T0 FT 300 c45c (tmL 131 (l45c 3 k)) (hcn3 q v w u o (gotN3 a b c) (gotD3 0 d e f)) sgB [0, 5, 9, 10] X =
  (decide ((k : Int) < (0 + 20 : Nat)) = true ∧ decide ((k : Int) < 0) = false ∧ decide ((k : Int) ≥ 0) = true ∧ (0 ≤ (k : Int) ∧ (k : Int) < (0 + 20 : Nat)) ∧ placeN 0 (k : Int) 1 < 0 + 20 ∧ neC (q (placeN 0 (k : Int) 1)) (4613937818241073152, twoW) = false ∧
   X .normal 131 [gotA, longA, ic 3, iv (W (k + 1))] (hcn3 q v w u o (gotN3 a b c) (gotD3 0 d e f))) := by kernel_rfl
theorem exitn45c_3 (k : Nat) (q : Nat → Nat × Nat) (v w u o : Nat → Blk) (a b c d e f : C1) (X : Ex → Nat → List AV → List Blk → Prop) : roundK Tryd.prog T0 FT 300 c45c (tmL 131 (l45c 3 k)) (hcn3 q v w u o (gotN3 a b c) (gotD3 0 d e f)) [.b false] [0, 5, 9] X =
  (decide ((k : Int) < (0 + 20 : Nat)) = false ∧ X (.exit 10) 131 [gotA, longA, ic 3] (hcn3 q v w u o (gotN3 a b c) (gotD3 0 d e f))) := by kernel_rfl
theorem loopn45c_3 {v w u o : Nat → Blk} {a b c d e f : C1} : LoopOk Tryd.prog c45c (tmL 131 (l45c 3 0)) (hcn3 (lgW 0 4613937818241073152) v w u o (gotN3 a b c) (gotD3 0 d e f)) (.exit 10) (tmL 131 [(0, gotA), (5, longA), (9, ic 3)]) (hcn3 (lgW 0 4613937818241073152) v w u o (gotN3 a b c) (gotD3 0 d e f)) := by
  refine loop_rounds hm hT0 FTok 131 (0 + 20) (fun k => l45c 3 k) (fun _ => hcn3 (lgW 0 4613937818241073152) v w u o (gotN3 a b c) (gotD3 0 d e f)) (.exit 10) _ _ (fun e => by cases e) (fun k hk => ?_) ⟨300, [.b false], ?_⟩ 0 (Nat.zero_le _)
  · have hr20 : 0 ≤ (k : Int) ∧ (k : Int) < (0 + 20 : Nat) := ⟨by omega, by omega⟩
    have e1 : lgW 0 4613937818241073152 k = (4613937818241073152, twoW) := if_neg (by omega)
    refine ⟨300, sgB, ?_⟩
    show roundK Tryd.prog T0 FT 300 c45c (tmL 131 (l45c 3 k)) (hcn3 (lgW 0 4613937818241073152) v w u o (gotN3 a b c) (gotD3 0 d e f)) sgB [0, 5, 9, 10] _
    rw [roundn45c_3, place1]
    refine ⟨decide_eq_true (by omega), decide_eq_false (by omega), decide_eq_true (by omega), hr20, hk, by rw [e1]; exact neC_of ⟨ord45_3, ord45_2⟩, rfl, rfl, ⟨sameV.refl _, sameV.refl _, sameV.refl _, iv_same _ _ ?_, trivial⟩, HpLe.refl _⟩
    rw [Wid (by omega) (by omega)]; omega
  · show roundK Tryd.prog T0 FT 300 c45c (tmL 131 (l45c 3 (0 + 20 : Nat))) (hcn3 (lgW 0 4613937818241073152) v w u o (gotN3 a b c) (gotD3 0 d e f)) [.b false] [0, 5, 9] _
    rw [exitn45c_3]
    exact ⟨decide_eq_false (by omega), rfl, rfl, ⟨sameV.refl _, sameV.refl _, sameV.refl _, trivial⟩, HpLe.refl _⟩
end Go.Proofs.YthddkcoflnbjbaaDoor
