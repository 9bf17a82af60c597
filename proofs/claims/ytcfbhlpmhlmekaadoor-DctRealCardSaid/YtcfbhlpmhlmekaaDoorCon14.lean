/-
  What is proved here: dct.Real and dct.Waves of numbers of which nothing is known hand back some numbers. A text to be imported.
-/
import Derived.Test.YtcfbhlpmhlmekaaDoorCon12
import Derived.Test.YtcfbhlpmhlmekaaDoorLaw5
import Derived.Test.YtcfbhlpmhlmekaaDoorSimAn
namespace Go.Proofs.YtcfbhlpmhlmekaaDoor
open Sm Go Go.RowKit
set_option maxRecDepth 1000000
set_option linter.unusedVariables false
def flU : C1 := .fl .f64
def fuB : Blk := { body := .sy 64 fun _ => flU, elem := 23, live := true, ro := true }
def suU : Blk := { body := .sy 64 fun _ => flU, elem := 23, live := true, ro := false }
def rUB : Blk := { body := .li ((List.range 64).map fun _ => flU), elem := 23, live := true, ro := false }
def suX (o : Nat) : Blk := { body := .sy 64 (updG (fun _ => flU) o flU), elem := 23, live := true, ro := false }
def hU (r : Blk) : List Blk := [fuB, r, suU, ccB]
theorem pickF (t : Bool) : pickC t flU flU = flU := by cases t <;> rfl
theorem suX_le (o : Nat) : BlkLe (suX o) suU := sy_le fun j _ => by
  show pickC _ flU flU = flU
  rw [pickF]
theorem fl_cells {E : Env} {n : Nat} {m : Nat → C1} {vs : List Value} (h : ∀ j, j < n → ∃ v s, m j = .sc (.float .f64 v) s) (hr : RCs E ((List.range n).map m) vs) : RCs E (symC n fun _ => flU) vs := by
  refine ⟨by rw [← hr.1, symC_length]; simp, fun j c v hc hv => ?_⟩
  have hj : j < n := by have := (List.getElem?_eq_some_iff.1 hc).1; rwa [symC_length] at this
  rw [symC_get _ _ hj] at hc
  simp only [Option.some.injEq] at hc
  subst hc
  obtain ⟨x, s, e⟩ := h j hj
  have := hr.2 j (m j) v (by simp [hj]) hv
  rw [e] at this
  exact ⟨x, this.1⟩
theorem argB_le (f : Nat → Nat) : BlkLe (argB f) fuB := ⟨rfl, rfl, rfl, fun E vs hr => fl_cells (m := fun j => .sc (.float .f64 (f j)) false) (fun j _ => ⟨_, _, rfl⟩) hr⟩
theorem sB_zU : startB zB suU := .inr ⟨rfl, rfl, rfl, fun E vs hr => fl_cells (m := fun _ => .sc (.float .f64 0) true) (fun j _ => ⟨_, _, rfl⟩) hr⟩
theorem u64_RV {E : Env} {u : Value} (h : RV E (.agg ((List.range 64).map fun _ => flU)) u) : RV [] (.agg ((List.range 64).map fun _ => flU)) u := by
  obtain ⟨vs, hu, h1, h2⟩ := h
  refine ⟨vs, hu, h1, fun j c v hc hv => ?_⟩
  have := h2 j c v hc hv
  obtain ⟨i, _, hi⟩ := List.mem_map.1 (List.mem_of_getElem? hc)
  subst hi
  exact this
def GAny64 : List ArgV → Option AV
  | [.mem 23 cs] => fltsK .f64 cs fun xs => if xs.length = 64 then some (.agg ((List.range 64).map fun _ => flU)) else none
  | _ => none

noncomputable def FRU2 (r : Blk) (i : Nat) (q : Prop) : Fns := FR.addLoop 1 cR2 (loopC 47 (lR2 i 0) (hU r) q (.exit 2) (lR1 i) (hU r))
theorem roundR2U (r : Blk) (i k : Nat) (Q : Ex → Nat → List AV → List Blk → Prop) : roundK Tryd.prog T FR 300 cR2 (tmL 47 (lR2 i k)) (hU r) [.b true] [0, 2, 3, 4, 5, 12, 15, 16] Q =
  (decide ((k : Int) < 64) = true ∧ (0 ≤ (k : Int) ∧ (k : Int) < (64 : Nat)) ∧ placeN 0 (k : Int) 1 < 64 ∧ (0 ≤ (i : Int) ∧ (i : Int) < (64 : Nat)) ∧ placeN 0 (i : Int) 1 < 64 ∧ (0 ≤ (k : Int).tmod 8 ∧ (k : Int).tmod 8 < (8 : Nat)) ∧ (0 ≤ (i : Int).tmod 8 ∧ (i : Int).tmod 8 < (8 : Nat)) ∧ pA k i < 64 ∧
   (0 ≤ W ((k : Int).tdiv 8) ∧ W ((k : Int).tdiv 8) < (8 : Nat)) ∧ (0 ≤ W ((i : Int).tdiv 8) ∧ W ((i : Int).tdiv 8) < (8 : Nat)) ∧ pB k i < 64 ∧ fok .mul .f64 (cc (pA k i)) (cc (pB k i)) = true ∧ (0 ≤ (i : Int) ∧ (i : Int) < (64 : Nat)) ∧ placeN 0 (i : Int) 1 < 64 ∧
   Q .normal 47 [P0, P1, P2, P3, ivF i, ivF i, P0, ivF (W (k + 1))] [fuB, r, suX (placeN 0 (i : Int) 1), ccB]) := by kernel_rfl
theorem exitR2U (r : Blk) (i k : Nat) (Q : Ex → Nat → List AV → List Blk → Prop) : roundK Tryd.prog T FR 300 cR2 (tmL 47 (lR2 i k)) (hU r) [.b false] [0, 2, 3, 4, 12] Q =
  (decide ((k : Int) < 64) = false ∧ Q (.exit 2) 47 [P0, P1, P2, P3, ivF i] (hU r)) := by kernel_rfl
theorem loopR2U (r : Blk) (i : Nat) (hi : i < 64) : LoopOk Tryd.prog cR2 (tmL 47 (lR2 i 0)) (hU r) (.exit 2) (tmL 47 (lR1 i)) (hU r) := by
  refine loop_rounds hm hT FRok 47 64 (lR2 i) (fun k => hU r) (.exit 2) _ _ (fun e => by cases e) (fun k hk => ⟨300, [.b true], ?_⟩) ⟨300, [.b false], ?_⟩ 0 (Nat.zero_le _)
  · show roundK Tryd.prog T FR 300 cR2 (tmL 47 (lR2 i k)) (hU r) [.b true] [0, 2, 3, 4, 5, 12, 15, 16] _
    obtain ⟨e1, e2⟩ := pA_eq k i (by omega) (by omega)
    rw [roundR2U, pl1, pl1]
    have m1 : 0 ≤ (i : Int).tmod 8 ∧ (i : Int).tmod 8 < (8 : Nat) := by rw [Int.tmod_eq_emod_of_nonneg (by omega)]; omega
    have m2 : 0 ≤ (k : Int).tmod 8 ∧ (k : Int).tmod 8 < (8 : Nat) := by rw [Int.tmod_eq_emod_of_nonneg (by omega)]; omega
    have d1 : 0 ≤ W ((i : Int).tdiv 8) ∧ W ((i : Int).tdiv 8) < (8 : Nat) := by rw [show W ((i : Int).tdiv 8) = ((i / 8 : Nat) : Int) from by rw [Int.tdiv_eq_ediv_of_nonneg (by omega), show (i : Int) / 8 = ((i / 8 : Nat) : Int) by omega]; exact w64 (by omega) (by omega)]; omega
    have d2 : 0 ≤ W ((k : Int).tdiv 8) ∧ W ((k : Int).tdiv 8) < (8 : Nat) := by rw [show W ((k : Int).tdiv 8) = ((k / 8 : Nat) : Int) from by rw [Int.tdiv_eq_ediv_of_nonneg (by omega), show (k : Int) / 8 = ((k / 8 : Nat) : Int) by omega]; exact w64 (by omega) (by omega)]; omega
    refine ⟨decide_eq_true (by omega), ⟨by omega, by omega⟩, hk, ⟨by omega, by omega⟩, hi, m2, m1, by rw [e1]; omega, d2, d1, by rw [e2]; omega, (wc_ok k i (by omega) (by omega)).1, ⟨by omega, by omega⟩, hi, rfl, rfl, ⟨sameV.refl _, sameV.refl _, sameV.refl _, sameV.refl _, sameV.refl _, sameV.refl _, sameV.refl _, congrArg (Value.int .i64) (W1 hk), trivial⟩, .refl _, .refl _, suX_le _, .refl _, trivial⟩
  · show roundK Tryd.prog T FR 300 cR2 (tmL 47 (lR2 i 64)) (hU r) [.b false] [0, 2, 3, 4, 12] _
    rw [exitR2U]
    exact ⟨decide_eq_false (by omega), rfl, rfl, ⟨sameV.refl _, sameV.refl _, sameV.refl _, sameV.refl _, sameV.refl _, trivial⟩, HpLe.refl _⟩
theorem roundR1U (r : Blk) (i : Nat) (q : Prop) (Q : Ex → Nat → List AV → List Blk → Prop) : roundK Tryd.prog T (FRU2 r i q) 300 cR1 (tmL 47 (lR1 i)) (hU r) [.b true, .l 1] [0, 2, 3, 4, 12] Q =
  (decide ((i : Int) < 64) = true ∧ cR2 = cR2 ∧ ((47 = 47 ∧ startLs [P0, P1, P2, P3, ivF i, ivF i, P0, .one (.sc (.int .i64 0) true)] ((lR2 i 0).map (·.2)) ∧ startBs (hU r) (hU r)) ∧ q) ∧ Q .normal 47 [P0, P1, P2, P3, ivF (W (i + 1))] (hU r)) := by kernel_rfl
theorem exitR1U (r : Blk) (i : Nat) (Q : Ex → Nat → List AV → List Blk → Prop) : roundK Tryd.prog T FR 300 cR1 (tmL 47 (lR1 i)) (hU r) [.b false] [0, 2, 3, 4] Q =
  (decide ((i : Int) < 64) = false ∧ Q (.exit 0) 47 [P0, P1, P2, P3] (hU r)) := by kernel_rfl
theorem loopR1U (r : Blk) : LoopOk Tryd.prog cR1 (tmL 47 (lR1 0)) (hU r) (.exit 0) (tmL 47 lRf) (hU r) := by
  refine loop_roundsF hm hT 47 64 lR1 (fun i => hU r) (.exit 0) _ _ (fun e => by cases e) (fun i hi => ⟨FRU2 r i True, FRok.addKeep 1 fun _ => loopR2U r i hi, 300, [.b true, .l 1], ?_⟩) ⟨FR, FRok, 300, [.b false], ?_⟩ 0 (Nat.zero_le _)
  · show roundK Tryd.prog T (FRU2 r i True) 300 cR1 (tmL 47 (lR1 i)) (hU r) [.b true, .l 1] [0, 2, 3, 4, 12] _
    rw [roundR1U]
    exact ⟨decide_eq_true (by omega), rfl, ⟨⟨rfl, ⟨rfl, rfl, rfl, rfl, rfl, rfl, rfl, rfl, trivial⟩, startBs.refl _⟩, trivial⟩, rfl, rfl, ⟨sameV.refl _, sameV.refl _, sameV.refl _, sameV.refl _, congrArg (Value.int .i64) (W1 hi), trivial⟩, HpLe.refl _⟩
  · show roundK Tryd.prog T FR 300 cR1 (tmL 47 (lR1 64)) (hU r) [.b false] [0, 2, 3, 4] _
    rw [exitR1U]
    exact ⟨decide_eq_false (by omega), rfl, rfl, ⟨sameV.refl _, sameV.refl _, sameV.refl _, sameV.refl _, trivial⟩, HpLe.refl _⟩
noncomputable def FRUn (q : Prop) : Fns := FR.addLoop 0 cR1 (loopC 47 (lR1 0) (hU zB) q (.exit 0) lRf (hU zB))
theorem run7U (q : Prop) (Q : Option AV → List Blk → Prop) : runK Tryd.prog T (FRUn q) 300 Tryd.f7 [P0] [fuB] [.l 0] Q =
  (cR1 = cR1 ∧ ((47 = 47 ∧ startLs [P0, P1, P2, P3, .one (.sc (.int .i64 0) true)] ((lR1 0).map (·.2)) ∧ startBs [fuB, zB, zB, cB] (hU zB)) ∧ q) ∧ 64 ≤ 64 ∧ Q (some (.agg ((List.range 64).map fun _ => flU))) [fuB, rUB, suU, ccB]) := by kernel_rfl
theorem any7 : AnyCon Tryd.prog 7 GAny64 := by
  refine any_of_runW hm hT Tryd.func7 Tryd.call7 fun avs v h => ?_
  unfold GAny64 at h
  split at h
  · rename_i cs
    obtain ⟨xs, rfl, h2⟩ := fltsK_spec _ _ _ h
    clear h
    split at h2
    · rename_i hl
      simp only [Option.some.injEq] at h2
      subst h2
      refine ⟨FRUn True, FRok.addKeep 0 fun _ => loopR1U zB, [], 300, [.l 0], _, _, [fuB], canonR xs hl, ⟨argB_le _, trivial⟩, of_run (run7U True _) ⟨rfl, ⟨⟨rfl, ⟨rfl, rfl, rfl, rfl, rfl, trivial⟩, startB.refl _, startB.refl _, sB_zU, sB_c, trivial⟩, trivial⟩, Nat.le_refl _, _, rfl, fun E u h => u64_RV h⟩⟩
    · cases h2
  · cases h

noncomputable def FVU2 (r : Blk) (i : Nat) (q : Prop) : Fns := FR.addLoop 1 cV2 (loopC 47 (lV2 i 0) (hU r) q (.exit 2) (lV1 i) (hU r))
theorem roundV2U (r : Blk) (i k : Nat) (Q : Ex → Nat → List AV → List Blk → Prop) : roundK Tryd.prog T FR 300 cV2 (tmL 47 (lV2 i k)) (hU r) [.b true] [0, 2, 3, 4, 5, 12, 15, 16] Q =
  (decide ((k : Int) < 64) = true ∧ (0 ≤ (k : Int) ∧ (k : Int) < (64 : Nat)) ∧ placeN 0 (k : Int) 1 < 64 ∧ (0 ≤ (i : Int) ∧ (i : Int) < (64 : Nat)) ∧ placeN 0 (i : Int) 1 < 64 ∧ (0 ≤ (i : Int).tmod 8 ∧ (i : Int).tmod 8 < (8 : Nat)) ∧ (0 ≤ (k : Int).tmod 8 ∧ (k : Int).tmod 8 < (8 : Nat)) ∧ pA i k < 64 ∧
   (0 ≤ W ((i : Int).tdiv 8) ∧ W ((i : Int).tdiv 8) < (8 : Nat)) ∧ (0 ≤ W ((k : Int).tdiv 8) ∧ W ((k : Int).tdiv 8) < (8 : Nat)) ∧ pB i k < 64 ∧ fok .mul .f64 (cc (pA i k)) (cc (pB i k)) = true ∧ (0 ≤ (i : Int) ∧ (i : Int) < (64 : Nat)) ∧ placeN 0 (i : Int) 1 < 64 ∧
   Q .normal 47 [P0, P1, P2, P3, ivF i, ivF i, P0, ivF (W (k + 1))] [fuB, r, suX (placeN 0 (i : Int) 1), ccB]) := by kernel_rfl
theorem exitV2U (r : Blk) (i k : Nat) (Q : Ex → Nat → List AV → List Blk → Prop) : roundK Tryd.prog T FR 300 cV2 (tmL 47 (lV2 i k)) (hU r) [.b false] [0, 2, 3, 4, 12] Q =
  (decide ((k : Int) < 64) = false ∧ Q (.exit 2) 47 [P0, P1, P2, P3, ivF i] (hU r)) := by kernel_rfl
theorem loopV2U (r : Blk) (i : Nat) (hi : i < 64) : LoopOk Tryd.prog cV2 (tmL 47 (lV2 i 0)) (hU r) (.exit 2) (tmL 47 (lV1 i)) (hU r) := by
  refine loop_rounds hm hT FRok 47 64 (lV2 i) (fun k => hU r) (.exit 2) _ _ (fun e => by cases e) (fun k hk => ⟨300, [.b true], ?_⟩) ⟨300, [.b false], ?_⟩ 0 (Nat.zero_le _)
  · show roundK Tryd.prog T FR 300 cV2 (tmL 47 (lV2 i k)) (hU r) [.b true] [0, 2, 3, 4, 5, 12, 15, 16] _
    obtain ⟨e1, e2⟩ := pA_eq i k (by omega) (by omega)
    rw [roundV2U, pl1, pl1]
    have m1 : 0 ≤ (i : Int).tmod 8 ∧ (i : Int).tmod 8 < (8 : Nat) := by rw [Int.tmod_eq_emod_of_nonneg (by omega)]; omega
    have m2 : 0 ≤ (k : Int).tmod 8 ∧ (k : Int).tmod 8 < (8 : Nat) := by rw [Int.tmod_eq_emod_of_nonneg (by omega)]; omega
    have d1 : 0 ≤ W ((i : Int).tdiv 8) ∧ W ((i : Int).tdiv 8) < (8 : Nat) := by rw [show W ((i : Int).tdiv 8) = ((i / 8 : Nat) : Int) from by rw [Int.tdiv_eq_ediv_of_nonneg (by omega), show (i : Int) / 8 = ((i / 8 : Nat) : Int) by omega]; exact w64 (by omega) (by omega)]; omega
    have d2 : 0 ≤ W ((k : Int).tdiv 8) ∧ W ((k : Int).tdiv 8) < (8 : Nat) := by rw [show W ((k : Int).tdiv 8) = ((k / 8 : Nat) : Int) from by rw [Int.tdiv_eq_ediv_of_nonneg (by omega), show (k : Int) / 8 = ((k / 8 : Nat) : Int) by omega]; exact w64 (by omega) (by omega)]; omega
    refine ⟨decide_eq_true (by omega), ⟨by omega, by omega⟩, hk, ⟨by omega, by omega⟩, hi, m1, m2, by rw [e1]; omega, d1, d2, by rw [e2]; omega, (wc_ok i k (by omega) (by omega)).1, ⟨by omega, by omega⟩, hi, rfl, rfl, ⟨sameV.refl _, sameV.refl _, sameV.refl _, sameV.refl _, sameV.refl _, sameV.refl _, sameV.refl _, congrArg (Value.int .i64) (W1 hk), trivial⟩, .refl _, .refl _, suX_le _, .refl _, trivial⟩
  · show roundK Tryd.prog T FR 300 cV2 (tmL 47 (lV2 i 64)) (hU r) [.b false] [0, 2, 3, 4, 12] _
    rw [exitV2U]
    exact ⟨decide_eq_false (by omega), rfl, rfl, ⟨sameV.refl _, sameV.refl _, sameV.refl _, sameV.refl _, sameV.refl _, trivial⟩, HpLe.refl _⟩
theorem roundV1U (r : Blk) (i : Nat) (q : Prop) (Q : Ex → Nat → List AV → List Blk → Prop) : roundK Tryd.prog T (FVU2 r i q) 300 cV1 (tmL 47 (lV1 i)) (hU r) [.b true, .l 1] [0, 2, 3, 4, 12] Q =
  (decide ((i : Int) < 64) = true ∧ cV2 = cV2 ∧ ((47 = 47 ∧ startLs [P0, P1, P2, P3, ivF i, ivF i, P0, .one (.sc (.int .i64 0) true)] ((lV2 i 0).map (·.2)) ∧ startBs (hU r) (hU r)) ∧ q) ∧ Q .normal 47 [P0, P1, P2, P3, ivF (W (i + 1))] (hU r)) := by kernel_rfl
theorem exitV1U (r : Blk) (i : Nat) (Q : Ex → Nat → List AV → List Blk → Prop) : roundK Tryd.prog T FR 300 cV1 (tmL 47 (lV1 i)) (hU r) [.b false] [0, 2, 3, 4] Q =
  (decide ((i : Int) < 64) = false ∧ Q (.exit 0) 47 [P0, P1, P2, P3] (hU r)) := by kernel_rfl
theorem loopV1U (r : Blk) : LoopOk Tryd.prog cV1 (tmL 47 (lV1 0)) (hU r) (.exit 0) (tmL 47 lVf) (hU r) := by
  refine loop_roundsF hm hT 47 64 lV1 (fun i => hU r) (.exit 0) _ _ (fun e => by cases e) (fun i hi => ⟨FVU2 r i True, FRok.addKeep 1 fun _ => loopV2U r i hi, 300, [.b true, .l 1], ?_⟩) ⟨FR, FRok, 300, [.b false], ?_⟩ 0 (Nat.zero_le _)
  · show roundK Tryd.prog T (FVU2 r i True) 300 cV1 (tmL 47 (lV1 i)) (hU r) [.b true, .l 1] [0, 2, 3, 4, 12] _
    rw [roundV1U]
    exact ⟨decide_eq_true (by omega), rfl, ⟨⟨rfl, ⟨rfl, rfl, rfl, rfl, rfl, rfl, rfl, rfl, trivial⟩, startBs.refl _⟩, trivial⟩, rfl, rfl, ⟨sameV.refl _, sameV.refl _, sameV.refl _, sameV.refl _, congrArg (Value.int .i64) (W1 hi), trivial⟩, HpLe.refl _⟩
  · show roundK Tryd.prog T FR 300 cV1 (tmL 47 (lV1 64)) (hU r) [.b false] [0, 2, 3, 4] _
    rw [exitV1U]
    exact ⟨decide_eq_false (by omega), rfl, rfl, ⟨sameV.refl _, sameV.refl _, sameV.refl _, sameV.refl _, trivial⟩, HpLe.refl _⟩
noncomputable def FVUn (q : Prop) : Fns := FR.addLoop 0 cV1 (loopC 47 (lV1 0) (hU zB) q (.exit 0) lVf (hU zB))
theorem run8U (q : Prop) (Q : Option AV → List Blk → Prop) : runK Tryd.prog T (FVUn q) 300 Tryd.f8 [P0] [fuB] [.l 0] Q =
  (cV1 = cV1 ∧ ((47 = 47 ∧ startLs [P0, P1, P2, P3, .one (.sc (.int .i64 0) true)] ((lV1 0).map (·.2)) ∧ startBs [fuB, zB, zB, cB] (hU zB)) ∧ q) ∧ 64 ≤ 64 ∧ Q (some (.agg ((List.range 64).map fun _ => flU))) [fuB, rUB, suU, ccB]) := by kernel_rfl
theorem any8 : AnyCon Tryd.prog 8 GAny64 := by
  refine any_of_runW hm hT Tryd.func8 Tryd.call8 fun avs v h => ?_
  unfold GAny64 at h
  split at h
  · rename_i cs
    obtain ⟨xs, rfl, h2⟩ := fltsK_spec _ _ _ h
    clear h
    split at h2
    · rename_i hl
      simp only [Option.some.injEq] at h2
      subst h2
      refine ⟨FVUn True, FRok.addKeep 0 fun _ => loopV1U zB, [], 300, [.l 0], _, _, [fuB], canonR xs hl, ⟨argB_le _, trivial⟩, of_run (run8U True _) ⟨rfl, ⟨⟨rfl, ⟨rfl, rfl, rfl, rfl, rfl, trivial⟩, startB.refl _, startB.refl _, sB_zU, sB_c, trivial⟩, trivial⟩, Nat.le_refl _, _, rfl, fun E u h => u64_RV h⟩⟩
    · cases h2
  · cases h
end Go.Proofs.YtcfbhlpmhlmekaaDoor
