/-
  What is proved here: for every number the law ZigzagWay returns true and its argument reads as before. No condition.
-/
import Derived.Test.YtepmmicmipmanaaCon7
import Derived.Test.YtepmmicmipmanaaSimN
namespace Go.Proofs.Ytepmmicmipmanaa.ZigzagWay
open Sm Go Go.RowKit Go.ChangeShapes Go.WideShapes Go.ChangeAt
set_option maxRecDepth 1000000
theorem own : ownKnob Try.prog.godebug = none := by kernel_rfl
theorem laidOut : laidOutB Try.prog = true := by kernel_rfl
def WayRun (m : Int) : Prop := ∀ k : Int, runK Try.prog T F8 2000 Try.f8 [di k] [] [.n m] (fun r _ => isTrue r) = ((k.tmod 64 == m) = true ∧ true = true)
def WayPos (i : Nat) : Prop := WayRun (Int.ofNat i)
def WayNeg (i : Nat) : Prop := WayRun (Int.negSucc i)
theorem wayPos_0 : ∀ i : Nat, 0 ≤ i → i < 16 → WayPos i := by
  intro i h0 h1
  match i, h0, h1 with
  | 0, _, _ => (unfold WayPos WayRun; intro k; kernel_rfl)
  | 1, _, _ => (unfold WayPos WayRun; intro k; kernel_rfl)
  | 2, _, _ => (unfold WayPos WayRun; intro k; kernel_rfl)
  | 3, _, _ => (unfold WayPos WayRun; intro k; kernel_rfl)
  | 4, _, _ => (unfold WayPos WayRun; intro k; kernel_rfl)
  | 5, _, _ => (unfold WayPos WayRun; intro k; kernel_rfl)
  | 6, _, _ => (unfold WayPos WayRun; intro k; kernel_rfl)
  | 7, _, _ => (unfold WayPos WayRun; intro k; kernel_rfl)
  | 8, _, _ => (unfold WayPos WayRun; intro k; kernel_rfl)
  | 9, _, _ => (unfold WayPos WayRun; intro k; kernel_rfl)
  | 10, _, _ => (unfold WayPos WayRun; intro k; kernel_rfl)
  | 11, _, _ => (unfold WayPos WayRun; intro k; kernel_rfl)
  | 12, _, _ => (unfold WayPos WayRun; intro k; kernel_rfl)
  | 13, _, _ => (unfold WayPos WayRun; intro k; kernel_rfl)
  | 14, _, _ => (unfold WayPos WayRun; intro k; kernel_rfl)
  | 15, _, _ => (unfold WayPos WayRun; intro k; kernel_rfl)
  | n + 16, _, h => exact absurd h (by omega)
theorem wayPos_16 : ∀ i : Nat, 16 ≤ i → i < 32 → WayPos i := by
  intro i h0 h1
  match i, h0, h1 with
  | 16, _, _ => (unfold WayPos WayRun; intro k; kernel_rfl)
  | 17, _, _ => (unfold WayPos WayRun; intro k; kernel_rfl)
  | 18, _, _ => (unfold WayPos WayRun; intro k; kernel_rfl)
  | 19, _, _ => (unfold WayPos WayRun; intro k; kernel_rfl)
  | 20, _, _ => (unfold WayPos WayRun; intro k; kernel_rfl)
  | 21, _, _ => (unfold WayPos WayRun; intro k; kernel_rfl)
  | 22, _, _ => (unfold WayPos WayRun; intro k; kernel_rfl)
  | 23, _, _ => (unfold WayPos WayRun; intro k; kernel_rfl)
  | 24, _, _ => (unfold WayPos WayRun; intro k; kernel_rfl)
  | 25, _, _ => (unfold WayPos WayRun; intro k; kernel_rfl)
  | 26, _, _ => (unfold WayPos WayRun; intro k; kernel_rfl)
  | 27, _, _ => (unfold WayPos WayRun; intro k; kernel_rfl)
  | 28, _, _ => (unfold WayPos WayRun; intro k; kernel_rfl)
  | 29, _, _ => (unfold WayPos WayRun; intro k; kernel_rfl)
  | 30, _, _ => (unfold WayPos WayRun; intro k; kernel_rfl)
  | 31, _, _ => (unfold WayPos WayRun; intro k; kernel_rfl)
  | n + 32, _, h => exact absurd h (by omega)
theorem wayPos_32 : ∀ i : Nat, 32 ≤ i → i < 48 → WayPos i := by
  intro i h0 h1
  match i, h0, h1 with
  | 32, _, _ => (unfold WayPos WayRun; intro k; kernel_rfl)
  | 33, _, _ => (unfold WayPos WayRun; intro k; kernel_rfl)
  | 34, _, _ => (unfold WayPos WayRun; intro k; kernel_rfl)
  | 35, _, _ => (unfold WayPos WayRun; intro k; kernel_rfl)
  | 36, _, _ => (unfold WayPos WayRun; intro k; kernel_rfl)
  | 37, _, _ => (unfold WayPos WayRun; intro k; kernel_rfl)
  | 38, _, _ => (unfold WayPos WayRun; intro k; kernel_rfl)
  | 39, _, _ => (unfold WayPos WayRun; intro k; kernel_rfl)
  | 40, _, _ => (unfold WayPos WayRun; intro k; kernel_rfl)
  | 41, _, _ => (unfold WayPos WayRun; intro k; kernel_rfl)
  | 42, _, _ => (unfold WayPos WayRun; intro k; kernel_rfl)
  | 43, _, _ => (unfold WayPos WayRun; intro k; kernel_rfl)
  | 44, _, _ => (unfold WayPos WayRun; intro k; kernel_rfl)
  | 45, _, _ => (unfold WayPos WayRun; intro k; kernel_rfl)
  | 46, _, _ => (unfold WayPos WayRun; intro k; kernel_rfl)
  | 47, _, _ => (unfold WayPos WayRun; intro k; kernel_rfl)
  | n + 48, _, h => exact absurd h (by omega)
theorem wayPos_48 : ∀ i : Nat, 48 ≤ i → i < 64 → WayPos i := by
  intro i h0 h1
  match i, h0, h1 with
  | 48, _, _ => (unfold WayPos WayRun; intro k; kernel_rfl)
  | 49, _, _ => (unfold WayPos WayRun; intro k; kernel_rfl)
  | 50, _, _ => (unfold WayPos WayRun; intro k; kernel_rfl)
  | 51, _, _ => (unfold WayPos WayRun; intro k; kernel_rfl)
  | 52, _, _ => (unfold WayPos WayRun; intro k; kernel_rfl)
  | 53, _, _ => (unfold WayPos WayRun; intro k; kernel_rfl)
  | 54, _, _ => (unfold WayPos WayRun; intro k; kernel_rfl)
  | 55, _, _ => (unfold WayPos WayRun; intro k; kernel_rfl)
  | 56, _, _ => (unfold WayPos WayRun; intro k; kernel_rfl)
  | 57, _, _ => (unfold WayPos WayRun; intro k; kernel_rfl)
  | 58, _, _ => (unfold WayPos WayRun; intro k; kernel_rfl)
  | 59, _, _ => (unfold WayPos WayRun; intro k; kernel_rfl)
  | 60, _, _ => (unfold WayPos WayRun; intro k; kernel_rfl)
  | 61, _, _ => (unfold WayPos WayRun; intro k; kernel_rfl)
  | 62, _, _ => (unfold WayPos WayRun; intro k; kernel_rfl)
  | 63, _, _ => (unfold WayPos WayRun; intro k; kernel_rfl)
  | n + 64, _, h => exact absurd h (by omega)
theorem wayPos (i : Nat) (h : i < 64) : WayPos i := by
  if h16 : i < 16 then exact wayPos_0 i (by omega) h16 else
  if h32 : i < 32 then exact wayPos_16 i (by omega) h32 else
  if h48 : i < 48 then exact wayPos_32 i (by omega) h48 else
  exact wayPos_48 i (by omega) h
theorem wayNeg_0 : ∀ i : Nat, 0 ≤ i → i < 16 → WayNeg i := by
  intro i h0 h1
  match i, h0, h1 with
  | 0, _, _ => (unfold WayNeg WayRun; intro k; kernel_rfl)
  | 1, _, _ => (unfold WayNeg WayRun; intro k; kernel_rfl)
  | 2, _, _ => (unfold WayNeg WayRun; intro k; kernel_rfl)
  | 3, _, _ => (unfold WayNeg WayRun; intro k; kernel_rfl)
  | 4, _, _ => (unfold WayNeg WayRun; intro k; kernel_rfl)
  | 5, _, _ => (unfold WayNeg WayRun; intro k; kernel_rfl)
  | 6, _, _ => (unfold WayNeg WayRun; intro k; kernel_rfl)
  | 7, _, _ => (unfold WayNeg WayRun; intro k; kernel_rfl)
  | 8, _, _ => (unfold WayNeg WayRun; intro k; kernel_rfl)
  | 9, _, _ => (unfold WayNeg WayRun; intro k; kernel_rfl)
  | 10, _, _ => (unfold WayNeg WayRun; intro k; kernel_rfl)
  | 11, _, _ => (unfold WayNeg WayRun; intro k; kernel_rfl)
  | 12, _, _ => (unfold WayNeg WayRun; intro k; kernel_rfl)
  | 13, _, _ => (unfold WayNeg WayRun; intro k; kernel_rfl)
  | 14, _, _ => (unfold WayNeg WayRun; intro k; kernel_rfl)
  | 15, _, _ => (unfold WayNeg WayRun; intro k; kernel_rfl)
  | n + 16, _, h => exact absurd h (by omega)
theorem wayNeg_16 : ∀ i : Nat, 16 ≤ i → i < 32 → WayNeg i := by
  intro i h0 h1
  match i, h0, h1 with
  | 16, _, _ => (unfold WayNeg WayRun; intro k; kernel_rfl)
  | 17, _, _ => (unfold WayNeg WayRun; intro k; kernel_rfl)
  | 18, _, _ => (unfold WayNeg WayRun; intro k; kernel_rfl)
  | 19, _, _ => (unfold WayNeg WayRun; intro k; kernel_rfl)
  | 20, _, _ => (unfold WayNeg WayRun; intro k; kernel_rfl)
  | 21, _, _ => (unfold WayNeg WayRun; intro k; kernel_rfl)
  | 22, _, _ => (unfold WayNeg WayRun; intro k; kernel_rfl)
  | 23, _, _ => (unfold WayNeg WayRun; intro k; kernel_rfl)
  | 24, _, _ => (unfold WayNeg WayRun; intro k; kernel_rfl)
  | 25, _, _ => (unfold WayNeg WayRun; intro k; kernel_rfl)
  | 26, _, _ => (unfold WayNeg WayRun; intro k; kernel_rfl)
  | 27, _, _ => (unfold WayNeg WayRun; intro k; kernel_rfl)
  | 28, _, _ => (unfold WayNeg WayRun; intro k; kernel_rfl)
  | 29, _, _ => (unfold WayNeg WayRun; intro k; kernel_rfl)
  | 30, _, _ => (unfold WayNeg WayRun; intro k; kernel_rfl)
  | 31, _, _ => (unfold WayNeg WayRun; intro k; kernel_rfl)
  | n + 32, _, h => exact absurd h (by omega)
theorem wayNeg_32 : ∀ i : Nat, 32 ≤ i → i < 48 → WayNeg i := by
  intro i h0 h1
  match i, h0, h1 with
  | 32, _, _ => (unfold WayNeg WayRun; intro k; kernel_rfl)
  | 33, _, _ => (unfold WayNeg WayRun; intro k; kernel_rfl)
  | 34, _, _ => (unfold WayNeg WayRun; intro k; kernel_rfl)
  | 35, _, _ => (unfold WayNeg WayRun; intro k; kernel_rfl)
  | 36, _, _ => (unfold WayNeg WayRun; intro k; kernel_rfl)
  | 37, _, _ => (unfold WayNeg WayRun; intro k; kernel_rfl)
  | 38, _, _ => (unfold WayNeg WayRun; intro k; kernel_rfl)
  | 39, _, _ => (unfold WayNeg WayRun; intro k; kernel_rfl)
  | 40, _, _ => (unfold WayNeg WayRun; intro k; kernel_rfl)
  | 41, _, _ => (unfold WayNeg WayRun; intro k; kernel_rfl)
  | 42, _, _ => (unfold WayNeg WayRun; intro k; kernel_rfl)
  | 43, _, _ => (unfold WayNeg WayRun; intro k; kernel_rfl)
  | 44, _, _ => (unfold WayNeg WayRun; intro k; kernel_rfl)
  | 45, _, _ => (unfold WayNeg WayRun; intro k; kernel_rfl)
  | 46, _, _ => (unfold WayNeg WayRun; intro k; kernel_rfl)
  | 47, _, _ => (unfold WayNeg WayRun; intro k; kernel_rfl)
  | n + 48, _, h => exact absurd h (by omega)
theorem wayNeg_48 : ∀ i : Nat, 48 ≤ i → i < 63 → WayNeg i := by
  intro i h0 h1
  match i, h0, h1 with
  | 48, _, _ => (unfold WayNeg WayRun; intro k; kernel_rfl)
  | 49, _, _ => (unfold WayNeg WayRun; intro k; kernel_rfl)
  | 50, _, _ => (unfold WayNeg WayRun; intro k; kernel_rfl)
  | 51, _, _ => (unfold WayNeg WayRun; intro k; kernel_rfl)
  | 52, _, _ => (unfold WayNeg WayRun; intro k; kernel_rfl)
  | 53, _, _ => (unfold WayNeg WayRun; intro k; kernel_rfl)
  | 54, _, _ => (unfold WayNeg WayRun; intro k; kernel_rfl)
  | 55, _, _ => (unfold WayNeg WayRun; intro k; kernel_rfl)
  | 56, _, _ => (unfold WayNeg WayRun; intro k; kernel_rfl)
  | 57, _, _ => (unfold WayNeg WayRun; intro k; kernel_rfl)
  | 58, _, _ => (unfold WayNeg WayRun; intro k; kernel_rfl)
  | 59, _, _ => (unfold WayNeg WayRun; intro k; kernel_rfl)
  | 60, _, _ => (unfold WayNeg WayRun; intro k; kernel_rfl)
  | 61, _, _ => (unfold WayNeg WayRun; intro k; kernel_rfl)
  | 62, _, _ => (unfold WayNeg WayRun; intro k; kernel_rfl)
  | n + 63, _, h => exact absurd h (by omega)
theorem wayNeg (i : Nat) (h : i < 63) : WayNeg i := by
  if h16 : i < 16 then exact wayNeg_0 i (by omega) h16 else
  if h32 : i < 32 then exact wayNeg_16 i (by omega) h32 else
  if h48 : i < 48 then exact wayNeg_32 i (by omega) h48 else
  exact wayNeg_48 i (by omega) h
theorem way_all (k : Int) : ∃ m, WayRun m ∧ (k.tmod 64 == m) = true := by
  have h1 : k.tmod 64 < 64 := Int.tmod_lt_of_pos k (by decide)
  have h2 : -64 < k.tmod 64 := Int.lt_tmod_of_pos k (by decide)
  generalize k.tmod 64 = m at h1 h2
  refine ⟨m, ?_, by simp⟩
  cases m with
  | ofNat i => exact wayPos i (by simp only [Int.ofNat_eq_natCast] at h1; omega)
  | negSucc i => exact wayNeg i (by rw [Int.negSucc_eq] at h2; omega)

theorem walk (a0 : Int) (_w0 : (Lit.int .i64 a0).wf = true) (w : World) :
    Calls Try.prog 8 #[.int .i64 a0] w fun e w' => e = .returned (.bool true) ∧ Below w.heap.size w w' := by
  obtain ⟨m, hrun, hk⟩ := way_all a0
  exact law_of_run (st := false) (avs := [.val (.int .i64 a0)]) hm hT F8ok Try.func8 rfl (of_run (hrun a0) ⟨hk, rfl⟩) (ARs_vals w [.int .i64 a0])

theorem lifted (os : Os) (started : os.Started) (H : Type) (enc : TypeId × Value → H) :
    ReturnsInHanded {} Try.checked os 8 .any (Rows.zigzagWaySpec.pre6 enc Try.prog Try.f8 Rows.zigzagWayRow.domain false) (Rows.zigzagWaySpec.post enc Try.prog Try.f8 false true false false) := by
  refine returnsInHanded_of_change (C := Try.checked) own started (by kernel_rfl) Try.func8
    (ChangeSpec.witness6 (enc := enc) (C := Try.checked) false ⟨#[], #[.int .i64 0], []⟩ 8 (by kernel_rfl) (by kernel_rfl) (by kernel_rfl) (by kernel_rfl)) ?_
  intro W base args ds gs before hval0 hW hcnd _
  have hval : ∀ (j : Nat) t v, Try.f8.params[j]? = some t → args[j]? = some v → Value.okWide Try.prog W .any base t v := hval0
  have hW' := hW
  obtain ⟨p, q, hA0, hV, rfl, hfz, hnd⟩ := hW
  have hA : DataW.TrodAll enc Try.prog W 0 (fun _ => true) true Try.f8.params.toList args.toList ds p := hA0
  rw [Try.params8] at hA hval
  have hA2 := hA
  have hlt := trodAll_lt _ _ _ _ hA2
  obtain ⟨v0, vs0, d0, ds0, p0, q0, hargs, rfl, rfl, h0, r0⟩ := trodAll_cons hA
  obtain ⟨rfl, rfl, rfl⟩ := trodAll_nil r0
  obtain rfl : args = #[v0] := by cases args; simp_all
  obtain ⟨rfl, rfl⟩ := trodVars_none hV
  obtain ⟨a0, rfl, _, _, w0⟩ := open_int Try.underlying3 (hval 0 3 v0 rfl rfl) h0
  refine (walk a0 w0 W).mono fun e W' ⟨he, bel⟩ => ?_
  subst he
  exact ⟨_, rfl, _, _, _, [], _, [], hW', trodAll_mk1 (shut_bool Try.underlying4 _), trodAll_below laidOut bel _ _ _ _ (by kernel_rfl) hA2 hlt, rfl, bel.frame _, fun h => by cases h⟩
theorem over : Rows.zigzagWayRow.holds Try.pinned (OpenSpec.ofChange Rows.zigzagWaySpec) :=
  OpenClaim.holds_of_wide 8 Try.f8 rfl rfl rfl rfl rfl rfl rfl ⟨rfl, rfl, rfl, rfl, rfl⟩ rfl rfl rfl rfl rfl (by kernel_rfl) Try.func8 (by kernel_rfl)
    (of_decide_eq_true (by kernel_rfl)) (by unfold Func.isWrapper; rw [if_neg (of_decide_eq_false (by kernel_rfl))]; exact ⟨rfl, rfl⟩)
    (fun os started H enc _ => lifted os started H enc)
end Go.Proofs.Ytepmmicmipmanaa.ZigzagWay
namespace Go.Proofs.Ytepmmicmipmanaa
theorem zigzagWay_holds : Rows.ZigzagWaySaid := ZigzagWay.over
#print axioms zigzagWay_holds
end Go.Proofs.Ytepmmicmipmanaa
