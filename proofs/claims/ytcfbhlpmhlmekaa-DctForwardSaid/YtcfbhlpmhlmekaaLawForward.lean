/-
  What is proved here: for all samples the law DctForward returns true and its arguments read as before. No condition.
-/
import Derived.Test.YtcfbhlpmhlmekaaCon6
import Derived.Test.YtcfbhlpmhlmekaaLaw0
namespace Go.Proofs.Ytcfbhlpmhlmekaa.DctForward
open Sm Go Go.RowKit Go.ChangeShapes Go.WideShapes Go.ChangeAt
set_option maxRecDepth 1000000
theorem own : ownKnob Try.prog.godebug = none := by kernel_rfl
theorem laidOut : laidOutB Try.prog = true := by kernel_rfl
theorem canon (s t : Nat → Int) : Sm.canon false [.val (.agg (valsK .i16 64 s).toArray), .val (.agg (valsK .i16 64 t).toArray)] 0 = some ([.agg (cellsK .i16 false 64 s), .agg (cellsK .i16 false 64 t)], []) := by kernel_rfl
theorem walked (s t : Nat → Int) : runK Try.prog T FE 3000 Try.f4 [.agg (cellsK .i16 false 64 s), .agg (cellsK .i16 false 64 t)] [] [] (fun r _ => isTrue r) =
    ((bif (bif (bif eqN (resP_11 (lst s)) (res_12 (lst s)) 64 0 then eqN (resP_11 (lst t)) (res_12 (lst t)) 64 0 else false) then eqN s s 64 0 else false) then eqN t t 64 0 else false) = true) := by kernel_rfl
theorem both (s : Nat → Int) (h : ∀ i, i < 64 → -32768 ≤ s i ∧ s i ≤ 32767) : eqN (resP_11 (lst s)) (res_12 (lst s)) 64 0 = true := by
  refine eqN_of 64 0 fun j hj => fwd_same _ (fun i hi => ?_) j (by omega)
  rw [lst_eq s i hi]
  have := h i hi
  omega
theorem key (w : World) (s t : Nat → Int) (hs : ∀ i, i < 64 → -32768 ≤ s i ∧ s i ≤ 32767) (ht : ∀ i, i < 64 → -32768 ≤ t i ∧ t i ≤ 32767) :
    Calls Try.prog 4 #[.agg (valsK .i16 64 s).toArray, .agg (valsK .i16 64 t).toArray] w fun e w' => e = .returned (.bool true) ∧ Below w.heap.size w w' := by
  refine law_of_run (st := false) (avs := [.val (.agg (valsK .i16 64 s).toArray), .val (.agg (valsK .i16 64 t).toArray)]) hm hT FEok Try.func4 (canon s t) (of_run (walked s t) ?_) (ARs_vals w [.agg (valsK .i16 64 s).toArray, .agg (valsK .i16 64 t).toArray])
  rw [both s hs, both t ht, eqN_same, eqN_same]
  rfl

theorem walk (a0 : List Int) (a1 : List Int) (l0 : a0.length = 64) (w0 : ∀ x ∈ a0, (Lit.int .i16 x).wf = true) (l1 : a1.length = 64) (w1 : ∀ x ∈ a1, (Lit.int .i16 x).wf = true) (w : World) :
    Calls Try.prog 4 #[.agg (a0.map (Value.int .i16)).toArray, .agg (a1.map (Value.int .i16)).toArray] w fun e w' => e = .returned (.bool true) ∧ Below w.heap.size w w' := by
  have hs : ∀ i, i < 64 → -32768 ≤ a0.getD i 0 ∧ a0.getD i 0 ≤ 32767 := fun i hi => wf_i16 (wf_at l0 w0 hi)
  have ht : ∀ i, i < 64 → -32768 ≤ a1.getD i 0 ∧ a1.getD i 0 ≤ 32767 := fun i hi => wf_i16 (wf_at l1 w1 hi)
  rw [valsK_of a0 l0, valsK_of a1 l1]
  exact key w _ _ hs ht

theorem lifted (os : Os) (started : os.Started) (H : Type) (enc : TypeId × Value → H) :
    ReturnsInHanded {} Try.checked os 4 .any (Rows.dctForwardSpec.pre6 enc Try.prog Try.f4 Rows.dctForwardRow.domain false) (Rows.dctForwardSpec.post enc Try.prog Try.f4 false true false false) := by
  refine returnsInHanded_of_change (C := Try.checked) own started (by kernel_rfl) Try.func4
    (ChangeSpec.witness6 (enc := enc) (C := Try.checked) false ⟨#[], #[.agg (Array.replicate 64 (.int .i16 0)), .agg (Array.replicate 64 (.int .i16 0))], []⟩ 8 (by kernel_rfl) (by kernel_rfl) (by kernel_rfl) (by kernel_rfl)) ?_
  intro W base args ds gs before hval0 hW hcnd _
  have hval : ∀ (j : Nat) t v, Try.f4.params[j]? = some t → args[j]? = some v → Value.okWide Try.prog W .any base t v := hval0
  have hW' := hW
  obtain ⟨p, q, hA0, hV, rfl, hfz, hnd⟩ := hW
  have hA : DataW.TrodAll enc Try.prog W 0 (fun _ => true) true Try.f4.params.toList args.toList ds p := hA0
  rw [Try.params4] at hA hval
  have hA2 := hA
  have hlt := trodAll_lt _ _ _ _ hA2
  obtain ⟨v0, vs0, d0, ds0, p0, q0, hargs, rfl, rfl, h0, r0⟩ := trodAll_cons hA
  obtain ⟨v1, vs1, d1, ds1, p1, q1, rfl, rfl, rfl, h1, r1⟩ := trodAll_cons r0
  obtain ⟨rfl, rfl, rfl⟩ := trodAll_nil r1
  obtain rfl : args = #[v0, v1] := by cases args; simp_all
  obtain ⟨rfl, rfl⟩ := trodVars_none hV
  obtain ⟨a0, l0, rfl, w0⟩ := open_arr Try.underlying25 Try.underlying24 (by kernel_rfl) (by kernel_rfl) (hval 0 25 v0 rfl rfl) h0
  obtain ⟨a1, l1, rfl, w1⟩ := open_arr Try.underlying25 Try.underlying24 (by kernel_rfl) (by kernel_rfl) (hval 1 25 v1 rfl rfl) h1
  refine (walk a0 a1 l0 w0 l1 w1 W).mono fun e W' ⟨he, bel⟩ => ?_
  subst he
  exact ⟨_, rfl, _, _, _, [], _, [], hW', trodAll_mk1 (shut_bool Try.underlying4 _), trodAll_below laidOut bel _ _ _ _ (by kernel_rfl) hA2 hlt, rfl, bel.frame _, fun h => by cases h⟩
theorem over : Rows.dctForwardRow.holds Try.pinned (OpenSpec.ofChange Rows.dctForwardSpec) :=
  OpenClaim.holds_of_wide 4 Try.f4 rfl rfl rfl rfl rfl rfl rfl ⟨rfl, rfl, rfl, rfl, rfl⟩ rfl rfl rfl rfl rfl (by kernel_rfl) Try.func4 (by kernel_rfl)
    (of_decide_eq_true (by kernel_rfl)) (by unfold Func.isWrapper; rw [if_neg (of_decide_eq_false (by kernel_rfl))]; exact ⟨rfl, rfl⟩)
    (fun os started H enc _ => lifted os started H enc)
end Go.Proofs.Ytcfbhlpmhlmekaa.DctForward
namespace Go.Proofs.Ytcfbhlpmhlmekaa
theorem dctForward_holds : Rows.DctForwardSaid := DctForward.over
#print axioms dctForward_holds
end Go.Proofs.Ytcfbhlpmhlmekaa
