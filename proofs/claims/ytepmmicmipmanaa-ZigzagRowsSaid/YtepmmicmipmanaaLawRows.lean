/-
  What is proved here: for every block the law ZigzagRows returns true and its argument reads as before. No condition.
-/
import Derived.Test.YtepmmicmipmanaaCon7
import Derived.Test.YtepmmicmipmanaaSimN
namespace Go.Proofs.Ytepmmicmipmanaa.ZigzagRows
open Sm Go Go.RowKit Go.ChangeShapes Go.WideShapes Go.ChangeAt
set_option maxRecDepth 1000000
theorem own : ownKnob Try.prog.godebug = none := by kernel_rfl
theorem laidOut : laidOutB Try.prog = true := by kernel_rfl
theorem valsB_of (xs : List Int) (h : xs.length = 64) : xs.map (Value.int .i16) = valsB (fun i => xs.getD i 0) := by
  conv => lhs; rw [list_of_fn xs 64 h]
  simp [valsB]

def rowsL (b : Nat → Int) : List (Bool × Bool) := (List.range 64).flatMap fun i =>
  [(b (posL.getD i 0) != b (posL.getD i 0), false), (flipI false (posL.getD i 0) (b (posL.getD i 0)) != flipI false (posL.getD i 0) (b (posL.getD i 0)), false), (flipI true (posL.getD i 0) (b (posL.getD i 0)) != flipI true (posL.getD i 0) (b (posL.getD i 0)), false)]
theorem rowsL_ok (b : Nat → Int) : ∀ p ∈ rowsL b, p.1 = p.2 := by
  intro p hp
  simp only [rowsL, List.mem_flatMap, List.mem_cons, List.not_mem_nil, or_false] at hp
  obtain ⟨i, _, rfl | rfl | rfl⟩ := hp <;> simp
theorem walked (b : Nat → Int) : runK Try.prog T F8 6000 Try.f10 [.agg (cellsD b)] [] (List.replicate 192 false) (fun r _ => isTrue r) = obs (rowsL b) (true = true) := by kernel_rfl

theorem walk (a0 : List Int) (l0 : a0.length = 64) (_w0 : ∀ x ∈ a0, (Lit.int .i16 x).wf = true) (w : World) :
    Calls Try.prog 10 #[.agg (a0.map (Value.int .i16)).toArray] w fun e w' => e = .returned (.bool true) ∧ Below w.heap.size w w' := by
  rw [valsB_of a0 l0]
  generalize (fun i => a0.getD i 0) = b
  exact law_of_run (st := false) (avs := [.val (.agg (valsB b).toArray)]) hm hT F8ok Try.func10 (canonD b) (of_run (walked b) (obs_of _ _ (rowsL_ok b) rfl)) (ARs_vals w [.agg (valsB b).toArray])

theorem lifted (os : Os) (started : os.Started) (H : Type) (enc : TypeId × Value → H) :
    ReturnsInHanded {} Try.checked os 10 .any (Rows.zigzagRowsSpec.pre6 enc Try.prog Try.f10 Rows.zigzagRowsRow.domain false) (Rows.zigzagRowsSpec.post enc Try.prog Try.f10 false true false false) := by
  refine returnsInHanded_of_change (C := Try.checked) own started (by kernel_rfl) Try.func10
    (ChangeSpec.witness6 (enc := enc) (C := Try.checked) false ⟨#[], #[.agg (Array.replicate 64 (.int .i16 0))], []⟩ 8 (by kernel_rfl) (by kernel_rfl) (by kernel_rfl) (by kernel_rfl)) ?_
  intro W base args ds gs before hval0 hW hcnd _
  have hval : ∀ (j : Nat) t v, Try.f10.params[j]? = some t → args[j]? = some v → Value.okWide Try.prog W .any base t v := hval0
  have hW' := hW
  obtain ⟨p, q, hA0, hV, rfl, hfz, hnd⟩ := hW
  have hA : DataW.TrodAll enc Try.prog W 0 (fun _ => true) true Try.f10.params.toList args.toList ds p := hA0
  rw [Try.params10] at hA hval
  have hA2 := hA
  have hlt := trodAll_lt _ _ _ _ hA2
  obtain ⟨v0, vs0, d0, ds0, p0, q0, hargs, rfl, rfl, h0, r0⟩ := trodAll_cons hA
  obtain ⟨rfl, rfl, rfl⟩ := trodAll_nil r0
  obtain rfl : args = #[v0] := by cases args; simp_all
  obtain ⟨rfl, rfl⟩ := trodVars_none hV
  obtain ⟨a0, l0, rfl, w0⟩ := open_arr Try.underlying38 Try.underlying36 (by kernel_rfl) (by kernel_rfl) (hval 0 38 v0 rfl rfl) h0
  refine (walk a0 l0 w0 W).mono fun e W' ⟨he, bel⟩ => ?_
  subst he
  exact ⟨_, rfl, _, _, _, [], _, [], hW', trodAll_mk1 (shut_bool Try.underlying4 _), trodAll_below laidOut bel _ _ _ _ (by kernel_rfl) hA2 hlt, rfl, bel.frame _, fun h => by cases h⟩
theorem over : Rows.zigzagRowsRow.holds Try.pinned (OpenSpec.ofChange Rows.zigzagRowsSpec) :=
  OpenClaim.holds_of_wide 10 Try.f10 rfl rfl rfl rfl rfl rfl rfl ⟨rfl, rfl, rfl, rfl, rfl⟩ rfl rfl rfl rfl rfl (by kernel_rfl) Try.func10 (by kernel_rfl)
    (of_decide_eq_true (by kernel_rfl)) (by unfold Func.isWrapper; rw [if_neg (of_decide_eq_false (by kernel_rfl))]; exact ⟨rfl, rfl⟩)
    (fun os started H enc _ => lifted os started H enc)
end Go.Proofs.Ytepmmicmipmanaa.ZigzagRows
namespace Go.Proofs.Ytepmmicmipmanaa
theorem zigzagRows_holds : Rows.ZigzagRowsSaid := ZigzagRows.over
#print axioms zigzagRows_holds
end Go.Proofs.Ytepmmicmipmanaa
