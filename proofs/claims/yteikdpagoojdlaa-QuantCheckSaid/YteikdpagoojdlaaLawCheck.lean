/-
  What is proved here: for every table the law QuantCheck returns true and its arguments read as before. No condition.
-/
import Derived.Test.YteikdpagoojdlaaCon4
namespace Go.Proofs.Yteikdpagoojdlaa.QuantCheck
open Sm Go Go.RowKit Go.ChangeShapes Go.WideShapes Go.ChangeAt
set_option maxRecDepth 1000000
theorem own : ownKnob Try.prog.godebug = none := by kernel_rfl
theorem laidOut : laidOutB Try.prog = true := by kernel_rfl
theorem canonC (c : Nat → Int) (b : Bool) : canon false [.val (.agg (valsK .u16 64 c).toArray), .val (.bool b)] 0 = some ([.agg (cellsK .u16 false 64 c), .one (.sc (.bool b) false)], []) := by kernel_rfl
theorem walked (c : Nat → Int) (b : Bool) : runK Try.prog T FC 3000 Try.f3 [.agg (cellsK .u16 false 64 c), .one (.sc (.bool b) false)] [] [] (fun r _ => isTrue r) = ((bif (bif chk c b 64 0 false == chk c b 64 0 false then eqN c c 64 0 else false) then (80 : Int) == 80 else false) = true) := by kernel_rfl
theorem checked (c : Nat → Int) (b : Bool) : (bif (bif chk c b 64 0 false == chk c b 64 0 false then eqN c c 64 0 else false) then (80 : Int) == 80 else false) = true := by
  simp [eqN_same]

theorem walk (a0 : List Int) (a1 : Bool) (l0 : a0.length = 64) (_w0 : ∀ x ∈ a0, (Lit.int .u16 x).wf = true)  (w : World) :
    Calls Try.prog 3 #[.agg (a0.map (Value.int .u16)).toArray, .bool a1] w fun e w' => e = .returned (.bool true) ∧ Below w.heap.size w w' := by
  rw [valsK_of a0 l0]
  generalize (fun i => a0.getD i 0) = c
  exact law_of_run (st := false) (avs := [.val (.agg (valsK .u16 64 c).toArray), .val (.bool a1)]) hm hT FCok Try.func3 (canonC c a1) (of_run (walked c a1) (checked c a1)) (ARs_vals w [.agg (valsK .u16 64 c).toArray, .bool a1])

theorem lifted (os : Os) (started : os.Started) (H : Type) (enc : TypeId × Value → H) :
    ReturnsInHanded {} Try.checked os 3 .any (Rows.quantCheckSpec.pre6 enc Try.prog Try.f3 Rows.quantCheckRow.domain false) (Rows.quantCheckSpec.post enc Try.prog Try.f3 false true false false) := by
  refine returnsInHanded_of_change (C := Try.checked) own started (by kernel_rfl) Try.func3
    (ChangeSpec.witness6 (enc := enc) (C := Try.checked) false ⟨#[], #[.agg (Array.replicate 64 (.int .u16 0)), .bool false], []⟩ 8 (by kernel_rfl) (by kernel_rfl) (by kernel_rfl) (by kernel_rfl)) ?_
  intro W base args ds gs before hval0 hW hcnd _
  have hval : ∀ (j : Nat) t v, Try.f3.params[j]? = some t → args[j]? = some v → Value.okWide Try.prog W .any base t v := hval0
  have hW' := hW
  obtain ⟨p, q, hA0, hV, rfl, hfz, hnd⟩ := hW
  have hA : DataW.TrodAll enc Try.prog W 0 (fun _ => true) true Try.f3.params.toList args.toList ds p := hA0
  rw [Try.params3] at hA hval
  have hA2 := hA
  have hlt := trodAll_lt _ _ _ _ hA2
  obtain ⟨v0, vs0, d0, ds0, p0, q0, hargs, rfl, rfl, h0, r0⟩ := trodAll_cons hA
  obtain ⟨v1, vs1, d1, ds1, p1, q1, rfl, rfl, rfl, h1, r1⟩ := trodAll_cons r0
  obtain ⟨rfl, rfl, rfl⟩ := trodAll_nil r1
  obtain rfl : args = #[v0, v1] := by cases args; simp_all
  obtain ⟨rfl, rfl⟩ := trodVars_none hV
  obtain ⟨a0, l0, rfl, w0⟩ := open_arr Try.underlying23 Try.underlying22 (by kernel_rfl) (by kernel_rfl) (hval 0 23 v0 rfl rfl) h0
  obtain ⟨a1, rfl, _, _⟩ := open_bool Try.underlying4 (hval 1 4 v1 rfl rfl) h1
  refine (walk a0 a1 l0 w0 W).mono fun e W' ⟨he, bel⟩ => ?_
  subst he
  exact ⟨_, rfl, _, _, _, [], _, [], hW', trodAll_mk1 (shut_bool Try.underlying4 _), trodAll_below laidOut bel _ _ _ _ (by kernel_rfl) hA2 hlt, rfl, bel.frame _, fun h => by cases h⟩
theorem over : Rows.quantCheckRow.holds Try.pinned (OpenSpec.ofChange Rows.quantCheckSpec) :=
  OpenClaim.holds_of_wide 3 Try.f3 rfl rfl rfl rfl rfl rfl rfl ⟨rfl, rfl, rfl, rfl, rfl⟩ rfl rfl rfl rfl rfl (by kernel_rfl) Try.func3 (by kernel_rfl)
    (of_decide_eq_true (by kernel_rfl)) (by unfold Func.isWrapper; rw [if_neg (of_decide_eq_false (by kernel_rfl))]; exact ⟨rfl, rfl⟩)
    (fun os started H enc _ => lifted os started H enc)
end Go.Proofs.Yteikdpagoojdlaa.QuantCheck
namespace Go.Proofs.Yteikdpagoojdlaa
theorem quantCheck_holds : Rows.QuantCheckSaid := QuantCheck.over
#print axioms quantCheck_holds
end Go.Proofs.Yteikdpagoojdlaa
