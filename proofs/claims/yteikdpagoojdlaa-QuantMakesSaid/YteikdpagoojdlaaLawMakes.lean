/-
  What is proved here: for all fine coefficients, every table and every block the law QuantMakes returns true and its arguments read as before. No condition.
-/
import Derived.Test.YteikdpagoojdlaaCon9
namespace Go.Proofs.Yteikdpagoojdlaa.QuantMakes
open Sm Go Go.RowKit Go.ChangeShapes Go.WideShapes Go.ChangeAt
set_option maxRecDepth 1000000
theorem own : ownKnob Try.prog.godebug = none := by kernel_rfl
theorem laidOut : laidOutB Try.prog = true := by kernel_rfl
theorem canonM (f t b : Nat → Int) : canon false [.val (.agg (valsK .i32 64 f).toArray), .val (.agg (valsK .u16 64 t).toArray), .val (.agg (valsK .i16 64 b).toArray)] 0 = some ([.agg (cellsK .i32 false 64 f), .agg (cellsK .u16 false 64 t), .agg (cellsK .i16 false 64 b)], []) := by kernel_rfl
def and' (a b : Bool) : Bool := bif a then b else false
def makesB (f t b : Nat → Int) : Bool :=
  let s : Nat → Int := fun i => stepV (t i)
  let o : Nat → Int := fun _ => 1
  let z : Nat → Int := fun _ => 0
  and' (and' (and' (and' (and' (and' (eqN (coarseV f s) (coarseV f s) 64 0) (eqN (fineV b s) (fineV b s) 64 0)) (eqF .f32 (shareV f s) (shareV f s) 64 0))
    (and' (and' (eqN (coarseV f o) (coarseV f o) 64 0) (eqN (coarseV z s) (coarseV z s) 64 0)) (eqN (fineV b o) (fineV b o) 64 0)))
    (eqF .f32 (shareV f o) (shareV f o) 64 0)) (eqN f f 64 0)) (eqN t t 64 0)
def makesL (f t : Nat → Int) : List Prop :=
  let s : Nat → Int := fun i => stepV (t i)
  let o : Nat → Int := fun _ => 1
  let z : Nat → Int := fun _ => 0
  [fitsN f s 64 0, fitsN f s 64 0, fitsN f s 64 0, fitsN f s 64 0, fitsN f o 64 0, fitsN f o 64 0, fitsN z s 64 0, fitsN z s 64 0, fitsN z o 64 0, fitsN z o 64 0, fitsN f o 64 0, fitsN f o 64 0]
theorem walked (f t b : Nat → Int) : runK Try.prog T FK 3000 Try.f4 [.agg (cellsK .i32 false 64 f), .agg (cellsK .u16 false 64 t), .agg (cellsK .i16 false 64 b)] [] [] (fun r _ => isTrue r) = obsP (makesL f t) (makesB f t b = true) := by kernel_rfl
theorem makes_ok {f t b : Nat → Int} (hf : ∀ i, i < 64 → -2147483648 ≤ f i ∧ f i ≤ 2147483647) (ht : ∀ i, i < 64 → 0 ≤ t i ∧ t i ≤ 65535) : obsP (makesL f t) (makesB f t b = true) := by
  have h1 : fits f (fun i => stepV (t i)) := ⟨hf, fun i hi => stepV_ok (ht i hi).1 (ht i hi).2⟩
  have h2 : fits f (fun _ => 1) := ⟨hf, fun i hi => ⟨show (1 : Int) ≤ 1 by decide, show (1 : Int) ≤ 65535 by decide⟩⟩
  have h3 : fits (fun _ => 0) (fun i => stepV (t i)) := ⟨fun i hi => ⟨show (-2147483648 : Int) ≤ 0 by decide, show (0 : Int) ≤ 2147483647 by decide⟩, h1.2⟩
  have h4 : fits (fun _ => 0) (fun _ => 1) := ⟨h3.1, h2.2⟩
  have s1 : ∀ j, j < 0 + 64 → Sm.fnum .f32 (shareV f (fun i => stepV (t i)) j) := fun j hj => (share_ok h1 (by omega)).2.num
  have s2 : ∀ j, j < 0 + 64 → Sm.fnum .f32 (shareV f (fun _ => 1) j) := fun j hj => (share_ok h2 (by omega)).2.num
  refine obsP_of _ _ (fun p hp => ?_) ?_
  · simp only [makesL, List.mem_cons, List.not_mem_nil, or_false] at hp
    rcases hp with rfl | rfl | rfl | rfl | rfl | rfl | rfl | rfl | rfl | rfl | rfl | rfl <;> first | exact fitsN_of h1 | exact fitsN_of h2 | exact fitsN_of h3 | exact fitsN_of h4
  · simp only [makesB, and', eqN_same, eqF_same 64 0 s1, eqF_same 64 0 s2, cond_true]

theorem walk (a0 : List Int) (a1 : List Int) (a2 : List Int) (l0 : a0.length = 64) (w0 : ∀ x ∈ a0, (Lit.int .i32 x).wf = true) (l1 : a1.length = 64) (w1 : ∀ x ∈ a1, (Lit.int .u16 x).wf = true) (l2 : a2.length = 64) (_w2 : ∀ x ∈ a2, (Lit.int .i16 x).wf = true) (w : World) :
    Calls Try.prog 4 #[.agg (a0.map (Value.int .i32)).toArray, .agg (a1.map (Value.int .u16)).toArray, .agg (a2.map (Value.int .i16)).toArray] w fun e w' => e = .returned (.bool true) ∧ Below w.heap.size w w' := by
  have hf : ∀ i, i < 64 → -2147483648 ≤ a0.getD i 0 ∧ a0.getD i 0 ≤ 2147483647 := fun i hi => wf_i32 (wf_at l0 w0 hi)
  have ht : ∀ i, i < 64 → 0 ≤ a1.getD i 0 ∧ a1.getD i 0 ≤ 65535 := fun i hi => wf_u16 (wf_at l1 w1 hi)
  rw [valsK_of a0 l0, valsK_of a1 l1, valsK_of a2 l2]
  exact law_of_run (st := false) (avs := [.val (.agg (valsK .i32 64 _).toArray), .val (.agg (valsK .u16 64 _).toArray), .val (.agg (valsK .i16 64 _).toArray)]) hm hT FKok Try.func4 (canonM _ _ _) (of_run (walked _ _ _) (makes_ok hf ht)) (ARs_vals w [.agg (valsK .i32 64 _).toArray, .agg (valsK .u16 64 _).toArray, .agg (valsK .i16 64 _).toArray])

theorem lifted (os : Os) (started : os.Started) (H : Type) (enc : TypeId × Value → H) :
    ReturnsInHanded {} Try.checked os 4 .any (Rows.quantMakesSpec.pre6 enc Try.prog Try.f4 Rows.quantMakesRow.domain false) (Rows.quantMakesSpec.post enc Try.prog Try.f4 false true false false) := by
  refine returnsInHanded_of_change (C := Try.checked) own started (by kernel_rfl) Try.func4
    (ChangeSpec.witness6 (enc := enc) (C := Try.checked) false ⟨#[], #[.agg (Array.replicate 64 (.int .i32 0)), .agg (Array.replicate 64 (.int .u16 0)), .agg (Array.replicate 64 (.int .i16 0))], []⟩ 8 (by kernel_rfl) (by kernel_rfl) (by kernel_rfl) (by kernel_rfl)) ?_
  intro W base args ds gs before hval0 hW hcnd _
  have hval : ∀ (j : Nat) t v, Try.f4.params[j]? = some t → args[j]? = some v → Value.okWide Try.prog W .any base t v := hval0
  have hW' := hW
  obtain ⟨p, q, hA0, hV, rfl, hfz, hnd⟩ := hW
  have hA : DataW.TrodAll enc Try.prog W 0 (fun _ => true) true Try.f4.params.toList args.toList ds p := hA0
  rw [Try.params4] at hA hval
  have hA2 := hA
  have hlt := trodAll_lt _ _ _ _ hA2
  obtain ⟨v0, vs0, d0, ds0, p0, q0, hargs, rfl, rfl, h0, r0⟩ := trodAll_cons hA
  obtain ⟨v1, vs1, d1, ds1, p1, q1, rfl, rfl, rfl, h1, r1⟩ := trodAll_cons r0
  obtain ⟨v2, vs2, d2, ds2, p2, q2, rfl, rfl, rfl, h2, r2⟩ := trodAll_cons r1
  obtain ⟨rfl, rfl, rfl⟩ := trodAll_nil r2
  obtain rfl : args = #[v0, v1, v2] := by cases args; simp_all
  obtain ⟨rfl, rfl⟩ := trodVars_none hV
  obtain ⟨a0, l0, rfl, w0⟩ := open_arr Try.underlying29 Try.underlying21 (by kernel_rfl) (by kernel_rfl) (hval 0 29 v0 rfl rfl) h0
  obtain ⟨a1, l1, rfl, w1⟩ := open_arr Try.underlying23 Try.underlying22 (by kernel_rfl) (by kernel_rfl) (hval 1 23 v1 rfl rfl) h1
  obtain ⟨a2, l2, rfl, w2⟩ := open_arr Try.underlying32 Try.underlying30 (by kernel_rfl) (by kernel_rfl) (hval 2 32 v2 rfl rfl) h2
  refine (walk a0 a1 a2 l0 w0 l1 w1 l2 w2 W).mono fun e W' ⟨he, bel⟩ => ?_
  subst he
  exact ⟨_, rfl, _, _, _, [], _, [], hW', trodAll_mk1 (shut_bool Try.underlying4 _), trodAll_below laidOut bel _ _ _ _ (by kernel_rfl) hA2 hlt, rfl, bel.frame _, fun h => by cases h⟩
theorem over : Rows.quantMakesRow.holds Try.pinned (OpenSpec.ofChange Rows.quantMakesSpec) :=
  OpenClaim.holds_of_wide 4 Try.f4 rfl rfl rfl rfl rfl rfl rfl ⟨rfl, rfl, rfl, rfl, rfl⟩ rfl rfl rfl rfl rfl (by kernel_rfl) Try.func4 (by kernel_rfl)
    (of_decide_eq_true (by kernel_rfl)) (by unfold Func.isWrapper; rw [if_neg (of_decide_eq_false (by kernel_rfl))]; exact ⟨rfl, rfl⟩)
    (fun os started H enc _ => lifted os started H enc)
end Go.Proofs.Yteikdpagoojdlaa.QuantMakes
namespace Go.Proofs.Yteikdpagoojdlaa
theorem quantMakes_holds : Rows.QuantMakesSaid := QuantMakes.over
#print axioms quantMakes_holds
end Go.Proofs.Yteikdpagoojdlaa
