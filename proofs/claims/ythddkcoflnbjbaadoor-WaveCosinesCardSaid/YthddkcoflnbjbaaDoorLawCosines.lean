/-
  What is proved here: for every eight floats the law WaveCosines returns true and its arguments read as before; the variables math._sin, math._cos, math.mPi4 hold what is listed (tied to the text by the card). No other condition.
-/
import Derived.Test.YthddkcoflnbjbaaDoorLaw33
import Derived.Test.YthddkcoflnbjbaaDoorCon0
import Derived.Test.YthddkcoflnbjbaaDoorSimL
import Derived.Laws.Cover2
import Derived.Test.YthddkcoflnbjbaaDoorCards
import Derived.Test.YthddkcoflnbjbaaDoorTie
namespace Go.Proofs.YthddkcoflnbjbaaDoor.WaveCosines
open Sm Go Go.RowKit Go.ChangeShapes Go.WideShapes Go.ChangeAt
set_option maxRecDepth 1000000
set_option linter.unusedVariables false
theorem own : ownKnob Tryd.prog.godebug = none := by kernel_rfl
theorem laidOut : laidOutB Tryd.prog = true := by kernel_rfl
theorem walk (a0 : List Nat) (w : World) (hL : LaidW w.heap.size w) (l0 : a0.length = 8) (w0 : ∀ x ∈ a0, (Lit.float .f64 x).wf = true) :
    Calls Tryd.prog 10 #[.agg (a0.map (Value.float .f64)).toArray] w fun e w' => e = .returned (.bool true) ∧ Below w.heap.size w w' := by
  have hG : GCos10 [.val (.agg (a0.map (Value.float .f64)).toArray)] = some (.bool true) := by
    match a0, l0 with
    | [x0, x1, x2, x3, x4, x5, x6, x7], _ => rfl
  exact con10.2 _ _ hG w [.agg (a0.map (Value.float .f64)).toArray] hL (ARs_vals w [.agg (a0.map (Value.float .f64)).toArray])

theorem laid_met (os : Os) : laidMet Tryd.prog Rows.waveCosinesRow.laid ((laidWorld os).forCall (fun _ _ => 0) ⟨#[], #[.agg (Array.replicate 8 (.float .f64 0))], []⟩).memory :=
  laidMet_of_run' 8 (by kernel_rfl) (by kernel_rfl)
theorem reads (os : Os) {H : Type} (enc : TypeId × Value → H) : ∃ places, DataW.whole enc Tryd.prog ((laidWorld os).forCall (fun _ _ => 0) ⟨#[], #[.agg (Array.replicate 8 (.float .f64 0))], []⟩).memory Tryd.f10.params.toList Rows.waveCosinesSpec.vars false (#[.agg (Array.replicate 8 (.float .f64 0))] : Array Value).toList 8 = some ([.agg (List.replicate 8 (.lit (.float .f64 0)))], [], places) :=
  ⟨[], by kernel_rfl⟩
theorem lifted (os : Os) (started : os.Started) (H : Type) (enc : TypeId × Value → H) (F : Stop.Interp) :
    ReturnsInHanded {} Tryd.checked os 10 .any ((OpenSpec.ofChange Rows.waveCosinesSpec).preRow enc Tryd.prog Tryd.f10 Rows.waveCosinesRow.domain false Rows.waveCosinesRow.laid) (((OpenSpec.ofChange Rows.waveCosinesSpec).at F).post enc Tryd.prog Tryd.f10 false true false false) := by
  obtain ⟨places, hx⟩ := reads os enc
  refine returnsInHanded_of_row (C := Tryd.checked) (s := OpenSpec.ofChange Rows.waveCosinesSpec) own started (by kernel_rfl) Tryd.func10
    (witness_row_at (enc := enc) (C := Tryd.checked) false (laidWorld os) #[.agg (Array.replicate 8 (.float .f64 0))] rfl (by kernel_rfl) (by kernel_rfl) (by kernel_rfl)
      (OpenSpec.preRow_of_cond 8 hx (by kernel_rfl) (fun k hk => by cases hk) (by kernel_rfl) (laid_met os))) ?_
  intro W base args ds gs before hval0 hW _ _ _ hL _ _
  have hval : ∀ (j : Nat) t v, Tryd.f10.params[j]? = some t → args[j]? = some v → Value.okWide Tryd.prog W .any base t v := hval0
  have hW' := hW
  obtain ⟨p, q, hA0, hV, rfl, hfz, hnd⟩ := hW
  have hA : DataW.TrodAll enc Tryd.prog W 0 (fun _ => true) true Tryd.f10.params.toList args.toList ds p := hA0
  rw [Tryd.params10] at hA hval
  have hA2 := hA
  have hlt := trodAll_lt _ _ _ _ hA2
  obtain ⟨v0, vs0, d0, ds0, p0, q0, hargs, rfl, rfl, h0, r0⟩ := trodAll_cons hA
  obtain ⟨rfl, rfl, rfl⟩ := trodAll_nil r0
  obtain rfl : args = #[v0] := by cases args; simp_all
  obtain ⟨rfl, rfl⟩ := trodVars_none hV
  obtain ⟨a0, l0, rfl, w0⟩ := open_farr Tryd.underlying41 Tryd.underlying25 (by kernel_rfl) (by kernel_rfl) (hval 0 41 v0 rfl rfl) h0
  refine (walk a0 W (laidW hL) l0 w0).mono fun e W' ⟨he, bel⟩ => ?_
  subst he
  exact ⟨_, rfl, _, _, _, [], _, [], hW', trodAll_mk1 (shut_bool Tryd.underlying4 _), trodAll_below laidOut bel _ _ _ _ (by kernel_rfl) hA2 hlt, rfl, bel.frame _, fun h => by cases h⟩
theorem said : Rows.WaveCosinesSaid :=
  OpenClaim.holds_of_cond 10 Tryd.f10 rfl rfl rfl rfl rfl rfl rfl ⟨rfl, rfl, rfl, rfl, rfl⟩ rfl rfl rfl rfl rfl (by kernel_rfl) Tryd.func10 (by kernel_rfl)
    (of_decide_eq_true (by kernel_rfl)) (by unfold Func.isWrapper; first | (rw [if_pos (by decide +kernel)]; kernel_rfl) | (rw [if_neg (by decide +kernel)]; exact ⟨rfl, rfl⟩))
    (fun os started H enc _ F => by rw [OpenClaim.pre_eq_preRow]; exact lifted os started H enc F)
theorem plain (f : FuncId) (fn : Func) (hf : Tryd.pinned.checked.prog.funcNamed "mosaic/mosaiclaw10.WaveCosines" = some f) (hfn : Tryd.pinned.checked.prog.funcs[f]? = some fn) :
    false = Tryd.pinned.checked.prog.looks [] ∧ ∀ (j : Nat) t, fn.params[j]? = some t → Tryd.pinned.checked.prog.wantsStandIn t = false := by
  obtain rfl : f = 10 := Option.some.inj ((show Tryd.prog.funcNamed "mosaic/mosaiclaw10.WaveCosines" = some 10 by kernel_rfl).symm.trans hf) |>.symm
  obtain rfl : fn = Tryd.f10 := (Option.some.inj (Tryd.func10.symm.trans hfn)).symm
  refine ⟨by kernel_rfl, fun j t ht => ?_⟩
  rw [Tryd.params10] at ht
  have hm : t = 41 := by simpa using Array.mem_of_getElem? ht
  rcases hm with rfl
  · exact (show Tryd.prog.wantsStandIn 41 = false by kernel_rfl)
end Go.Proofs.YthddkcoflnbjbaaDoor.WaveCosines
namespace Go.Proofs.YthddkcoflnbjbaaDoor
theorem waveCosinesCard_holds : Rows.WaveCosinesCardSaid :=
  Claim7.holds_tied_plain_at .later [] _ _ _ _ WaveCosines.said (fun _ h => by cases h) (by kernel_rfl) (fun _ h => by cases h) waveCosines_row_tie rfl ⟨rfl, rfl⟩ (by kernel_rfl) rfl WaveCosines.plain (by kernel_rfl)
#print axioms waveCosinesCard_holds
end Go.Proofs.YthddkcoflnbjbaaDoor
