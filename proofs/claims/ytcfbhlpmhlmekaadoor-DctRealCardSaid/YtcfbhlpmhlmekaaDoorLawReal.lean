/-
  What is proved here: for all 64 floats the law DctReal returns true and its arguments read as before; the variables math._sin, math._cos, math.mPi4 hold what is listed (tied to the text by the card). No other condition.
-/
import Derived.Test.YtcfbhlpmhlmekaaDoorLaw8
import Derived.Test.YtcfbhlpmhlmekaaDoorCon0
import Derived.Test.YtcfbhlpmhlmekaaDoorSimL
import Derived.Laws.Cover2
import Derived.Test.YtcfbhlpmhlmekaaDoorCards
import Derived.Test.YtcfbhlpmhlmekaaDoorTie
namespace Go.Proofs.YtcfbhlpmhlmekaaDoor.DctReal
open Sm Go Go.RowKit Go.ChangeShapes Go.WideShapes Go.ChangeAt
set_option maxRecDepth 1000000
set_option linter.unusedVariables false
theorem own : ownKnob Tryd.prog.godebug = none := by kernel_rfl
theorem laidOut : laidOutB Tryd.prog = true := by kernel_rfl
theorem key (a0 : List Nat) (l0 : a0.length = 64) (w : World) (hL : LaidW w.heap.size w) :
    Calls Tryd.prog 3 #[.agg (a0.map (Value.float .f64)).toArray] w fun e w' => e = .returned (.bool true) ∧ Below w.heap.size w w' := by
  obtain ⟨F, hF, n, orc, hr⟩ := law3 (a0.getD · 0) (.bool true) rfl
  exact (con_of_each hm hT Tryd.func3 Tryd.call3 (G := fun avs => open Classical in if avs = [.val (.agg (a0.map (Value.float .f64)).toArray)] then some (.bool true) else none) fun avs u h => by
    split at h
    · rename_i ha
      simp only [Option.some.injEq] at h
      subst h; subst ha
      exact ⟨F, hF, [], n, orc, _, _, canonL a0 l0, hr⟩
    · cases h).2 _ _ (if_pos rfl) w [.agg (a0.map (Value.float .f64)).toArray] hL (ARs_vals w [.agg (a0.map (Value.float .f64)).toArray])
theorem walk (a0 : List Nat) (w : World) (hL : LaidW w.heap.size w) (l0 : a0.length = 64) (w0 : ∀ x ∈ a0, (Lit.float .f64 x).wf = true) :
    Calls Tryd.prog 3 #[.agg (a0.map (Value.float .f64)).toArray] w fun e w' => e = .returned (.bool true) ∧ Below w.heap.size w w' := by
  exact key a0 l0 w hL
theorem laid_met (os : Os) : laidMet Tryd.prog Rows.dctRealRow.laid ((laidWorld os).forCall (fun _ _ => 0) ⟨#[], #[.agg (Array.replicate 64 (.float .f64 0))], []⟩).memory :=
  laidMet_of_run' 8 (by kernel_rfl) (by kernel_rfl)
theorem reads (os : Os) {H : Type} (enc : TypeId × Value → H) : ∃ places, DataW.whole enc Tryd.prog ((laidWorld os).forCall (fun _ _ => 0) ⟨#[], #[.agg (Array.replicate 64 (.float .f64 0))], []⟩).memory Tryd.f3.params.toList Rows.dctRealSpec.vars false (#[.agg (Array.replicate 64 (.float .f64 0))] : Array Value).toList 8 = some ([.agg (List.replicate 64 (.lit (.float .f64 0)))], [], places) :=
  ⟨[], by kernel_rfl⟩
theorem lifted (os : Os) (started : os.Started) (H : Type) (enc : TypeId × Value → H) (F : Stop.Interp) :
    ReturnsInHanded {} Tryd.checked os 3 .any ((OpenSpec.ofChange Rows.dctRealSpec).preRow enc Tryd.prog Tryd.f3 Rows.dctRealRow.domain false Rows.dctRealRow.laid) (((OpenSpec.ofChange Rows.dctRealSpec).at F).post enc Tryd.prog Tryd.f3 false true false false) := by
  obtain ⟨places, hx⟩ := reads os enc
  refine returnsInHanded_of_row (C := Tryd.checked) (s := OpenSpec.ofChange Rows.dctRealSpec) own started (by kernel_rfl) Tryd.func3
    (witness_row_at (enc := enc) (C := Tryd.checked) false (laidWorld os) #[.agg (Array.replicate 64 (.float .f64 0))] rfl (by kernel_rfl) (by kernel_rfl) (by kernel_rfl)
      (OpenSpec.preRow_of_cond 8 hx (by kernel_rfl) (fun k hk => by cases hk) (by kernel_rfl) (laid_met os))) ?_
  intro W base args ds gs before hval0 hW _ _ _ hL _ _
  have hval : ∀ (j : Nat) t v, Tryd.f3.params[j]? = some t → args[j]? = some v → Value.okWide Tryd.prog W .any base t v := hval0
  have hW' := hW
  obtain ⟨p, q, hA0, hV, rfl, hfz, hnd⟩ := hW
  have hA : DataW.TrodAll enc Tryd.prog W 0 (fun _ => true) true Tryd.f3.params.toList args.toList ds p := hA0
  rw [Tryd.params3] at hA hval
  have hA2 := hA
  have hlt := trodAll_lt _ _ _ _ hA2
  obtain ⟨v0, vs0, d0, ds0, p0, q0, hargs, rfl, rfl, h0, r0⟩ := trodAll_cons hA
  obtain ⟨rfl, rfl, rfl⟩ := trodAll_nil r0
  obtain rfl : args = #[v0] := by cases args; simp_all
  obtain ⟨rfl, rfl⟩ := trodVars_none hV
  obtain ⟨a0, l0, rfl, w0⟩ := open_farr Tryd.underlying23 Tryd.underlying22 (by kernel_rfl) (by kernel_rfl) (hval 0 23 v0 rfl rfl) h0
  refine (walk a0 W (laidW hL) l0 w0).mono fun e W' ⟨he, bel⟩ => ?_
  subst he
  exact ⟨_, rfl, _, _, _, [], _, [], hW', trodAll_mk1 (shut_bool Tryd.underlying4 _), trodAll_below laidOut bel _ _ _ _ (by kernel_rfl) hA2 hlt, rfl, bel.frame _, fun h => by cases h⟩
theorem said : Rows.DctRealSaid :=
  OpenClaim.holds_of_cond 3 Tryd.f3 rfl rfl rfl rfl rfl rfl rfl ⟨rfl, rfl, rfl, rfl, rfl⟩ rfl rfl rfl rfl rfl (by kernel_rfl) Tryd.func3 (by kernel_rfl)
    (of_decide_eq_true (by kernel_rfl)) (by unfold Func.isWrapper; first | (rw [if_pos (by decide +kernel)]; kernel_rfl) | (rw [if_neg (by decide +kernel)]; exact ⟨rfl, rfl⟩))
    (fun os started H enc _ F => by rw [OpenClaim.pre_eq_preRow]; exact lifted os started H enc F)
theorem plain (f : FuncId) (fn : Func) (hf : Tryd.pinned.checked.prog.funcNamed "mosaic/mosaiclaw09.DctReal" = some f) (hfn : Tryd.pinned.checked.prog.funcs[f]? = some fn) :
    false = Tryd.pinned.checked.prog.looks [] ∧ ∀ (j : Nat) t, fn.params[j]? = some t → Tryd.pinned.checked.prog.wantsStandIn t = false := by
  obtain rfl : f = 3 := Option.some.inj ((show Tryd.prog.funcNamed "mosaic/mosaiclaw09.DctReal" = some 3 by kernel_rfl).symm.trans hf) |>.symm
  obtain rfl : fn = Tryd.f3 := (Option.some.inj (Tryd.func3.symm.trans hfn)).symm
  refine ⟨by kernel_rfl, fun j t ht => ?_⟩
  rw [Tryd.params3] at ht
  have hm : t = 23 := by simpa using Array.mem_of_getElem? ht
  rcases hm with rfl
  · exact (show Tryd.prog.wantsStandIn 23 = false by kernel_rfl)
end Go.Proofs.YtcfbhlpmhlmekaaDoor.DctReal
namespace Go.Proofs.YtcfbhlpmhlmekaaDoor
theorem dctRealCard_holds : Rows.DctRealCardSaid :=
  Claim7.holds_tied_plain_at .later [] _ _ _ _ DctReal.said (fun _ h => by cases h) (by kernel_rfl) (fun _ h => by cases h) dctReal_row_tie rfl ⟨rfl, rfl⟩ (by kernel_rfl) rfl DctReal.plain (by kernel_rfl)
#print axioms dctRealCard_holds
end Go.Proofs.YtcfbhlpmhlmekaaDoor
