/-
  What is proved here: for every list of floats the law WaveMoved returns true and its arguments read as before; the variables math._sin, math._cos, math.mPi4 hold what is listed (tied to the text by the card). No other condition.
-/
import Derived.Test.YthddkcoflnbjbaaDoorLaw23
import Derived.Test.YthddkcoflnbjbaaDoorSimU
import Derived.Test.YthddkcoflnbjbaaDoorCon0
import Derived.Test.YthddkcoflnbjbaaDoorSimL
import Derived.Test.YthddkcoflnbjbaaDoorCards
import Derived.Test.YthddkcoflnbjbaaDoorTie
namespace Go.Proofs.YthddkcoflnbjbaaDoor.WaveMoved
open Sm Go Go.RowKit Go.ChangeShapes Go.WideShapes Go.ChangeAt
set_option maxRecDepth 1000000
set_option linter.unusedVariables false
theorem own : ownKnob Tryd.prog.godebug = none := by kernel_rfl
theorem laidOut : laidOutB Tryd.prog = true := by kernel_rfl
theorem walk (n0 : Nat) (a0 : Nat → Nat) (u0 : Value) (w : World) (hL : LaidW w.heap.size w) (wf0 : ∀ j, j < n0 → (Lit.float .f64 (a0 j)).wf = true) (mx0 : n0 ≤ maxLen) (l0 : FltsIn w .f64 n0 a0 u0) :
    Calls Tryd.prog 3 #[u0] w fun e w' => e = .returned (.bool true) ∧ Below w.heap.size w w' := by
  obtain ⟨E, hh, hr⟩ := flts_env hL l0
  obtain ⟨F, hF, hrun⟩ := mv_run n0 a0 mx0
  exact call_of_env hm hT hF Tryd.func3 hh (RA.mk hr RA.nil) hrun

theorem laid_met (os : Os) : laidMet Tryd.prog Rows.waveMovedRow.laid ((laidWorld os).forCall (fun _ _ => 0) ⟨#[], #[.slice none 0 0], []⟩).memory :=
  laidMet_of_run' 8 (by kernel_rfl) (by kernel_rfl)
theorem reads (os : Os) {H : Type} (enc : TypeId × Value → H) : ∃ places, DataW.whole enc Tryd.prog ((laidWorld os).forCall (fun _ _ => 0) ⟨#[], #[.slice none 0 0], []⟩).memory Tryd.f3.params.toList Rows.waveMovedSpec.vars false (#[.slice none 0 0] : Array Value).toList 8 = some ([.nil], [], places) :=
  ⟨[], by kernel_rfl⟩
theorem lifted (os : Os) (started : os.Started) (H : Type) (enc : TypeId × Value → H) (F : Stop.Interp) :
    ReturnsInHanded {} Tryd.checked os 3 .any ((OpenSpec.ofChange Rows.waveMovedSpec).preRow enc Tryd.prog Tryd.f3 Rows.waveMovedRow.domain false Rows.waveMovedRow.laid) (((OpenSpec.ofChange Rows.waveMovedSpec).at F).post enc Tryd.prog Tryd.f3 false true false false) := by
  obtain ⟨places, hx⟩ := reads os enc
  refine returnsInHanded_of_row (C := Tryd.checked) (s := OpenSpec.ofChange Rows.waveMovedSpec) own started (by kernel_rfl) Tryd.func3
    (witness_row_at (enc := enc) (C := Tryd.checked) false (laidWorld os) #[.slice none 0 0] rfl (by kernel_rfl) (by kernel_rfl) (by kernel_rfl)
      (OpenSpec.preRow_of_cond 8 hx (by kernel_rfl) (fun k hk => by cases hk) (by kernel_rfl) (laid_met os))) ?_
  intro W base args ds gs before hval0 hW _ _ _ hL _ _
  have hval : ∀ (j : Nat) t v, Tryd.f3.params[j]? = some t → args[j]? = some v → Value.okWide Tryd.prog W .any base t v := hval0
  have hW' := hW
  obtain ⟨p, q, hA0, hV, rfl, hfz, hnd⟩ := hW
  have hA : DataW.TrodAll enc Tryd.prog W 0 (fun _ => true) true Tryd.f3.params.toList args.toList ds p := hA0
  rw [Tryd.params3] at hA hval
  have hA2 := hA
  have hlt := trodAll_lt _ _ _ _ hA2
  obtain ⟨v0, vs0, d0, ds0, p0, q0, hargs, rfl, rfl, h0, r0⟩ := trodAll_cons hA
  obtain ⟨rfl, rfl, rfl⟩ := trodAll_nil r0
  obtain rfl : args = #[v0] := by cases args; simp_all
  obtain ⟨rfl, rfl⟩ := trodVars_none hV
  obtain ⟨n0, a0, wf0, mx0, l0, z0⟩ := open_flts Tryd.underlying22 Tryd.underlying25 (by kernel_rfl) (hval 0 22 v0 rfl rfl) h0
  refine (walk n0 a0 v0 W (laidW hL) wf0 mx0 l0).mono fun e W' ⟨he, bel⟩ => ?_
  subst he
  exact ⟨_, rfl, _, _, _, [], _, [], hW', trodAll_mk1 (shut_bool Tryd.underlying4 _), trodAll_below laidOut bel _ _ _ _ (by kernel_rfl) hA2 hlt, rfl, bel.frame _, fun h => by cases h⟩
theorem said : Rows.WaveMovedSaid :=
  OpenClaim.holds_of_cond 3 Tryd.f3 rfl rfl rfl rfl rfl rfl rfl ⟨rfl, rfl, rfl, rfl, rfl⟩ rfl rfl rfl rfl rfl (by kernel_rfl) Tryd.func3 (by kernel_rfl)
    (of_decide_eq_true (by kernel_rfl)) (by unfold Func.isWrapper; first | (rw [if_pos (by decide +kernel)]; kernel_rfl) | (rw [if_neg (by decide +kernel)]; exact ⟨rfl, rfl⟩))
    (fun os started H enc _ F => by rw [OpenClaim.pre_eq_preRow]; exact lifted os started H enc F)
theorem plain (f : FuncId) (fn : Func) (hf : Tryd.pinned.checked.prog.funcNamed "mosaic/mosaiclaw10.WaveMoved" = some f) (hfn : Tryd.pinned.checked.prog.funcs[f]? = some fn) :
    false = Tryd.pinned.checked.prog.looks [] ∧ ∀ (j : Nat) t, fn.params[j]? = some t → Tryd.pinned.checked.prog.wantsStandIn t = false := by
  obtain rfl : f = 3 := Option.some.inj ((show Tryd.prog.funcNamed "mosaic/mosaiclaw10.WaveMoved" = some 3 by kernel_rfl).symm.trans hf) |>.symm
  obtain rfl : fn = Tryd.f3 := (Option.some.inj (Tryd.func3.symm.trans hfn)).symm
  refine ⟨by kernel_rfl, fun j t ht => ?_⟩
  rw [Tryd.params3] at ht
  have hm : t = 22 := by simpa using Array.mem_of_getElem? ht
  rcases hm with rfl
  · exact (show Tryd.prog.wantsStandIn 22 = false by kernel_rfl)
end Go.Proofs.YthddkcoflnbjbaaDoor.WaveMoved
namespace Go.Proofs.YthddkcoflnbjbaaDoor
theorem waveMovedCard_holds : Rows.WaveMovedCardSaid :=
  Claim7.holds_tied_plain_at .later [] _ _ _ _ WaveMoved.said (fun _ h => by cases h) (by kernel_rfl) (fun _ h => by cases h) waveMoved_row_tie rfl ⟨rfl, rfl⟩ (by kernel_rfl) rfl WaveMoved.plain (by kernel_rfl)
#print axioms waveMovedCard_holds
end Go.Proofs.YthddkcoflnbjbaaDoor
