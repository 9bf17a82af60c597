/-
  What is proved here: for every list of floats the law WavePower returns true and its arguments read as before; the variables math._sin, math._cos, math.mPi4 hold what is listed (tied to the text by the card). No other condition.
-/
import Derived.Test.YthddkcoflnbjbaaDoorLaw40
import Derived.Test.YthddkcoflnbjbaaDoorSimU
import Derived.Test.YthddkcoflnbjbaaDoorCon0
import Derived.Test.YthddkcoflnbjbaaDoorSimL
import Derived.Test.YthddkcoflnbjbaaDoorCards
import Derived.Test.YthddkcoflnbjbaaDoorTie
namespace Go.Proofs.YthddkcoflnbjbaaDoor.WavePower
open Sm Go Go.RowKit Go.ChangeShapes Go.WideShapes Go.ChangeAt
set_option maxRecDepth 1000000
set_option linter.unusedVariables false
theorem own : ownKnob Tryd.prog.godebug = none := by kernel_rfl
theorem laidOut : laidOutB Tryd.prog = true := by kernel_rfl
theorem bytes25 : Tryd.prog.bytesOf 25 = 8 := by kernel_rfl
theorem walk (n0 : Nat) (a0 : Nat → Nat) (u0 : Value) (w : World) (hL : LaidW w.heap.size w) (wf0 : ∀ j, j < n0 → (Lit.float .f64 (a0 j)).wf = true) (mx0 : n0 ≤ maxLen) (l0 : FltsIn w .f64 n0 a0 u0) (s0 : n0 * 8 ≤ 140737488351232) :
    Calls Tryd.prog 13 #[u0] w fun e w' => e = .returned (.bool true) ∧ Below w.heap.size w w' := by
  obtain ⟨E, hh, hr⟩ := flts_env hL l0
  obtain ⟨F, hF, orc, hrun⟩ := pow_run n0 a0 s0
  exact call_of_env hm hTg hF Tryd.func13 hh (RA.mk hr RA.nil) hrun

theorem laid_met (os : Os) : laidMet Tryd.prog Rows.wavePowerRow.laid ((laidWorld os).forCall (fun _ _ => 0) ⟨#[], #[.slice none 0 0], []⟩).memory :=
  laidMet_of_run' 8 (by kernel_rfl) (by kernel_rfl)
theorem reads (os : Os) {H : Type} (enc : TypeId × Value → H) : ∃ places, DataW.whole enc Tryd.prog ((laidWorld os).forCall (fun _ _ => 0) ⟨#[], #[.slice none 0 0], []⟩).memory Tryd.f13.params.toList Rows.wavePowerSpec.vars false (#[.slice none 0 0] : Array Value).toList 8 = some ([.nil], [], places) :=
  ⟨[], by kernel_rfl⟩
theorem lifted (os : Os) (started : os.Started) (H : Type) (enc : TypeId × Value → H) (F : Stop.Interp) :
    ReturnsInHanded {} Tryd.checked os 13 .any ((OpenSpec.ofChange Rows.wavePowerSpec).preRow enc Tryd.prog Tryd.f13 Rows.wavePowerRow.domain false Rows.wavePowerRow.laid) (((OpenSpec.ofChange Rows.wavePowerSpec).at F).post enc Tryd.prog Tryd.f13 false true false false) := by
  obtain ⟨places, hx⟩ := reads os enc
  refine returnsInHanded_of_row (C := Tryd.checked) (s := OpenSpec.ofChange Rows.wavePowerSpec) own started (by kernel_rfl) Tryd.func13
    (witness_row_at (enc := enc) (C := Tryd.checked) false (laidWorld os) #[.slice none 0 0] rfl (by kernel_rfl) (by kernel_rfl) (by kernel_rfl)
      (OpenSpec.preRow_of_cond 8 hx (by kernel_rfl) (fun k hk => by cases hk) (by kernel_rfl) (laid_met os))) ?_
  intro W base args ds gs before hval0 hW _ _ hsz0 hL _ _
  have hval : ∀ (j : Nat) t v, Tryd.f13.params[j]? = some t → args[j]? = some v → Value.okWide Tryd.prog W .any base t v := hval0
  have hW' := hW
  obtain ⟨p, q, hA0, hV, rfl, hfz, hnd⟩ := hW
  have hA : DataW.TrodAll enc Tryd.prog W 0 (fun _ => true) true Tryd.f13.params.toList args.toList ds p := hA0
  rw [Tryd.params13] at hA hval
  have hA2 := hA
  have hlt := trodAll_lt _ _ _ _ hA2
  obtain ⟨v0, vs0, d0, ds0, p0, q0, hargs, rfl, rfl, h0, r0⟩ := trodAll_cons hA
  obtain ⟨rfl, rfl, rfl⟩ := trodAll_nil r0
  obtain rfl : args = #[v0] := by cases args; simp_all
  obtain ⟨rfl, rfl⟩ := trodVars_none hV
  obtain ⟨n0, a0, wf0, mx0, l0, z0⟩ := open_flts Tryd.underlying22 Tryd.underlying25 (by kernel_rfl) (hval 0 22 v0 rfl rfl) h0
  have hsz := hsz0
  rw [Tryd.params13] at hsz
  have hr : reachBytes = 140737488351232 := rfl
  have s0 : n0 * 8 ≤ 140737488351232 := by
    rcases z0 with rfl | ⟨m, hm1, hm2⟩
    · omega
    · have := List.all_eq_true.1 hsz _ (DataW.weights_mem_each (j := 0) (t := 22) (d := d0) rfl rfl m hm2)
      rw [bytes25] at hm1
      simp only [decide_eq_true_eq] at this
      omega
  refine (walk n0 a0 v0 W (laidW hL) wf0 mx0 l0 s0).mono fun e W' ⟨he, bel⟩ => ?_
  subst he
  exact ⟨_, rfl, _, _, _, [], _, [], hW', trodAll_mk1 (shut_bool Tryd.underlying4 _), trodAll_below laidOut bel _ _ _ _ (by kernel_rfl) hA2 hlt, rfl, bel.frame _, fun h => by cases h⟩
theorem said : Rows.WavePowerSaid :=
  OpenClaim.holds_of_cond 13 Tryd.f13 rfl rfl rfl rfl rfl rfl rfl ⟨rfl, rfl, rfl, rfl, rfl⟩ rfl rfl rfl rfl rfl (by kernel_rfl) Tryd.func13 (by kernel_rfl)
    (of_decide_eq_true (by kernel_rfl)) (by unfold Func.isWrapper; first | (rw [if_pos (by decide +kernel)]; kernel_rfl) | (rw [if_neg (by decide +kernel)]; exact ⟨rfl, rfl⟩))
    (fun os started H enc _ F => by rw [OpenClaim.pre_eq_preRow]; exact lifted os started H enc F)
theorem plain (f : FuncId) (fn : Func) (hf : Tryd.pinned.checked.prog.funcNamed "mosaic/mosaiclaw10.WavePower" = some f) (hfn : Tryd.pinned.checked.prog.funcs[f]? = some fn) :
    false = Tryd.pinned.checked.prog.looks [] ∧ ∀ (j : Nat) t, fn.params[j]? = some t → Tryd.pinned.checked.prog.wantsStandIn t = false := by
  obtain rfl : f = 13 := Option.some.inj ((show Tryd.prog.funcNamed "mosaic/mosaiclaw10.WavePower" = some 13 by kernel_rfl).symm.trans hf) |>.symm
  obtain rfl : fn = Tryd.f13 := (Option.some.inj (Tryd.func13.symm.trans hfn)).symm
  refine ⟨by kernel_rfl, fun j t ht => ?_⟩
  rw [Tryd.params13] at ht
  have hm : t = 22 := by simpa using Array.mem_of_getElem? ht
  rcases hm with rfl
  · exact (show Tryd.prog.wantsStandIn 22 = false by kernel_rfl)
end Go.Proofs.YthddkcoflnbjbaaDoor.WavePower
namespace Go.Proofs.YthddkcoflnbjbaaDoor
theorem wavePowerCard_holds : Rows.WavePowerCardSaid :=
  Claim7.holds_tied_plain_at .later [] _ _ _ _ WavePower.said (fun _ h => by cases h) (by kernel_rfl) (fun _ h => by cases h) wavePower_row_tie rfl ⟨rfl, rfl⟩ (by kernel_rfl) rfl WavePower.plain (by kernel_rfl)
#print axioms wavePowerCard_holds
end Go.Proofs.YthddkcoflnbjbaaDoor
