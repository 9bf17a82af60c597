/-
  What is proved here: for all two lists of complex numbers the law WaveForward returns true and its arguments read as before; the variables math._sin, math._cos, math.mPi4 hold what is listed (tied to the text by the card). No other condition.
-/
import Derived.Test.YthddkcoflnbjbaaDoorPLaw50
import Derived.Test.YthddkcoflnbjbaaDoorPSimUc
import Derived.Test.YthddkcoflnbjbaaDoorPCon0
import Derived.Test.YthddkcoflnbjbaaDoorPSimL
import Derived.Test.YthddkcoflnbjbaaDoorCards
import Derived.Test.YthddkcoflnbjbaaDoorTie
namespace Go.Proofs.YthddkcoflnbjbaaDoor.WaveForward
open Sm Go Go.RowKit Go.ChangeShapes Go.WideShapes Go.ChangeAt
set_option maxRecDepth 1000000
set_option linter.unusedVariables false
theorem own : ownKnob Tryd.prog.godebug = none := by kernel_rfl
theorem laidOut : laidOutB Tryd.prog = true := by kernel_rfl
theorem bytes45 : Tryd.prog.bytesOf 45 = 16 := by kernel_rfl
theorem walk (n0 : Nat) (a0 : Nat → Nat × Nat) (u0 : Value) (n1 : Nat) (a1 : Nat → Nat × Nat) (u1 : Value) (w : World) (hL : LaidW w.heap.size w) (mx0 : n0 ≤ maxLen) (l0 : PrsIn w .f64 n0 a0 u0) (s0 : n0 * 16 ≤ 140737488351232) (mx1 : n1 ≤ maxLen) (l1 : PrsIn w .f64 n1 a1 u1) (s1 : n1 * 16 ≤ 140737488351232) :
    Calls Tryd.prog 11 #[u0, u1] w fun e w' => e = .returned (.bool true) ∧ Below w.heap.size w w' := by
  obtain ⟨E, hh, r0, r1⟩ := prs2_env hL l0 l1
  obtain ⟨F, hF, hrun⟩ := fw_all (n := n0) (m := n1) (x := a0) (y := a1) s0 s1
  exact call_of_env hm hT hF Tryd.func11 hh.dead1.dead1 (RA.mk ((r0.mono (List.prefix_append _ _)).mono (List.prefix_append _ _)) (RA.mk ((r1.mono (List.prefix_append _ _)).mono (List.prefix_append _ _)) RA.nil)) hrun
theorem laid_met (os : Os) : laidMet Tryd.prog Rows.waveForwardRow.laid ((laidWorld os).forCall (fun _ _ => 0) ⟨#[], #[.slice none 0 0, .slice none 0 0], []⟩).memory :=
  laidMet_of_run' 8 (by kernel_rfl) (by kernel_rfl)
theorem reads (os : Os) {H : Type} (enc : TypeId × Value → H) : ∃ places, DataW.whole enc Tryd.prog ((laidWorld os).forCall (fun _ _ => 0) ⟨#[], #[.slice none 0 0, .slice none 0 0], []⟩).memory Tryd.f11.params.toList Rows.waveForwardSpec.vars false (#[.slice none 0 0, .slice none 0 0] : Array Value).toList 8 = some ([.nil, .nil], [], places) :=
  ⟨[], by kernel_rfl⟩
theorem lifted (os : Os) (started : os.Started) (H : Type) (enc : TypeId × Value → H) (F : Stop.Interp) :
    ReturnsInHanded {} Tryd.checked os 11 .any ((OpenSpec.ofChange Rows.waveForwardSpec).preRow enc Tryd.prog Tryd.f11 Rows.waveForwardRow.domain false Rows.waveForwardRow.laid) (((OpenSpec.ofChange Rows.waveForwardSpec).at F).post enc Tryd.prog Tryd.f11 false true false false) := by
  obtain ⟨places, hx⟩ := reads os enc
  refine returnsInHanded_of_row (C := Tryd.checked) (s := OpenSpec.ofChange Rows.waveForwardSpec) own started (by kernel_rfl) Tryd.func11
    (witness_row_at (enc := enc) (C := Tryd.checked) false (laidWorld os) #[.slice none 0 0, .slice none 0 0] rfl (by kernel_rfl) (by kernel_rfl) (by kernel_rfl)
      (OpenSpec.preRow_of_cond 8 hx (by kernel_rfl) (fun k hk => by cases hk) (by kernel_rfl) (laid_met os))) ?_
  intro W base args ds gs before hval0 hW _ _ hsz0 hL _ _
  have hval : ∀ (j : Nat) t v, Tryd.f11.params[j]? = some t → args[j]? = some v → Value.okWide Tryd.prog W .any base t v := hval0
  have hW' := hW
  obtain ⟨p, q, hA0, hV, rfl, hfz, hnd⟩ := hW
  have hA : DataW.TrodAll enc Tryd.prog W 0 (fun _ => true) true Tryd.f11.params.toList args.toList ds p := hA0
  rw [Tryd.params11] at hA hval
  have hA2 := hA
  have hlt := trodAll_lt _ _ _ _ hA2
  obtain ⟨v0, vs0, d0, ds0, p0, q0, hargs, rfl, rfl, h0, r0⟩ := trodAll_cons hA
  obtain ⟨v1, vs1, d1, ds1, p1, q1, rfl, rfl, rfl, h1, r1⟩ := trodAll_cons r0
  obtain ⟨rfl, rfl, rfl⟩ := trodAll_nil r1
  obtain rfl : args = #[v0, v1] := by cases args; simp_all
  obtain ⟨rfl, rfl⟩ := trodVars_none hV
  obtain ⟨n0, a0, wf0, mx0, l0, z0⟩ := open_prs (ft := 25) Tryd.underlying49 Tryd.underlying45 (by kernel_rfl) Tryd.underlying25 (by kernel_rfl) rfl rfl (hval 0 49 v0 rfl rfl) h0
  obtain ⟨n1, a1, wf1, mx1, l1, z1⟩ := open_prs (ft := 25) Tryd.underlying49 Tryd.underlying45 (by kernel_rfl) Tryd.underlying25 (by kernel_rfl) rfl rfl (hval 1 49 v1 rfl rfl) h1
  have hsz := hsz0
  rw [Tryd.params11] at hsz
  have hr : reachBytes = 140737488351232 := rfl
  have s0 : n0 * 16 ≤ 140737488351232 := by
    rcases z0 with rfl | ⟨m, hm1, hm2⟩
    · omega
    · have := List.all_eq_true.1 hsz _ (DataW.weights_mem_each (j := 0) (t := 49) (d := d0) rfl rfl m hm2)
      rw [bytes45] at hm1
      simp only [decide_eq_true_eq] at this
      omega
  have s1 : n1 * 16 ≤ 140737488351232 := by
    rcases z1 with rfl | ⟨m, hm1, hm2⟩
    · omega
    · have := List.all_eq_true.1 hsz _ (DataW.weights_mem_each (j := 1) (t := 49) (d := d1) rfl rfl m hm2)
      rw [bytes45] at hm1
      simp only [decide_eq_true_eq] at this
      omega
  refine (walk n0 a0 v0 n1 a1 v1 W (laidW hL) mx0 l0 s0 mx1 l1 s1).mono fun e W' ⟨he, bel⟩ => ?_
  subst he
  exact ⟨_, rfl, _, _, _, [], _, [], hW', trodAll_mk1 (shut_bool Tryd.underlying4 _), trodAll_below laidOut bel _ _ _ _ (by kernel_rfl) hA2 hlt, rfl, bel.frame _, fun h => by cases h⟩
theorem said : Rows.WaveForwardSaid :=
  OpenClaim.holds_of_cond 11 Tryd.f11 rfl rfl rfl rfl rfl rfl rfl ⟨rfl, rfl, rfl, rfl, rfl⟩ rfl rfl rfl rfl rfl (by kernel_rfl) Tryd.func11 (by kernel_rfl)
    (of_decide_eq_true (by kernel_rfl)) (by unfold Func.isWrapper; first | (rw [if_pos (by decide +kernel)]; kernel_rfl) | (rw [if_neg (by decide +kernel)]; exact ⟨rfl, rfl⟩))
    (fun os started H enc _ F => by rw [OpenClaim.pre_eq_preRow]; exact lifted os started H enc F)
theorem plain (f : FuncId) (fn : Func) (hf : Tryd.pinned.checked.prog.funcNamed "mosaic/mosaiclaw10.WaveForward" = some f) (hfn : Tryd.pinned.checked.prog.funcs[f]? = some fn) :
    false = Tryd.pinned.checked.prog.looks [] ∧ ∀ (j : Nat) t, fn.params[j]? = some t → Tryd.pinned.checked.prog.wantsStandIn t = false := by
  obtain rfl : f = 11 := Option.some.inj ((show Tryd.prog.funcNamed "mosaic/mosaiclaw10.WaveForward" = some 11 by kernel_rfl).symm.trans hf) |>.symm
  obtain rfl : fn = Tryd.f11 := (Option.some.inj (Tryd.func11.symm.trans hfn)).symm
  refine ⟨by kernel_rfl, fun j t ht => ?_⟩
  rw [Tryd.params11] at ht
  have hm : t = 49 ∨ t = 49 := by simpa using Array.mem_of_getElem? ht
  rcases hm with rfl | rfl
  · exact (show Tryd.prog.wantsStandIn 49 = false by kernel_rfl)
  · exact (show Tryd.prog.wantsStandIn 49 = false by kernel_rfl)
end Go.Proofs.YthddkcoflnbjbaaDoor.WaveForward
namespace Go.Proofs.YthddkcoflnbjbaaDoor
theorem waveForwardCard_holds : Rows.WaveForwardCardSaid :=
  Claim7.holds_tied_plain_at .later [] _ _ _ _ WaveForward.said (fun _ h => by cases h) (by kernel_rfl) (fun _ h => by cases h) waveForward_row_tie rfl ⟨rfl, rfl⟩ (by kernel_rfl) rfl WaveForward.plain (by kernel_rfl)
#print axioms waveForwardCard_holds
end Go.Proofs.YthddkcoflnbjbaaDoor
