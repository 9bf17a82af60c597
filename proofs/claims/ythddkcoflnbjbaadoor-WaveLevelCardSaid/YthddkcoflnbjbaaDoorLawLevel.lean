/-
  What is proved here: for every float and every eight floats the law WaveLevel returns true and its arguments read as before; the variables math._sin, math._cos, math.mPi4 hold what is listed (tied to the text by the card). No other condition.
-/
import Derived.Test.YthddkcoflnbjbaaDoorLaw17
import Derived.Test.YthddkcoflnbjbaaDoorCon0
import Derived.Test.YthddkcoflnbjbaaDoorSimN
import Derived.Laws.Cover2
import Derived.Test.YthddkcoflnbjbaaDoorCards
import Derived.Test.YthddkcoflnbjbaaDoorTie
namespace Go.Proofs.YthddkcoflnbjbaaDoor.WaveLevel
open Sm Go Go.RowKit Go.ChangeShapes Go.WideShapes Go.ChangeAt
set_option maxRecDepth 1000000
set_option linter.unusedVariables false
theorem own : ownKnob Tryd.prog.godebug = none := by kernel_rfl
theorem laidOut : laidOutB Tryd.prog = true := by kernel_rfl
theorem walk (a0 : Nat) (a1 : List Nat) (w0 : (Lit.float .f64 a0).wf = true) (l1 : a1.length = 8) (w1 : ∀ x ∈ a1, (Lit.float .f64 x).wf = true) (w : World) (hL : LaidW w.heap.size w) :
    Calls Tryd.prog 8 #[.float .f64 a0, .agg (a1.map (Value.float .f64)).toArray] w fun e w' => e = .returned (.bool true) ∧ Below w.heap.size w w' := by
  have hG : GLevel [.val (.float .f64 a0), .val (.agg (a1.map (Value.float .f64)).toArray)] = some (.bool true) := by
    match a1, l1 with
    | [x0, x1, x2, x3, x4, x5, x6, x7], _ => rfl
  exact con8.2 _ _ hG w [.float .f64 a0, .agg (a1.map (Value.float .f64)).toArray] hL (ARs_vals w [.float .f64 a0, .agg (a1.map (Value.float .f64)).toArray])

theorem laid_met (os : Os) : laidMet Tryd.prog Rows.waveLevelRow.laid ((laidWorld os).forCall (fun _ _ => 0) ⟨#[], #[.float .f64 0, .agg (Array.replicate 8 (.float .f64 0))], []⟩).memory :=
  laidMet_of_run' 8 (by kernel_rfl) (by kernel_rfl)
theorem reads (os : Os) {H : Type} (enc : TypeId × Value → H) : ∃ places, DataW.whole enc Tryd.prog ((laidWorld os).forCall (fun _ _ => 0) ⟨#[], #[.float .f64 0, .agg (Array.replicate 8 (.float .f64 0))], []⟩).memory Tryd.f8.params.toList Rows.waveLevelSpec.vars false (#[.float .f64 0, .agg (Array.replicate 8 (.float .f64 0))] : Array Value).toList 8 = some ([.lit (.float .f64 0), .agg (List.replicate 8 (.lit (.float .f64 0)))], [], places) :=
  ⟨[], by kernel_rfl⟩
theorem lifted (os : Os) (started : os.Started) (H : Type) (enc : TypeId × Value → H) (F : Stop.Interp) :
    ReturnsInHanded {} Tryd.checked os 8 .any ((OpenSpec.ofChange Rows.waveLevelSpec).preRow enc Tryd.prog Tryd.f8 Rows.waveLevelRow.domain false Rows.waveLevelRow.laid) (((OpenSpec.ofChange Rows.waveLevelSpec).at F).post enc Tryd.prog Tryd.f8 false true false false) := by
  obtain ⟨places, hx⟩ := reads os enc
  refine returnsInHanded_of_row (C := Tryd.checked) (s := OpenSpec.ofChange Rows.waveLevelSpec) own started (by kernel_rfl) Tryd.func8
    (witness_row_at (enc := enc) (C := Tryd.checked) false (laidWorld os) #[.float .f64 0, .agg (Array.replicate 8 (.float .f64 0))] rfl (by kernel_rfl) (by kernel_rfl) (by kernel_rfl)
      (OpenSpec.preRow_of_cond 8 hx (by kernel_rfl) (fun k hk => by cases hk) (by kernel_rfl) (laid_met os))) ?_
  intro W base args ds gs before hval0 hW _ _ _ hL _ _
  have hval : ∀ (j : Nat) t v, Tryd.f8.params[j]? = some t → args[j]? = some v → Value.okWide Tryd.prog W .any base t v := hval0
  have hW' := hW
  obtain ⟨p, q, hA0, hV, rfl, hfz, hnd⟩ := hW
  have hA : DataW.TrodAll enc Tryd.prog W 0 (fun _ => true) true Tryd.f8.params.toList args.toList ds p := hA0
  rw [Tryd.params8] at hA hval
  have hA2 := hA
  have hlt := trodAll_lt _ _ _ _ hA2
  obtain ⟨v0, vs0, d0, ds0, p0, q0, hargs, rfl, rfl, h0, r0⟩ := trodAll_cons hA
  obtain ⟨v1, vs1, d1, ds1, p1, q1, rfl, rfl, rfl, h1, r1⟩ := trodAll_cons r0
  obtain ⟨rfl, rfl, rfl⟩ := trodAll_nil r1
  obtain rfl : args = #[v0, v1] := by cases args; simp_all
  obtain ⟨rfl, rfl⟩ := trodVars_none hV
  obtain ⟨a0, rfl, _, _, w0⟩ := open_float Tryd.underlying25 (hval 0 25 v0 rfl rfl) h0
  obtain ⟨a1, l1, rfl, w1⟩ := open_farr Tryd.underlying41 Tryd.underlying25 (by kernel_rfl) (by kernel_rfl) (hval 1 41 v1 rfl rfl) h1
  refine (walk a0 a1 w0 l1 w1 W (laidW hL)).mono fun e W' ⟨he, bel⟩ => ?_
  subst he
  exact ⟨_, rfl, _, _, _, [], _, [], hW', trodAll_mk1 (shut_bool Tryd.underlying4 _), trodAll_below laidOut bel _ _ _ _ (by kernel_rfl) hA2 hlt, rfl, bel.frame _, fun h => by cases h⟩
theorem said : Rows.WaveLevelSaid :=
  OpenClaim.holds_of_cond 8 Tryd.f8 rfl rfl rfl rfl rfl rfl rfl ⟨rfl, rfl, rfl, rfl, rfl⟩ rfl rfl rfl rfl rfl (by kernel_rfl) Tryd.func8 (by kernel_rfl)
    (of_decide_eq_true (by kernel_rfl)) (by unfold Func.isWrapper; first | (rw [if_pos (by decide +kernel)]; kernel_rfl) | (rw [if_neg (by decide +kernel)]; exact ⟨rfl, rfl⟩))
    (fun os started H enc _ F => by rw [OpenClaim.pre_eq_preRow]; exact lifted os started H enc F)
theorem plain (f : FuncId) (fn : Func) (hf : Tryd.pinned.checked.prog.funcNamed "mosaic/mosaiclaw10.WaveLevel" = some f) (hfn : Tryd.pinned.checked.prog.funcs[f]? = some fn) :
    false = Tryd.pinned.checked.prog.looks [] ∧ ∀ (j : Nat) t, fn.params[j]? = some t → Tryd.pinned.checked.prog.wantsStandIn t = false := by
  obtain rfl : f = 8 := Option.some.inj ((show Tryd.prog.funcNamed "mosaic/mosaiclaw10.WaveLevel" = some 8 by kernel_rfl).symm.trans hf) |>.symm
  obtain rfl : fn = Tryd.f8 := (Option.some.inj (Tryd.func8.symm.trans hfn)).symm
  refine ⟨by kernel_rfl, fun j t ht => ?_⟩
  rw [Tryd.params8] at ht
  have hm : t = 25 ∨ t = 41 := by simpa using Array.mem_of_getElem? ht
  rcases hm with rfl | rfl
  · exact (show Tryd.prog.wantsStandIn 25 = false by kernel_rfl)
  · exact (show Tryd.prog.wantsStandIn 41 = false by kernel_rfl)
end Go.Proofs.YthddkcoflnbjbaaDoor.WaveLevel
namespace Go.Proofs.YthddkcoflnbjbaaDoor
theorem waveLevelCard_holds : Rows.WaveLevelCardSaid :=
  Claim7.holds_tied_plain_at .later [] _ _ _ _ WaveLevel.said (fun _ h => by cases h) (by kernel_rfl) (fun _ h => by cases h) waveLevel_row_tie rfl ⟨rfl, rfl⟩ (by kernel_rfl) rfl WaveLevel.plain (by kernel_rfl)
#print axioms waveLevelCard_holds
end Go.Proofs.YthddkcoflnbjbaaDoor
