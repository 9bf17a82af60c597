/-
  What is proved here: for all numbers the law WaveTurn returns true and its arguments read as before; the variables math._sin, math._cos, math.mPi4 hold what is listed (tied to the text by the card). No other condition.
-/
import Derived.Test.YthddkcoflnbjbaaDoorLaw3
import Derived.Test.YthddkcoflnbjbaaDoorCon0
import Derived.Test.YthddkcoflnbjbaaDoorSimN
import Derived.Test.YthddkcoflnbjbaaDoorCards
import Derived.Test.YthddkcoflnbjbaaDoorTie
namespace Go.Proofs.YthddkcoflnbjbaaDoor.WaveTurn
open Sm Go Go.RowKit Go.ChangeShapes Go.WideShapes Go.ChangeAt
set_option maxRecDepth 1000000
set_option linter.unusedVariables false
theorem own : ownKnob Tryd.prog.godebug = none := by kernel_rfl
theorem laidOut : laidOutB Tryd.prog = true := by kernel_rfl
def cB : Nat := 4427981770250682745
def eqB (a b : Nat) : Bool := Op.floatEq .f64 a b
def zEq (k n : Int) (a b : Nat) : Bool := (eqB (turnP k n).1 a) && (eqB (turnP k n).2 b)
theorem runA (k n : Int) (u : Value) : runK Tryd.prog T FT 300 Tryd.f9 [AI k, AI n] [] [.b true] (fun r _ => resW r = some u) = (outB n = true ∧ some (Value.bool (zEq k n 0 0)) = some u) := by kernel_rfl
theorem runB (k n : Int) (u : Value) : runK Tryd.prog T FT 300 Tryd.f9 [AI k, AI n] [] [.b false, .b true] (fun r _ => resW r = some u) = obsP [outB n = false, (n == 0) = false, (n == 0) = false, ((W (4 * k.tmod n)).tmod n == 0) = true] (some (Value.bool (zEq k n (turnP k n).1 (turnP k n).2)) = some u) := by kernel_rfl
def wi (a : Nat) : Bool := fle (absW (fbin .sub .f64 a a)) cB
theorem runC (k n : Int) (u : Value) : runK Tryd.prog T FT 300 Tryd.f9 [AI k, AI n] [] [.b false, .b false] (fun r _ => resW r = some u) = obsP [outB n = false, (n == 0) = false, (n == 0) = false, ((W (4 * k.tmod n)).tmod n == 0) = false, fok .sub .f64 (turnP k n).1 (turnP k n).1 = true, fok .sub .f64 (turnP k n).2 (turnP k n).2 = true] (some (Value.bool (bif wi (turnP k n).1 then wi (turnP k n).2 else false)) = some u) := by kernel_rfl

theorem tn {n : Int} (u : Value) (h : some (Value.bool true) = some u) (b : Bool) (hb : b = true) : some (Value.bool b) = some u := by rw [hb]; exact h
theorem mod0 {k n : Int} (ho : ¬(n < 1 ∨ 4096 < n)) : W (4 * k.tmod n) = 4 * k.tmod n := by
  have h1 := Int.tmod_lt_of_pos k (show 0 < n by omega)
  have h5 : -n < k.tmod n := by
    have := Int.natAbs_tmod k n
    have h6 := Nat.mod_lt k.natAbs (show n.natAbs > 0 by omega)
    omega
  exact Wid (by omega) (by omega)
def GLaw : List ArgV → Option Value
  | [.val (.int .i64 _), .val (.int .i64 _)] => some (.bool true)
  | _ => none
theorem key (w : World) (hL : LaidW w.heap.size w) (k n : Int) : Calls Tryd.prog 9 #[.int .i64 k, .int .i64 n] w fun e w' => e = .returned (.bool true) ∧ Below w.heap.size w w' := by
  have hc : Con Tryd.prog 9 GLaw := by
    refine con_of_runW hm hT FTok Tryd.func9 Tryd.call9 fun avs u h => ?_
    unfold GLaw at h
    split at h
    · rename_i k n
      have hu : some (Value.bool true) = some u := h
      obtain ⟨n1, n2⟩ := turn_num k n
      by_cases ho : n < 1 ∨ 4096 < n
      · have e : turnP k n = (0, 0) := by unfold turnP; rw [if_pos ho]
        refine ⟨[], 300, _, _, _, rfl, of_run (runA k n u) ⟨outB_t ho, ?_⟩⟩
        refine tn (n := n) u hu _ ?_
        unfold zEq
        rw [e]
        kernel_rfl
      · have hn0 : (n == 0) = false := beqf (by omega)
        by_cases hz : (W (4 * k.tmod n)).tmod n = 0
        · refine ⟨[], 300, _, _, _, rfl, of_run (runB k n u) (obsP_of _ _ (all_cons (outB_f ho) (all_cons hn0 (all_cons hn0 (all_one (beqt hz))))) (tn (n := n) u hu _ ?_))⟩
          unfold zEq eqB
          rw [feq_self n1, feq_self n2]
          rfl
        · have hB : fnum .f64 cB ∧ 0 ≤ fv .f64 cB := by
            have hr : FloatKind.f64.format.read cB = .number false (4503599627370496 + 4427981770250682745 % 4503599627370496) (-92) := by kernel_rfl
            refine ⟨⟨_, _, _, hr⟩, ?_⟩
            show 0 ≤ Fl.dv (FloatKind.f64.format.read cB)
            rw [hr]
            exact Rat.mul_nonneg (Rat.mul_nonneg (by simp only [Fl.sg, Bool.false_eq_true, if_false]; decide) Rat.natCast_nonneg) (Rat.le_of_lt (Fl.pw_pos _))
          obtain ⟨a1, a2⟩ := within_self n1 hB.1 hB.2
          obtain ⟨b1, b2⟩ := within_self n2 hB.1 hB.2
          refine ⟨[], 300, _, _, _, rfl, of_run (runC k n u) (obsP_of _ _ (all_cons (outB_f ho) (all_cons hn0 (all_cons hn0 (all_cons (beqf hz) (all_cons a1 (all_one b1)))))) (tn (n := n) u hu _ ?_))⟩
          unfold wi
          rw [a2, b2]
          rfl
    · cases h
  exact hc.2 _ _ (show GLaw [.val (.int .i64 k), .val (.int .i64 n)] = _ from rfl) w [.int .i64 k, .int .i64 n] hL (ARs_vals w [.int .i64 k, .int .i64 n])

theorem walk (a0 : Int) (a1 : Int) (w0 : (Lit.int .i64 a0).wf = true) (w1 : (Lit.int .i64 a1).wf = true) (w : World) (hL : LaidW w.heap.size w) :
    Calls Tryd.prog 9 #[.int .i64 a0, .int .i64 a1] w fun e w' => e = .returned (.bool true) ∧ Below w.heap.size w w' := by
  exact key w hL a0 a1

theorem laid_met (os : Os) : laidMet Tryd.prog Rows.waveTurnRow.laid ((laidWorld os).forCall (fun _ _ => 0) ⟨#[], #[.int .i64 0, .int .i64 0], []⟩).memory :=
  laidMet_of_run' 8 (by kernel_rfl) (by kernel_rfl)
theorem reads (os : Os) {H : Type} (enc : TypeId × Value → H) : ∃ places, DataW.whole enc Tryd.prog ((laidWorld os).forCall (fun _ _ => 0) ⟨#[], #[.int .i64 0, .int .i64 0], []⟩).memory Tryd.f9.params.toList Rows.waveTurnSpec.vars false (#[.int .i64 0, .int .i64 0] : Array Value).toList 8 = some ([.lit (.int .i64 0), .lit (.int .i64 0)], [], places) :=
  ⟨[], by kernel_rfl⟩
theorem lifted (os : Os) (started : os.Started) (H : Type) (enc : TypeId × Value → H) (F : Stop.Interp) :
    ReturnsInHanded {} Tryd.checked os 9 .any ((OpenSpec.ofChange Rows.waveTurnSpec).preRow enc Tryd.prog Tryd.f9 Rows.waveTurnRow.domain false Rows.waveTurnRow.laid) (((OpenSpec.ofChange Rows.waveTurnSpec).at F).post enc Tryd.prog Tryd.f9 false true false false) := by
  obtain ⟨places, hx⟩ := reads os enc
  refine returnsInHanded_of_row (C := Tryd.checked) (s := OpenSpec.ofChange Rows.waveTurnSpec) own started (by kernel_rfl) Tryd.func9
    (witness_row_at (enc := enc) (C := Tryd.checked) false (laidWorld os) #[.int .i64 0, .int .i64 0] rfl (by kernel_rfl) (by kernel_rfl) (by kernel_rfl)
      (OpenSpec.preRow_of_cond 8 hx (by kernel_rfl) (fun k hk => by cases hk) (by kernel_rfl) (laid_met os))) ?_
  intro W base args ds gs before hval0 hW _ _ _ hL _ _
  have hval : ∀ (j : Nat) t v, Tryd.f9.params[j]? = some t → args[j]? = some v → Value.okWide Tryd.prog W .any base t v := hval0
  have hW' := hW
  obtain ⟨p, q, hA0, hV, rfl, hfz, hnd⟩ := hW
  have hA : DataW.TrodAll enc Tryd.prog W 0 (fun _ => true) true Tryd.f9.params.toList args.toList ds p := hA0
  rw [Tryd.params9] at hA hval
  have hA2 := hA
  have hlt := trodAll_lt _ _ _ _ hA2
  obtain ⟨v0, vs0, d0, ds0, p0, q0, hargs, rfl, rfl, h0, r0⟩ := trodAll_cons hA
  obtain ⟨v1, vs1, d1, ds1, p1, q1, rfl, rfl, rfl, h1, r1⟩ := trodAll_cons r0
  obtain ⟨rfl, rfl, rfl⟩ := trodAll_nil r1
  obtain rfl : args = #[v0, v1] := by cases args; simp_all
  obtain ⟨rfl, rfl⟩ := trodVars_none hV
  obtain ⟨a0, rfl, _, _, w0⟩ := open_int Tryd.underlying3 (hval 0 3 v0 rfl rfl) h0
  obtain ⟨a1, rfl, _, _, w1⟩ := open_int Tryd.underlying3 (hval 1 3 v1 rfl rfl) h1
  refine (walk a0 a1 w0 w1 W (laidW hL)).mono fun e W' ⟨he, bel⟩ => ?_
  subst he
  exact ⟨_, rfl, _, _, _, [], _, [], hW', trodAll_mk1 (shut_bool Tryd.underlying4 _), trodAll_below laidOut bel _ _ _ _ (by kernel_rfl) hA2 hlt, rfl, bel.frame _, fun h => by cases h⟩
theorem said : Rows.WaveTurnSaid :=
  OpenClaim.holds_of_cond 9 Tryd.f9 rfl rfl rfl rfl rfl rfl rfl ⟨rfl, rfl, rfl, rfl, rfl⟩ rfl rfl rfl rfl rfl (by kernel_rfl) Tryd.func9 (by kernel_rfl)
    (of_decide_eq_true (by kernel_rfl)) (by unfold Func.isWrapper; first | (rw [if_pos (by decide +kernel)]; kernel_rfl) | (rw [if_neg (by decide +kernel)]; exact ⟨rfl, rfl⟩))
    (fun os started H enc _ F => by rw [OpenClaim.pre_eq_preRow]; exact lifted os started H enc F)
theorem plain (f : FuncId) (fn : Func) (hf : Tryd.pinned.checked.prog.funcNamed "mosaic/mosaiclaw10.WaveTurn" = some f) (hfn : Tryd.pinned.checked.prog.funcs[f]? = some fn) :
    false = Tryd.pinned.checked.prog.looks [] ∧ ∀ (j : Nat) t, fn.params[j]? = some t → Tryd.pinned.checked.prog.wantsStandIn t = false := by
  obtain rfl : f = 9 := Option.some.inj ((show Tryd.prog.funcNamed "mosaic/mosaiclaw10.WaveTurn" = some 9 by kernel_rfl).symm.trans hf) |>.symm
  obtain rfl : fn = Tryd.f9 := (Option.some.inj (Tryd.func9.symm.trans hfn)).symm
  refine ⟨by kernel_rfl, fun j t ht => ?_⟩
  rw [Tryd.params9] at ht
  have hm : t = 3 ∨ t = 3 := by simpa using Array.mem_of_getElem? ht
  rcases hm with rfl | rfl
  · exact (show Tryd.prog.wantsStandIn 3 = false by kernel_rfl)
  · exact (show Tryd.prog.wantsStandIn 3 = false by kernel_rfl)
end Go.Proofs.YthddkcoflnbjbaaDoor.WaveTurn
namespace Go.Proofs.YthddkcoflnbjbaaDoor
theorem waveTurnCard_holds : Rows.WaveTurnCardSaid :=
  Claim7.holds_tied_plain_at .later [] _ _ _ _ WaveTurn.said (fun _ h => by cases h) (by kernel_rfl) (fun _ h => by cases h) waveTurn_row_tie rfl ⟨rfl, rfl⟩ (by kernel_rfl) rfl WaveTurn.plain (by kernel_rfl)
#print axioms waveTurnCard_holds
end Go.Proofs.YthddkcoflnbjbaaDoor
