/-
  What is proved here: for all coefficients the law DctNear returns true and its arguments read as before; the variables math._sin, math._cos, math.mPi4 hold what is listed (tied to the text by the card). No other condition.
-/
import Derived.Test.YtcfbhlpmhlmekaaDoorLaw4
import Derived.Test.YtcfbhlpmhlmekaaDoorCon0
import Derived.Test.YtcfbhlpmhlmekaaDoorSimN
import Derived.Test.YtcfbhlpmhlmekaaDoorCards
import Derived.Test.YtcfbhlpmhlmekaaDoorTie
namespace Go.Proofs.YtcfbhlpmhlmekaaDoor.DctNear
open Sm Go Go.RowKit Go.ChangeShapes Go.WideShapes Go.ChangeAt
set_option maxRecDepth 1000000
set_option linter.unusedVariables false
theorem own : ownKnob Tryd.prog.godebug = none := by kernel_rfl
theorem laidOut : laidOutB Tryd.prog = true := by kernel_rfl
noncomputable def FL (g : Nat → Int) : Fns := FNear g (FG.add 17 GAway)
theorem FLok (g : Nat → Int) : FnsOk Tryd.prog (FL g) := FNearOk g (FGok.add conAway)
def rem2 (f : Nat → Int) (i : Nat) : Int := (f i).tmod 2049
def sB (g : Nat → Int) : Blk := { body := .li (cellsK .u8 false 64 (resP_13 (lst g))), elem := 31, live := true, ro := false }
def sgN : List Sg := List.replicate 65 .u ++ ((List.range 8).flatMap fun _ => .u :: ((List.range 8).flatMap fun _ => [.u, .l 3, .b false]) ++ [.u]) ++ [.u]
def obN (g : Nat → Int) (y x : Nat) : List Prop :=
  [LN3 = LN3, ((74 : Nat) = 74 ∧ p00 = p00 ∧ okV = okV ∧ lf0 = lf0 ∧ li 0 = li 0 ∧ [iN g, sB g] = [iN g, sB g] ∧ (0 ≤ (y : Int) ∧ (y : Int) < 8) ∧ (0 ≤ (x : Int) ∧ (x : Int) < 8) ∧ ok3N g (y : Nat) (x : Nat)),
   fok .quo .f64 (s3N g (y : Nat) (x : Nat) 8) c4 = true, fok .add .f64 (fbin .quo .f64 (s3N g (y : Nat) (x : Nat) 8) c4) c128 = true, ford .f64 (plusN (s3N g (y : Nat) (x : Nat) 8)) 0 = true, ford .f64 (fmax .f64 (plusN (s3N g (y : Nat) (x : Nat) 8)) 0) c255 = true,
   fok .sub .f64 (i2f (resP_13 (lst g) (8 * y + x))) (clampN (s3N g (y : Nat) (x : Nat) 8)) = true,
   fgt (awayF (fbin .sub .f64 (i2f (resP_13 (lst g) (8 * y + x))) (clampN (s3N g (y : Nat) (x : Nat) 8)))) c1 = false]
def obsN (g : Nat → Int) : List Prop := (List.range 64).flatMap fun i => obN g (i / 8) (i % 8)
theorem walked (f : Nat → Int) : runK Tryd.prog T (FL (rem2 f)) 9000 Tryd.f6 [.agg (cellsK .i32 false 64 f)] [] sgN (fun r _ => isTrue r) = obsP (obsN (rem2 f)) (true = true) := by kernel_rfl
theorem canon (s : Nat → Int) : Sm.canon false [.val (.agg (valsK .i32 64 s).toArray)] 0 = some ([.agg (cellsK .i32 false 64 s)], []) := by kernel_rfl
theorem rem2_b (f : Nat → Int) (i : Nat) : -2048 ≤ rem2 f i ∧ rem2 f i ≤ 2048 := by
  unfold rem2
  by_cases h : 0 ≤ f i
  · rw [Int.tmod_eq_emod_of_nonneg h]
    omega
  · obtain ⟨n, hn, he⟩ : ∃ n : Int, 0 ≤ n ∧ f i = -n := ⟨-f i, by omega, by omega⟩
    rw [he, Int.neg_tmod, Int.tmod_eq_emod_of_nonneg hn]
    omega
theorem pc {a : Prop} {l : List Prop} (h : a) (h2 : ∀ r ∈ l, r) : ∀ r ∈ a :: l, r := fun r hr => by
  rcases List.mem_cons.1 hr with rfl | hr
  · exact h
  · exact h2 r hr
theorem key (w : World) (hL : LaidW w.heap.size w) (s : Nat → Int) (hs : ∀ i, i < 64 → -2147483648 ≤ s i ∧ s i ≤ 2147483647) :
    Calls Tryd.prog 6 #[.agg (valsK .i32 64 s).toArray] w fun e w' => e = .returned (.bool true) ∧ Below w.heap.size w w' := by
  refine law_of_run (st := false) (avs := [.val (.agg (valsK .i32 64 s).toArray)]) hm hT (FLok (rem2 s)) Tryd.func6 (canon s) (of_run (walked s) (obsP_of _ _ (fun p hp => ?_) rfl)) (ARs_vals w [.agg (valsK .i32 64 s).toArray])
  simp only [obsN, List.mem_flatMap, List.mem_range] at hp
  obtain ⟨i, hi, hp⟩ := hp
  have hb : ∀ i, i < 64 → -2048 ≤ rem2 s i ∧ rem2 s i ≤ 2048 := fun i _ => rem2_b s i
  have hinv : resP_13 (lst (rem2 s)) (8 * (i / 8) + i % 8) = sampS (invS (rem2 s) (i / 8) (i % 8)) := by
    rw [prog_inv, show (8 * (i / 8) + i % 8) / 8 = i / 8 from by omega, show (8 * (i / 8) + i % 8) % 8 = i % 8 from by omega]
    have e : invS (lst (rem2 s)) (i / 8) (i % 8) = invS (rem2 s) (i / 8) (i % 8) := by
      unfold invS dbl
      refine S_congr fun v hv => S_congr fun u hu => ?_
      show _ * clipI (lst (rem2 s) (8 * v + u)) (-32767) 32767 = _ * clipI (rem2 s (8 * v + u)) (-32767) 32767
      rw [lst_eq _ _ (by omega)]
    rw [e]
  obtain ⟨k1, k2, k3, k4, k5, k6⟩ := near_ok hb (y := i / 8) (x := i % 8) (by omega) (by omega) hinv
  exact pc rfl (pc ⟨rfl, rfl, rfl, rfl, rfl, rfl, ⟨by omega, by omega⟩, ⟨by omega, by omega⟩, ok3_ok hb (by omega) (by omega)⟩ (pc k1 (pc k2 (pc k3 (pc k4 (pc k5 (pc k6 (fun r hr => by cases hr)))))))) p hp
theorem walk (a0 : List Int) (l0 : a0.length = 64) (w0 : ∀ x ∈ a0, (Lit.int .i32 x).wf = true) (w : World) (hL : LaidW w.heap.size w) :
    Calls Tryd.prog 6 #[.agg (a0.map (Value.int .i32)).toArray] w fun e w' => e = .returned (.bool true) ∧ Below w.heap.size w w' := by
  have hs : ∀ i, i < 64 → -2147483648 ≤ a0.getD i 0 ∧ a0.getD i 0 ≤ 2147483647 := fun i hi => wf_i32 (wf_at l0 w0 hi)
  rw [valsK_of a0 l0]
  exact key w hL _ hs
theorem laid_met (os : Os) : laidMet Tryd.prog Rows.dctNearRow.laid ((laidWorld os).forCall (fun _ _ => 0) ⟨#[], #[.agg (Array.replicate 64 (.int .i32 0))], []⟩).memory :=
  laidMet_of_run' 8 (by kernel_rfl) (by kernel_rfl)
theorem reads (os : Os) {H : Type} (enc : TypeId × Value → H) : ∃ places, DataW.whole enc Tryd.prog ((laidWorld os).forCall (fun _ _ => 0) ⟨#[], #[.agg (Array.replicate 64 (.int .i32 0))], []⟩).memory Tryd.f6.params.toList Rows.dctNearSpec.vars false (#[.agg (Array.replicate 64 (.int .i32 0))] : Array Value).toList 8 = some ([.agg (List.replicate 64 (.lit (.int .i32 0)))], [], places) :=
  ⟨[], by kernel_rfl⟩
theorem lifted (os : Os) (started : os.Started) (H : Type) (enc : TypeId × Value → H) (F : Stop.Interp) :
    ReturnsInHanded {} Tryd.checked os 6 .any ((OpenSpec.ofChange Rows.dctNearSpec).preRow enc Tryd.prog Tryd.f6 Rows.dctNearRow.domain false Rows.dctNearRow.laid) (((OpenSpec.ofChange Rows.dctNearSpec).at F).post enc Tryd.prog Tryd.f6 false true false false) := by
  obtain ⟨places, hx⟩ := reads os enc
  refine returnsInHanded_of_row (C := Tryd.checked) (s := OpenSpec.ofChange Rows.dctNearSpec) own started (by kernel_rfl) Tryd.func6
    (witness_row_at (enc := enc) (C := Tryd.checked) false (laidWorld os) #[.agg (Array.replicate 64 (.int .i32 0))] rfl (by kernel_rfl) (by kernel_rfl) (by kernel_rfl)
      (OpenSpec.preRow_of_cond 8 hx (by kernel_rfl) (fun k hk => by cases hk) (by kernel_rfl) (laid_met os))) ?_
  intro W base args ds gs before hval0 hW _ _ _ hL _ _
  have hval : ∀ (j : Nat) t v, Tryd.f6.params[j]? = some t → args[j]? = some v → Value.okWide Tryd.prog W .any base t v := hval0
  have hW' := hW
  obtain ⟨p, q, hA0, hV, rfl, hfz, hnd⟩ := hW
  have hA : DataW.TrodAll enc Tryd.prog W 0 (fun _ => true) true Tryd.f6.params.toList args.toList ds p := hA0
  rw [Tryd.params6] at hA hval
  have hA2 := hA
  have hlt := trodAll_lt _ _ _ _ hA2
  obtain ⟨v0, vs0, d0, ds0, p0, q0, hargs, rfl, rfl, h0, r0⟩ := trodAll_cons hA
  obtain ⟨rfl, rfl, rfl⟩ := trodAll_nil r0
  obtain rfl : args = #[v0] := by cases args; simp_all
  obtain ⟨rfl, rfl⟩ := trodVars_none hV
  obtain ⟨a0, l0, rfl, w0⟩ := open_arr Tryd.underlying33 Tryd.underlying21 (by kernel_rfl) (by kernel_rfl) (hval 0 33 v0 rfl rfl) h0
  refine (walk a0 l0 w0 W (laidW hL)).mono fun e W' ⟨he, bel⟩ => ?_
  subst he
  exact ⟨_, rfl, _, _, _, [], _, [], hW', trodAll_mk1 (shut_bool Tryd.underlying4 _), trodAll_below laidOut bel _ _ _ _ (by kernel_rfl) hA2 hlt, rfl, bel.frame _, fun h => by cases h⟩
theorem said : Rows.DctNearSaid :=
  OpenClaim.holds_of_cond 6 Tryd.f6 rfl rfl rfl rfl rfl rfl rfl ⟨rfl, rfl, rfl, rfl, rfl⟩ rfl rfl rfl rfl rfl (by kernel_rfl) Tryd.func6 (by kernel_rfl)
    (of_decide_eq_true (by kernel_rfl)) (by unfold Func.isWrapper; first | (rw [if_pos (by decide +kernel)]; kernel_rfl) | (rw [if_neg (by decide +kernel)]; exact ⟨rfl, rfl⟩))
    (fun os started H enc _ F => by rw [OpenClaim.pre_eq_preRow]; exact lifted os started H enc F)
theorem plain (f : FuncId) (fn : Func) (hf : Tryd.pinned.checked.prog.funcNamed "mosaic/mosaiclaw09.DctNear" = some f) (hfn : Tryd.pinned.checked.prog.funcs[f]? = some fn) :
    false = Tryd.pinned.checked.prog.looks [] ∧ ∀ (j : Nat) t, fn.params[j]? = some t → Tryd.pinned.checked.prog.wantsStandIn t = false := by
  obtain rfl : f = 6 := Option.some.inj ((show Tryd.prog.funcNamed "mosaic/mosaiclaw09.DctNear" = some 6 by kernel_rfl).symm.trans hf) |>.symm
  obtain rfl : fn = Tryd.f6 := (Option.some.inj (Tryd.func6.symm.trans hfn)).symm
  refine ⟨by kernel_rfl, fun j t ht => ?_⟩
  rw [Tryd.params6] at ht
  obtain rfl : t = 33 := by simpa using Array.mem_of_getElem? ht
  exact (show Tryd.prog.wantsStandIn 33 = false by kernel_rfl)
end Go.Proofs.YtcfbhlpmhlmekaaDoor.DctNear
namespace Go.Proofs.YtcfbhlpmhlmekaaDoor
theorem dctNearCard_holds : Rows.DctNearCardSaid :=
  Claim7.holds_tied_plain_at .later [] _ _ _ _ DctNear.said (fun _ h => by cases h) (by kernel_rfl) (fun _ h => by cases h) dctNear_row_tie rfl ⟨rfl, rfl⟩ (by kernel_rfl) rfl DctNear.plain (by kernel_rfl)
#print axioms dctNearCard_holds
end Go.Proofs.YtcfbhlpmhlmekaaDoor
