/-
  What is proved here: for all samples the law DctBack returns true and its argument reads as before. No condition.
-/
import Derived.Test.YtcfbhlpmhlmekaaCon7
import Derived.Test.YtcfbhlpmhlmekaaLaw2
namespace Go.Proofs.Ytcfbhlpmhlmekaa.DctBack
open Sm Go Go.RowKit Go.ChangeShapes Go.WideShapes Go.ChangeAt
set_option maxRecDepth 1000000
theorem own : ownKnob Try.prog.godebug = none := by kernel_rfl
theorem laidOut : laidOutB Try.prog = true := by kernel_rfl
def sR (c : Nat → Int) (i : Nat) : Int := (c i).tmod 128
def bD (c : Nat → Int) (i : Nat) : Int := W (W (W (resP_13 (lst (resP_11 (lst (sR c)))) i) - 128) - W (sR c i))
def bakB (c : Nat → Int) (i : Nat) : Bool := bif decide (bD c i > 4) then true else decide (bD c i < -4)
theorem canon (s : Nat → Int) : Sm.canon false [.val (.agg (valsK .i16 64 s).toArray)] 0 = some ([.agg (cellsK .i16 false 64 s)], []) := by kernel_rfl
theorem walked (c : Nat → Int) : runK Try.prog T FG 6000 Try.f6 [.agg (cellsK .i16 false 64 c)] [] (List.replicate 64 (.b false)) (fun r _ => isTrue r) = obsP ((List.range 64).map fun i => bakB c i = false) (true = true) := by kernel_rfl
theorem sR_b (c : Nat → Int) (i : Nat) : -127 ≤ sR c i ∧ sR c i ≤ 127 := by
  unfold sR
  have h1 := Int.tmod_lt_of_pos (c i) (show (0 : Int) < 128 by omega)
  have h2 := Int.lt_tmod_of_pos (c i) (show (0 : Int) < 128 by omega)
  omega
theorem bak_ok (c : Nat → Int) (i : Nat) (hi : i < 64) : bakB c i = false := by
  have h := back_near (s := lst (sR c)) (f := lst (resP_11 (lst (sR c)))) (fun j hj => by rw [lst_eq _ _ hj]; exact sR_b c j) (fun j hj => by rw [lst_eq _ _ hj, prog_fwd]) i hi
  have hb := sR_b c i
  rw [lst_eq _ _ hi, ← prog_inv] at h
  have e : bD c i = resP_13 (lst (resP_11 (lst (sR c)))) i - 128 - sR c i := by
    unfold bD
    rw [show W (resP_13 (lst (resP_11 (lst (sR c)))) i) = resP_13 (lst (resP_11 (lst (sR c)))) i from w64 (by omega) (by omega), show W (sR c i) = sR c i from w64 (by omega) (by omega),
      show W (resP_13 (lst (resP_11 (lst (sR c)))) i - 128) = resP_13 (lst (resP_11 (lst (sR c)))) i - 128 from w64 (by omega) (by omega)]
    exact w64 (by omega) (by omega)
  unfold bakB
  rw [e, decide_eq_false (by omega), decide_eq_false (by omega)]
  rfl
theorem key (w : World) (s : Nat → Int) (_hs : ∀ i, i < 64 → -32768 ≤ s i ∧ s i ≤ 32767) :
    Calls Try.prog 6 #[.agg (valsK .i16 64 s).toArray] w fun e w' => e = .returned (.bool true) ∧ Below w.heap.size w w' := by
  refine law_of_run (st := false) (avs := [.val (.agg (valsK .i16 64 s).toArray)]) hm hT FGok Try.func6 (canon s) (of_run (walked s) (obsP_of _ _ (fun p hp => ?_) rfl)) (ARs_vals w [.agg (valsK .i16 64 s).toArray])
  simp only [List.mem_map, List.mem_range] at hp
  obtain ⟨i, hi, rfl⟩ := hp
  exact bak_ok s i hi

theorem walk (a0 : List Int) (l0 : a0.length = 64) (w0 : ∀ x ∈ a0, (Lit.int .i16 x).wf = true) (w : World) :
    Calls Try.prog 6 #[.agg (a0.map (Value.int .i16)).toArray] w fun e w' => e = .returned (.bool true) ∧ Below w.heap.size w w' := by
  have hs : ∀ i, i < 64 → -32768 ≤ a0.getD i 0 ∧ a0.getD i 0 ≤ 32767 := fun i hi => wf_i16 (wf_at l0 w0 hi)
  rw [valsK_of a0 l0]
  exact key w _ hs

theorem lifted (os : Os) (started : os.Started) (H : Type) (enc : TypeId × Value → H) :
    ReturnsInHanded {} Try.checked os 6 .any (Rows.dctBackSpec.pre6 enc Try.prog Try.f6 Rows.dctBackRow.domain false) (Rows.dctBackSpec.post enc Try.prog Try.f6 false true false false) := by
  refine returnsInHanded_of_change (C := Try.checked) own started (by kernel_rfl) Try.func6
    (ChangeSpec.witness6 (enc := enc) (C := Try.checked) false ⟨#[], #[.agg (Array.replicate 64 (.int .i16 0))], []⟩ 8 (by kernel_rfl) (by kernel_rfl) (by kernel_rfl) (by kernel_rfl)) ?_
  intro W base args ds gs before hval0 hW hcnd _
  have hval : ∀ (j : Nat) t v, Try.f6.params[j]? = some t → args[j]? = some v → Value.okWide Try.prog W .any base t v := hval0
  have hW' := hW
  obtain ⟨p, q, hA0, hV, rfl, hfz, hnd⟩ := hW
  have hA : DataW.TrodAll enc Try.prog W 0 (fun _ => true) true Try.f6.params.toList args.toList ds p := hA0
  rw [Try.params6] at hA hval
  have hA2 := hA
  have hlt := trodAll_lt _ _ _ _ hA2
  obtain ⟨v0, vs0, d0, ds0, p0, q0, hargs, rfl, rfl, h0, r0⟩ := trodAll_cons hA
  obtain ⟨rfl, rfl, rfl⟩ := trodAll_nil r0
  obtain rfl : args = #[v0] := by cases args; simp_all
  obtain ⟨rfl, rfl⟩ := trodVars_none hV
  obtain ⟨a0, l0, rfl, w0⟩ := open_arr Try.underlying25 Try.underlying24 (by kernel_rfl) (by kernel_rfl) (hval 0 25 v0 rfl rfl) h0
  refine (walk a0 l0 w0 W).mono fun e W' ⟨he, bel⟩ => ?_
  subst he
  exact ⟨_, rfl, _, _, _, [], _, [], hW', trodAll_mk1 (shut_bool Try.underlying4 _), trodAll_below laidOut bel _ _ _ _ (by kernel_rfl) hA2 hlt, rfl, bel.frame _, fun h => by cases h⟩
theorem over : Rows.dctBackRow.holds Try.pinned (OpenSpec.ofChange Rows.dctBackSpec) :=
  OpenClaim.holds_of_wide 6 Try.f6 rfl rfl rfl rfl rfl rfl rfl ⟨rfl, rfl, rfl, rfl, rfl⟩ rfl rfl rfl rfl rfl (by kernel_rfl) Try.func6 (by kernel_rfl)
    (of_decide_eq_true (by kernel_rfl)) (by unfold Func.isWrapper; rw [if_neg (of_decide_eq_false (by kernel_rfl))]; exact ⟨rfl, rfl⟩)
    (fun os started H enc _ => lifted os started H enc)
end Go.Proofs.Ytcfbhlpmhlmekaa.DctBack
namespace Go.Proofs.Ytcfbhlpmhlmekaa
theorem dctBack_holds : Rows.DctBackSaid := DctBack.over
#print axioms dctBack_holds
end Go.Proofs.Ytcfbhlpmhlmekaa
