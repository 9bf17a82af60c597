/-
  What is proved here: for every block and every table the law QuantBack returns true and its arguments read as before. No condition.
-/
import Derived.Test.YteikdpagoojdlaaLaw0
namespace Go.Proofs.Yteikdpagoojdlaa.QuantBack
open Sm Go Go.RowKit Go.ChangeShapes Go.WideShapes Go.ChangeAt
set_option maxRecDepth 1000000
theorem own : ownKnob Try.prog.godebug = none := by kernel_rfl
theorem laidOut : laidOutB Try.prog = true := by kernel_rfl
def condB (b t : Nat → Int) (k : Nat) : Bool :=
  bif bif endsB k (W (b k)) then decide (sizeI (W (W (b k) * stepM (t k))) ≤ 32767) else false then coarseV (fineV b fun i => stepV (t i)) (fun i => stepV (t i)) k != b k else false
def backL (b t : Nat → Int) : List Prop := fitsN (fineV b fun i => stepV (t i)) (fun i => stepV (t i)) 64 0 :: (List.range 64).map fun k => condB b t k = false
theorem walked (b t : Nat → Int) : runK Try.prog T FJ 6000 Try.f7 [.agg (cellsK .i16 false 64 b), .agg (cellsK .u16 false 64 t)] [] (List.replicate 64 (.b false)) (fun r _ => isTrue r) = obsP (backL b t) (true = true) := by kernel_rfl
theorem cond_ok {b t : Nat → Int} (hb : ∀ i, i < 64 → -32768 ≤ b i ∧ b i ≤ 32767) (ht : ∀ i, i < 64 → 0 ≤ t i ∧ t i ≤ 65535) (k : Nat) (hk : k < 64) : condB b t k = false := by
  obtain ⟨b1, b2⟩ := hb k hk
  obtain ⟨t1, t2⟩ := ht k hk
  have hs := stepV_ok t1 t2
  have hp := fine_prod ⟨b1, b2⟩ hs
  unfold condB
  rw [show W (b k) = b k from w64 (by omega) (by omega), stepM_eq t1 t2, show W (b k * stepV (t k)) = b k * stepV (t k) from w64 (by omega) (by omega), sizeI_eq (by omega) (by omega)]
  cases he : endsB k (b k) with
  | false => rfl
  | true =>
    rw [cond_true]
    by_cases hd : (if b k * stepV (t k) < 0 then -(b k * stepV (t k)) else b k * stepV (t k)) ≤ 32767
    · rw [decide_eq_true hd, cond_true]
      have hpo := pos_ord k hk
      have hf : fineV b (fun i => stepV (t i)) (ord k) = b k * stepV (t k) := by
        rw [fineV_eq (by rw [hpo]; exact ⟨b1, b2⟩) (by rw [hpo]; exact hs), hpo]
        split at hd <;> (rw [if_neg (by omega), if_neg (by omega)])
      have hc : coarseV (fineV b fun i => stepV (t i)) (fun i => stepV (t i)) k = b k := by
        rw [coarseV_eq (by rw [hf]; omega), hf, nearU_mul hs.1, leastV_eq]
        unfold endsB at he
        have hk0 : ((k : Int) == 0) = decide (k = 0) := by
          by_cases h : k = 0 <;> simp [h]
        rw [hk0] at he
        by_cases h : k = 0
        · rw [if_pos h]
          simp only [h, decide_true, cond_true] at he
          have : b k ≤ 1023 ∧ -1024 ≤ b k := by
            by_cases h1 : b k ≤ 1023
            · by_cases h2 : b k ≥ -1023
              · omega
              · simp only [h1, h2, decide_true, decide_false, cond_true, cond_false, ← h] at he
                simp at he
                omega
            · simp [h1, ← h] at he
          rw [if_neg (by omega), if_neg (by omega)]
        · rw [if_neg h]
          simp only [h, decide_false, cond_false] at he
          have : b k ≤ 1023 ∧ -1023 ≤ b k := by
            by_cases h1 : b k ≤ 1023
            · by_cases h2 : b k ≥ -1023
              · omega
              · simp [h1, h2] at he
            · simp [h1] at he
          rw [if_neg (by omega), if_neg (by omega)]
      rw [hc]
      simp
    · rw [decide_eq_false hd, cond_false]
theorem canonBT' (b t : Nat → Int) : canon false [.val (.agg (valsK .i16 64 b).toArray), .val (.agg (valsK .u16 64 t).toArray)] 0 = some ([.agg (cellsK .i16 false 64 b), .agg (cellsK .u16 false 64 t)], []) := by kernel_rfl
theorem key (w : World) (b t : Nat → Int) (hb : ∀ i, i < 64 → -32768 ≤ b i ∧ b i ≤ 32767) (ht : ∀ i, i < 64 → 0 ≤ t i ∧ t i ≤ 65535) :
    Calls Try.prog 7 #[.agg (valsK .i16 64 b).toArray, .agg (valsK .u16 64 t).toArray] w fun e w' => e = .returned (.bool true) ∧ Below w.heap.size w w' := by
  refine law_of_run (st := false) (avs := [.val (.agg (valsK .i16 64 b).toArray), .val (.agg (valsK .u16 64 t).toArray)]) hm hT FJok Try.func7 (canonBT' b t) (of_run (walked b t) (obsP_of _ _ (fun p hp => ?_) rfl)) (ARs_vals w [.agg (valsK .i16 64 b).toArray, .agg (valsK .u16 64 t).toArray])
  simp only [backL, List.mem_cons, List.mem_map, List.mem_range] at hp
  rcases hp with rfl | ⟨k, hk, rfl⟩
  · refine fitsN_of ⟨fun i hi => ?_, fun i hi => stepV_ok (ht i hi).1 (ht i hi).2⟩
    have := fineV_range (b := b) (s := fun i => stepV (t i)) (i := i) (hb _ (pos_lt i hi)) (stepV_ok (ht _ (pos_lt i hi)).1 (ht _ (pos_lt i hi)).2)
    omega
  · exact cond_ok hb ht k hk

theorem walk (a0 : List Int) (a1 : List Int) (l0 : a0.length = 64) (w0 : ∀ x ∈ a0, (Lit.int .i16 x).wf = true) (l1 : a1.length = 64) (w1 : ∀ x ∈ a1, (Lit.int .u16 x).wf = true) (w : World) :
    Calls Try.prog 7 #[.agg (a0.map (Value.int .i16)).toArray, .agg (a1.map (Value.int .u16)).toArray] w fun e w' => e = .returned (.bool true) ∧ Below w.heap.size w w' := by
  have hb : ∀ i, i < 64 → -32768 ≤ a0.getD i 0 ∧ a0.getD i 0 ≤ 32767 := fun i hi => wf_i16 (wf_at l0 w0 hi)
  have ht : ∀ i, i < 64 → 0 ≤ a1.getD i 0 ∧ a1.getD i 0 ≤ 65535 := fun i hi => wf_u16 (wf_at l1 w1 hi)
  rw [valsK_of a0 l0, valsK_of a1 l1]
  exact key w _ _ hb ht

theorem lifted (os : Os) (started : os.Started) (H : Type) (enc : TypeId × Value → H) :
    ReturnsInHanded {} Try.checked os 7 .any (Rows.quantBackSpec.pre6 enc Try.prog Try.f7 Rows.quantBackRow.domain false) (Rows.quantBackSpec.post enc Try.prog Try.f7 false true false false) := by
  refine returnsInHanded_of_change (C := Try.checked) own started (by kernel_rfl) Try.func7
    (ChangeSpec.witness6 (enc := enc) (C := Try.checked) false ⟨#[], #[.agg (Array.replicate 64 (.int .i16 0)), .agg (Array.replicate 64 (.int .u16 0))], []⟩ 8 (by kernel_rfl) (by kernel_rfl) (by kernel_rfl) (by kernel_rfl)) ?_
  intro W base args ds gs before hval0 hW hcnd _
  have hval : ∀ (j : Nat) t v, Try.f7.params[j]? = some t → args[j]? = some v → Value.okWide Try.prog W .any base t v := hval0
  have hW' := hW
  obtain ⟨p, q, hA0, hV, rfl, hfz, hnd⟩ := hW
  have hA : DataW.TrodAll enc Try.prog W 0 (fun _ => true) true Try.f7.params.toList args.toList ds p := hA0
  rw [Try.params7] at hA hval
  have hA2 := hA
  have hlt := trodAll_lt _ _ _ _ hA2
  obtain ⟨v0, vs0, d0, ds0, p0, q0, hargs, rfl, rfl, h0, r0⟩ := trodAll_cons hA
  obtain ⟨v1, vs1, d1, ds1, p1, q1, rfl, rfl, rfl, h1, r1⟩ := trodAll_cons r0
  obtain ⟨rfl, rfl, rfl⟩ := trodAll_nil r1
  obtain rfl : args = #[v0, v1] := by cases args; simp_all
  obtain ⟨rfl, rfl⟩ := trodVars_none hV
  obtain ⟨a0, l0, rfl, w0⟩ := open_arr Try.underlying32 Try.underlying30 (by kernel_rfl) (by kernel_rfl) (hval 0 32 v0 rfl rfl) h0
  obtain ⟨a1, l1, rfl, w1⟩ := open_arr Try.underlying23 Try.underlying22 (by kernel_rfl) (by kernel_rfl) (hval 1 23 v1 rfl rfl) h1
  refine (walk a0 a1 l0 w0 l1 w1 W).mono fun e W' ⟨he, bel⟩ => ?_
  subst he
  exact ⟨_, rfl, _, _, _, [], _, [], hW', trodAll_mk1 (shut_bool Try.underlying4 _), trodAll_below laidOut bel _ _ _ _ (by kernel_rfl) hA2 hlt, rfl, bel.frame _, fun h => by cases h⟩
theorem over : Rows.quantBackRow.holds Try.pinned (OpenSpec.ofChange Rows.quantBackSpec) :=
  OpenClaim.holds_of_wide 7 Try.f7 rfl rfl rfl rfl rfl rfl rfl ⟨rfl, rfl, rfl, rfl, rfl⟩ rfl rfl rfl rfl rfl (by kernel_rfl) Try.func7 (by kernel_rfl)
    (of_decide_eq_true (by kernel_rfl)) (by unfold Func.isWrapper; rw [if_neg (of_decide_eq_false (by kernel_rfl))]; exact ⟨rfl, rfl⟩)
    (fun os started H enc _ => lifted os started H enc)
end Go.Proofs.Yteikdpagoojdlaa.QuantBack
namespace Go.Proofs.Yteikdpagoojdlaa
theorem quantBack_holds : Rows.QuantBackSaid := QuantBack.over
#print axioms quantBack_holds
end Go.Proofs.Yteikdpagoojdlaa
