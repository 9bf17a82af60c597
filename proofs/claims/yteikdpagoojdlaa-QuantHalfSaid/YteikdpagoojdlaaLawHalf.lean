/-
  What is proved here: for all fine coefficients and every table the law QuantHalf returns true and its arguments read as before. No condition.
-/
import Derived.Test.YteikdpagoojdlaaLaw0
namespace Go.Proofs.Yteikdpagoojdlaa.QuantHalf
open Sm Go Go.RowKit Go.ChangeShapes Go.WideShapes Go.ChangeAt
set_option maxRecDepth 1000000
theorem own : ownKnob Try.prog.godebug = none := by kernel_rfl
theorem laidOut : laidOutB Try.prog = true := by kernel_rfl
def condA (k c n : Int) : Bool := bif bif !(endsB k c) then true else bif decide (c > 0) then decide (n < 0) else false then true else bif decide (c < 0) then decide (n > 0) else false
def condX (k : Nat) (c : Int) : Bool := bif Nat.beq k 0 then bif c == -1024 then true else false else c == -1023
def condB (k : Nat) (c n s : Int) : Bool :=
  bif decide (W (2 * sizeI (W (n - W (c * s)))) > s) then !(bif bif c == 1023 then decide (n > 0) else false then true else bif decide (n < 0) then condX k c else false) else false
def condC (c s g : Int) : Bool := bif bif decide (sizeI (W (c * s)) ≤ 32767) then g != W (c * s) else false then true else decide (sizeI g > 32767)
def halfAt (f t : Nat → Int) (k : Nat) : List Prop :=
  let s : Nat → Int := fun i => stepV (t i)
  let c := W (coarseV f s k)
  let n := W (f (ord k))
  [condA k c n = false, condB k c n (stepM (t k)) = false, condC c (stepM (t k)) (W (fineV (coarseV f s) s (ord k))) = false]
def halfL (f t : Nat → Int) : List Prop := fitsN f (fun i => stepV (t i)) 64 0 :: (List.range 64).flatMap (halfAt f t)
theorem walked (f t : Nat → Int) : runK Try.prog T FJ 8000 Try.f9 [.agg (cellsK .i32 false 64 f), .agg (cellsK .u16 false 64 t)] [] (List.replicate 192 (.b false)) (fun r _ => isTrue r) = obsP (halfL f t) (true = true) := by kernel_rfl
theorem canonFT' (f t : Nat → Int) : canon false [.val (.agg (valsK .i32 64 f).toArray), .val (.agg (valsK .u16 64 t).toArray)] 0 = some ([.agg (cellsK .i32 false 64 f), .agg (cellsK .u16 false 64 t)], []) := by kernel_rfl
theorem bif_iff {a b c : Bool} : (bif a then b else c) = true ↔ (a = true ∧ b = true) ∨ (a = false ∧ c = true) := by cases a <;> simp
theorem half_ok {f t : Nat → Int} (hf : ∀ i, i < 64 → -2147483648 ≤ f i ∧ f i ≤ 2147483647) (ht : ∀ i, i < 64 → 0 ≤ t i ∧ t i ≤ 65535) (k : Nat) (hk : k < 64) : ∀ p ∈ halfAt f t k, p := by
  have ho := ord_lt k hk
  obtain ⟨f1, f2⟩ := hf _ ho
  obtain ⟨t1, t2⟩ := ht k hk
  have hs := stepV_ok t1 t2
  have hcr := coarseV_range (f := f) (s := fun i => stepV (t i)) (k := k) ⟨f1, f2⟩
  have hce := coarseV_eq (f := f) (s := fun i => stepV (t i)) (k := k) ⟨f1, f2⟩
  have hlv := leastV_eq k
  have hl2 : -1024 ≤ leastV k ∧ leastV k ≤ -1023 := by rw [hlv]; split <;> omega
  have hfe := fineV_eq (b := coarseV f fun i => stepV (t i)) (s := fun i => stepV (t i)) (i := ord k) (by rw [pos_ord k hk]; omega) (by rw [pos_ord k hk]; exact hs)
  rw [pos_ord k hk] at hfe
  obtain ⟨n1, n2, n3, n4⟩ := nearU_spec (n := f (ord k)) hs.1
  have hcs := fine_prod (x := coarseV f (fun i => stepV (t i)) k) ⟨by omega, by omega⟩ hs
  simp only [halfAt, List.mem_cons, List.not_mem_nil, or_false]
  rw [show W (f (ord k)) = f (ord k) from w64 (by omega) (by omega), show W (coarseV f (fun i => stepV (t i)) k) = coarseV f (fun i => stepV (t i)) k from w64 (by omega) (by omega), stepM_eq t1 t2]
  generalize hc0 : coarseV f (fun i => stepV (t i)) k = c at *
  generalize hg0 : fineV (coarseV f fun i => stepV (t i)) (fun i => stepV (t i)) (ord k) = g at *
  generalize hq0 : nearU (f (ord k)) (stepV (t k)) = q at *
  generalize f (ord k) = n at *
  generalize hs0 : stepV (t k) = s at *
  have hq1 : c = q → c * s = q * s := fun e => by rw [e]
  have hgr : -32767 ≤ g ∧ g ≤ 32767 := by rw [hfe]; split <;> (try split) <;> omega
  have e1 : W (c * s) = c * s := w64 (by omega) (by omega)
  have e2 : W (n - c * s) = n - c * s := w64 (by omega) (by omega)
  have e3 : W g = g := w64 (by omega) (by omega)
  have e4 : sizeI (n - c * s) = if n - c * s < 0 then -(n - c * s) else n - c * s := sizeI_eq (by omega) (by omega)
  have e5 : W (2 * sizeI (n - c * s)) = 2 * sizeI (n - c * s) := by rw [e4]; exact w64 (by split <;> omega) (by split <;> omega)
  have e6 : sizeI (c * s) = if c * s < 0 then -(c * s) else c * s := sizeI_eq (by omega) (by omega)
  have e7 : sizeI g = if g < 0 then -g else g := sizeI_eq (by omega) (by omega)
  have hk0 : ((k : Int) == 0) = decide (k = 0) := by by_cases h : k = 0 <;> simp [h]
  have hq2 : 1 ≤ q → s ≤ q * s := fun h => by
    have := Int.mul_le_mul_of_nonneg_right h (show 0 ≤ s by omega)
    omega
  have hq3 : q ≤ -1 → q * s ≤ -s := fun h => by
    have := Int.mul_le_mul_of_nonneg_right h (show 0 ≤ s by omega)
    omega
  intro p hp
  rcases hp with rfl | rfl | rfl
  · have he : endsB k c = true := by
      unfold endsB
      rw [hk0, decide_eq_true (show c ≤ 1023 by omega), cond_true]
      by_cases h : c ≥ -1023
      · rw [decide_eq_true h, cond_true]
      · rw [decide_eq_false h, cond_false]
        by_cases h2 : k = 0
        · rw [decide_eq_true h2, cond_true, beq_iff_eq]; rw [if_pos h2] at hlv; omega
        · rw [if_neg h2] at hlv; omega
    unfold condA
    rw [he]
    have h1 : ¬ (c > 0 ∧ n < 0) := by
      rintro ⟨h1, h2⟩
      split at hce
      · omega
      · split at hce <;> omega
    have h2 : ¬ (c < 0 ∧ n > 0) := by
      rintro ⟨h1, h2⟩
      split at hce
      · omega
      · split at hce <;> omega
    by_cases a1 : c > 0 <;> by_cases a2 : n < 0 <;> by_cases a3 : c < 0 <;> by_cases a4 : n > 0 <;> simp [a1, a2, a3, a4] <;> omega
  · unfold condB
    rw [e1, e2, e5, e4]
    by_cases hd : 2 * (if n - c * s < 0 then -(n - c * s) else n - c * s) > s
    · rw [decide_eq_true hd, cond_true, Bool.not_eq_false']
      rw [bif_iff]
      by_cases h1 : c = 1023 ∧ n > 0
      · left
        simp [h1]
      · right
        have h2 : n < 0 ∧ c = leastV k := by
          split at hce
          · constructor
            · omega
            · exact hce
          · split at hce
            · exact absurd ⟨hce, by omega⟩ h1
            · have := hq1 hce
              split at hd <;> omega
        refine ⟨?_, ?_⟩
        · by_cases a1 : c = 1023 <;> by_cases a2 : n > 0 <;> simp [a1, a2] <;> omega
        · rw [decide_eq_true h2.1, cond_true]
          unfold condX
          rw [beq_eq]
          by_cases h3 : k = 0
          · rw [if_pos h3] at hlv
            have hc1 : c = -1024 := by omega
            simp [h3, hc1]
          · rw [if_neg h3] at hlv
            have hc1 : c = -1023 := by omega
            simp [h3, hc1]
    · rw [decide_eq_false hd, cond_false]
  · unfold condC
    rw [e1, e3, e6, e7]
    have h1 : ¬ (if g < 0 then -g else g) > 32767 := by split <;> omega
    rw [decide_eq_false h1]
    by_cases h2 : (if c * s < 0 then -(c * s) else c * s) ≤ 32767
    · rw [decide_eq_true h2, cond_true]
      have : g = c * s := by
        rw [hfe]
        split at h2 <;> (rw [if_neg (by omega), if_neg (by omega)])
      simp [this]
    · rw [decide_eq_false h2]
      rfl
theorem key (w : World) (f t : Nat → Int) (hf : ∀ i, i < 64 → -2147483648 ≤ f i ∧ f i ≤ 2147483647) (ht : ∀ i, i < 64 → 0 ≤ t i ∧ t i ≤ 65535) :
    Calls Try.prog 9 #[.agg (valsK .i32 64 f).toArray, .agg (valsK .u16 64 t).toArray] w fun e w' => e = .returned (.bool true) ∧ Below w.heap.size w w' := by
  refine law_of_run (st := false) (avs := [.val (.agg (valsK .i32 64 f).toArray), .val (.agg (valsK .u16 64 t).toArray)]) hm hT FJok Try.func9 (canonFT' f t) (of_run (walked f t) (obsP_of _ _ (fun p hp => ?_) rfl)) (ARs_vals w [.agg (valsK .i32 64 f).toArray, .agg (valsK .u16 64 t).toArray])
  simp only [halfL, List.mem_cons, List.mem_flatMap, List.mem_range] at hp
  rcases hp with rfl | ⟨k, hk, hp⟩
  · exact fitsN_of ⟨hf, fun i hi => stepV_ok (ht i hi).1 (ht i hi).2⟩
  · exact half_ok hf ht k hk p hp

theorem walk (a0 : List Int) (a1 : List Int) (l0 : a0.length = 64) (w0 : ∀ x ∈ a0, (Lit.int .i32 x).wf = true) (l1 : a1.length = 64) (w1 : ∀ x ∈ a1, (Lit.int .u16 x).wf = true) (w : World) :
    Calls Try.prog 9 #[.agg (a0.map (Value.int .i32)).toArray, .agg (a1.map (Value.int .u16)).toArray] w fun e w' => e = .returned (.bool true) ∧ Below w.heap.size w w' := by
  have hf : ∀ i, i < 64 → -2147483648 ≤ a0.getD i 0 ∧ a0.getD i 0 ≤ 2147483647 := fun i hi => wf_i32 (wf_at l0 w0 hi)
  have ht : ∀ i, i < 64 → 0 ≤ a1.getD i 0 ∧ a1.getD i 0 ≤ 65535 := fun i hi => wf_u16 (wf_at l1 w1 hi)
  rw [valsK_of a0 l0, valsK_of a1 l1]
  exact key w _ _ hf ht

theorem lifted (os : Os) (started : os.Started) (H : Type) (enc : TypeId × Value → H) :
    ReturnsInHanded {} Try.checked os 9 .any (Rows.quantHalfSpec.pre6 enc Try.prog Try.f9 Rows.quantHalfRow.domain false) (Rows.quantHalfSpec.post enc Try.prog Try.f9 false true false false) := by
  refine returnsInHanded_of_change (C := Try.checked) own started (by kernel_rfl) Try.func9
    (ChangeSpec.witness6 (enc := enc) (C := Try.checked) false ⟨#[], #[.agg (Array.replicate 64 (.int .i32 0)), .agg (Array.replicate 64 (.int .u16 0))], []⟩ 8 (by kernel_rfl) (by kernel_rfl) (by kernel_rfl) (by kernel_rfl)) ?_
  intro W base args ds gs before hval0 hW hcnd _
  have hval : ∀ (j : Nat) t v, Try.f9.params[j]? = some t → args[j]? = some v → Value.okWide Try.prog W .any base t v := hval0
  have hW' := hW
  obtain ⟨p, q, hA0, hV, rfl, hfz, hnd⟩ := hW
  have hA : DataW.TrodAll enc Try.prog W 0 (fun _ => true) true Try.f9.params.toList args.toList ds p := hA0
  rw [Try.params9] at hA hval
  have hA2 := hA
  have hlt := trodAll_lt _ _ _ _ hA2
  obtain ⟨v0, vs0, d0, ds0, p0, q0, hargs, rfl, rfl, h0, r0⟩ := trodAll_cons hA
  obtain ⟨v1, vs1, d1, ds1, p1, q1, rfl, rfl, rfl, h1, r1⟩ := trodAll_cons r0
  obtain ⟨rfl, rfl, rfl⟩ := trodAll_nil r1
  obtain rfl : args = #[v0, v1] := by cases args; simp_all
  obtain ⟨rfl, rfl⟩ := trodVars_none hV
  obtain ⟨a0, l0, rfl, w0⟩ := open_arr Try.underlying29 Try.underlying21 (by kernel_rfl) (by kernel_rfl) (hval 0 29 v0 rfl rfl) h0
  obtain ⟨a1, l1, rfl, w1⟩ := open_arr Try.underlying23 Try.underlying22 (by kernel_rfl) (by kernel_rfl) (hval 1 23 v1 rfl rfl) h1
  refine (walk a0 a1 l0 w0 l1 w1 W).mono fun e W' ⟨he, bel⟩ => ?_
  subst he
  exact ⟨_, rfl, _, _, _, [], _, [], hW', trodAll_mk1 (shut_bool Try.underlying4 _), trodAll_below laidOut bel _ _ _ _ (by kernel_rfl) hA2 hlt, rfl, bel.frame _, fun h => by cases h⟩
theorem over : Rows.quantHalfRow.holds Try.pinned (OpenSpec.ofChange Rows.quantHalfSpec) :=
  OpenClaim.holds_of_wide 9 Try.f9 rfl rfl rfl rfl rfl rfl rfl ⟨rfl, rfl, rfl, rfl, rfl⟩ rfl rfl rfl rfl rfl (by kernel_rfl) Try.func9 (by kernel_rfl)
    (of_decide_eq_true (by kernel_rfl)) (by unfold Func.isWrapper; rw [if_neg (of_decide_eq_false (by kernel_rfl))]; exact ⟨rfl, rfl⟩)
    (fun os started H enc _ => lifted os started H enc)
end Go.Proofs.Yteikdpagoojdlaa.QuantHalf
namespace Go.Proofs.Yteikdpagoojdlaa
theorem quantHalf_holds : Rows.QuantHalfSaid := QuantHalf.over
#print axioms quantHalf_holds
end Go.Proofs.Yteikdpagoojdlaa
