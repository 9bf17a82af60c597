/-
  What is proved here: what the laws WaveForward and WaveBack ask of tame lists holds.
-/
import Derived.Test.YthddkcoflnbjbaaDoorQLaw40
import Derived.Test.YthddkcoflnbjbaaDoorQCon64
import Derived.Test.YthddkcoflnbjbaaDoorQCon65
namespace Go.Proofs.YthddkcoflnbjbaaDoor
open Sm Go Go.RowKit Fl Ieee
set_option maxRecDepth 100000
set_option linter.unusedVariables false
/-! tame lists -/
def TmC (n : Nat) (x : Nat → Nat × Nat) : Prop := ∀ k, k < n → fle (absW (x k).1) wBig = true ∧ fle (absW (x k).2) wBig = true
theorem tmC_all {x : Nat → Nat × Nat} : ∀ n, tmC x n = true → TmC n x
  | 0, _, k, hk => absurd hk (by omega)
  | n + 1, h, k, hk => by
    have h' : (bif (bif tmC x n then fle (absW (x n).1) wBig else false) then fle (absW (x n).2) wBig else false) = true := h
    cases h0 : tmC x n with
    | false => rw [h0] at h'; cases h'
    | true =>
      rw [h0] at h'
      cases h1 : fle (absW (x n).1) wBig with
      | false => rw [h1] at h'; cases h'
      | true =>
        rw [h1] at h'
        by_cases hkn : k < n
        · exact tmC_all n h0 k hkn
        · obtain rfl : k = n := by omega
          exact ⟨h1, h'⟩
theorem tameQ {y : Nat} (h : fle (absW y) wBig = true) : fnum .f64 y ∧ ab (fv .f64 y) ≤ BXp := tameP h
def mC (n : Nat) (x : Nat → Nat × Nat) (j : Nat) : Rat := if j < n then ab (fv .f64 (x j).1) + ab (fv .f64 (x j).2) else 0
def SC (n : Nat) (x : Nat → Nat × Nat) : Rat := RS (mC n x) n
theorem mC0 (n : Nat) (x : Nat → Nat × Nat) (j : Nat) : 0 ≤ mC n x j := by
  unfold mC
  split
  · have := (ab_bd (fv .f64 (x j).1)).1
    have := (ab_bd (fv .f64 (x j).2)).1
    grind
  · exact Rat.le_refl
theorem BX2 : 2 * BXp ≤ HH ∧ 0 ≤ BXp ∧ 1000000000000 * (8192 * BXp + 1) ≤ GG := by unfold BXp HH GG; decide +kernel
theorem mC_le {n : Nat} {x : Nat → Nat × Nat} (h : TmC n x) (j : Nat) : mC n x j ≤ 2 * BXp := by
  unfold mC
  split
  · rename_i hj
    have h1 := (tameQ (h j hj).1).2
    have h2 := (tameQ (h j hj).2).2
    grind
  · have := BX2.2.1
    grind
theorem vC_wiC (n : Nat) (x : Nat → Nat × Nat) (j : Nat) : Cx.Wi (vC n x j) (mC n x j) := by
  unfold vC mC
  by_cases hj : j < n
  · rw [if_pos hj, if_pos hj]
    obtain ⟨a0, a1, a2⟩ := ab_bd (fv .f64 (x j).1)
    obtain ⟨b0, b1, b2⟩ := ab_bd (fv .f64 (x j).2)
    exact ⟨by show fv .f64 (x j).1 ≤ _; grind, by show _ ≤ fv .f64 (x j).1; grind, by show fv .f64 (x j).2 ≤ _; grind, by show _ ≤ fv .f64 (x j).2; grind⟩
  · rw [if_neg hj, if_neg hj]
    exact ⟨Rat.le_refl, by show _ ≤ (0 : Rat); grind, Rat.le_refl, by show _ ≤ (0 : Rat); grind⟩
theorem SC_bd {n : Nat} {x : Nat → Nat × Nat} (hn : n ≤ 4096) (h : TmC n x) : 0 ≤ SC n x ∧ SC n x ≤ 8192 * BXp ∧ 1000000000000 * (SC n x + 1) ≤ GG := by
  have h1 := RS_mono (mC0 n x) hn
  have h2 := RS_le (T := mC n x) (D := fun _ => 2 * BXp) 4096 fun i _ => mC_le h i
  rw [RS_const] at h2
  have h3 : ((4096 : Nat) : Rat) = 4096 := rfl
  rw [h3] at h2
  have h4 := BX2.2.2
  have h5 : SC n x ≤ 8192 * BXp := by unfold SC; grind
  exact ⟨RS_nn (mC0 n x) _, h5, by grind⟩
/-! the weight -/
def tt (x : Nat → Nat × Nat) (k : Nat) : Nat := if k % 2 = 0 then absW (x (k / 2)).1 else absW (x (k / 2)).2
def tR (x : Nat → Nat × Nat) (k : Nat) : Rat := if k % 2 = 0 then ab (fv .f64 (x (k / 2)).1) else ab (fv .f64 (x (k / 2)).2)
theorem tt_e (x : Nat → Nat × Nat) (i : Nat) : tt x (2 * i) = absW (x i).1 ∧ tt x (2 * i + 1) = absW (x i).2 ∧ tR x (2 * i) = ab (fv .f64 (x i).1) ∧ tR x (2 * i + 1) = ab (fv .f64 (x i).2) := by
  unfold tt tR
  rw [if_pos (by omega), if_neg (by omega), if_pos (by omega), if_neg (by omega), show 2 * i / 2 = i by omega, show (2 * i + 1) / 2 = i by omega]
  exact ⟨rfl, rfl, rfl, rfl⟩
theorem smC_eq (x : Nat → Nat × Nat) : ∀ i, smC x i = fsum (tt x) 0 (2 * i)
  | 0 => rfl
  | i + 1 => by
    obtain ⟨e1, e2, _⟩ := tt_e x i
    show fbin .add .f64 (fbin .add .f64 (smC x i) (absW (x i).1)) (absW (x i).2) = fbin .add .f64 (fbin .add .f64 (fsum (tt x) 0 (2 * i)) (tt x (2 * i))) (tt x (2 * i + 1))
    rw [smC_eq x i, e1, e2]
theorem tR_sum (x : Nat → Nat × Nat) (N : Nat) : ∀ n, n ≤ N → RS (tR x) (2 * n) = RS (mC N x) n
  | 0, _ => rfl
  | n + 1, h => by
    obtain ⟨_, _, e3, e4⟩ := tt_e x n
    show RS (tR x) (2 * n) + tR x (2 * n) + tR x (2 * n + 1) = RS (mC N x) n + mC N x n
    rw [tR_sum x N n (by omega), e3, e4]
    unfold mC
    rw [if_pos (by omega)]
    grind
theorem wt_near {n : Nat} {x : Nat → Nat × Nat} (hn : n ≤ 4096) (h : TmC n x) : okWt n x ∧ Ap (smC x n) (SC n x) (1 / 100000000000 * (1 + SC n x)) := by
  obtain ⟨M0, M1, M2⟩ := SC_bd hn h
  have hN : ((2 * n : Nat) : Rat) ≤ 8192 := by
    have : ((2 * n : Nat) : Rat) ≤ ((8192 : Nat) : Rat) := Rat.natCast_le_natCast.2 (by omega)
    exact this
  have hM : RS (tR x) (2 * n) = SC n x := tR_sum x n n (Nat.le_refl _)
  have t0 : ∀ j, 0 ≤ tR x j := fun j => by
    unfold tR
    split <;> exact (ab_bd _).1
  have hc := Rat.mul_le_mul_of_nonneg_right hN (show 0 ≤ 0 + dl (2 * SC n x + 1) by unfold dl; grind)
  have H := fsum_ap2 (t := tt x) (T := tR x) (τ := 0) (B := SC n x) (c := 2 * SC n x + 1) (N := 2 * n) (fun i hi => by
      have h1 := h (i / 2) (by omega)
      unfold tt tR
      split
      · exact ab_ap (tameQ h1.1).1
      · exact ab_ap (tameQ h1.2).1) (fun i hi => by
      have h1 := RS_mono t0 hi
      have h2 := RS_nn t0 i
      rw [hM] at h1
      constructor <;> grind) (by grind) (by grind) (by unfold dl at hc ⊢; grind) (tp_GG _ (by grind)) (2 * n) (Nat.le_refl _)
  rw [hM] at H
  refine ⟨fun i hi => ?_, ?_⟩
  · obtain ⟨e1, e2, _⟩ := tt_e x i
    have a := H.1 (2 * i) (by omega)
    have b := H.1 (2 * i + 1) (by omega)
    rw [e1] at a
    rw [e2] at b
    have c : fsum (tt x) 0 (2 * i + 1) = fbin .add .f64 (fsum (tt x) 0 (2 * i)) (tt x (2 * i)) := rfl
    rw [c, e1] at b
    rw [smC_eq]
    exact ⟨a, b⟩
  · rw [smC_eq]
    exact H.2.le (by unfold dl at hc ⊢; grind)
/-! the bound -/
theorem bW_ok {s : Nat} {M : Rat} (hs : Ap s M (1 / 100000000000 * (1 + M))) (M0 : 0 ≤ M) (M1 : 1000000000000 * (M + 1) ≤ GG) : fok .add .f64 4607182418800017408 s = true ∧ fok .mul .f64 4476910133257361045 (fbin .add .f64 4607182418800017408 s) = true ∧
    fnum .f64 (fbin .mul .f64 4476910133257361045 (fbin .add .f64 4607182418800017408 s)) ∧ 19 / 10000000000 * (1 + M) ≤ fv .f64 (fbin .mul .f64 4476910133257361045 (fbin .add .f64 4607182418800017408 s)) := by
  obtain ⟨q1, b⟩ := one_ap.add hs (2 * M + 2) (by grind) (by grind) (tp_GG _ (by grind))
  have b' := b.le (e' := 1 / 10000000000 * (1 + M)) (by unfold dl; grind)
  obtain ⟨q2, c⟩ := k2e9_ap.mul b' (U := 2 / 1000000000) (V := 1 + M) (by grind) (by grind) (by grind) (by grind) (M + 1) (by grind) (tp_GG _ (by grind))
  refine ⟨q1, q2, c.num, ?_⟩
  have h := c.lo
  show 19 / 10000000000 * (1 + M) ≤ fv .f64 (fbin .mul .f64 k2e9 (fbin .add .f64 kOne s))
  unfold dl at h
  grind
theorem okN1_of {z r : Nat × Nat} {d : Cx} {b : Nat} {e M : Rat} (hz : CAp z d e) (hr : CAp r d e) (he : e ≤ 4 / 10000000000 * (1 + M)) (M0 : 0 ≤ M) (M1 : 1000000000000 * (M + 1) ≤ GG) (hb : fnum .f64 b) (hb2 : 19 / 10000000000 * (1 + M) ≤ fv .f64 b) : okN1 z r b := by
  obtain ⟨a1, a2⟩ := within_ok (B := 0) hz.re hr.re hb (9 / 10000000000 * (1 + M)) (by grind) (by grind) (tp_GG _ (by grind)) (by unfold dl; grind)
  obtain ⟨b1, b2⟩ := within_ok (B := 0) hz.im hr.im hb (9 / 10000000000 * (1 + M)) (by grind) (by grind) (tp_GG _ (by grind)) (by unfold dl; grind)
  exact ⟨a1, a2, b1, b2⟩
theorem vC_pC (n : Nat) (x : Nat → Nat × Nat) : vC n (pC n x) = vC n x := by
  funext j
  unfold vC
  by_cases h : j < n
  · rw [if_pos h, if_pos h, pC_lt h]
  · rw [if_neg h, if_neg h]
theorem both {way : Int} (hw : way = 1 ∨ way = -1) {p : Nat} (hp : p ≤ 12) {x : Nat → Nat × Nat} (h : TmC (2 ^ p) x) :
    (okTr way p (pC (2 ^ p) x) ∧ ∀ k, k < 2 ^ p → CAp (trY way p (pC (2 ^ p) x) k) (dft way (vC (2 ^ p) x) p (k : Nat)) (2 / 10000000000 * SC (2 ^ p) x + 1 / 10000000000)) ∧
    okSm (2 ^ p) x (twP way (2 ^ p : Nat)) ∧ ∀ k, k < 2 ^ p → CAp (smL (2 ^ p) x (twP way (2 ^ p : Nat)) k) (dft way (vC (2 ^ p) x) p (k : Nat)) (2 / 10000000000 * SC (2 ^ p) x + 1 / 10000000000) := by
  have hHH : ∀ j, mC (2 ^ p) x j ≤ HH := fun j => by
    have := mC_le h j
    have := BX2.1
    grind
  have a := tr_words hw hp (X := pC (2 ^ p) x) (m := mC (2 ^ p) x) (fun j hj => by
    rw [pC_lt hj]
    exact ⟨(tameQ (h j hj).1).1, (tameQ (h j hj).2).1⟩) (fun j => by rw [vC_pC]; exact vC_wiC _ _ j) hHH
  rw [vC_pC] at a
  have b := sm_near hw hp (X := x) (x := vC (2 ^ p) x) (m := mC (2 ^ p) x) (fun j hj => by
    unfold vC
    rw [if_pos hj]
    exact ⟨Ap.self (tameQ (h j hj).1).1, Ap.self (tameQ (h j hj).2).1⟩) (vC_wiC _ _) hHH
  exact ⟨a, b⟩
theorem fw_ok {n : Nat} {x : Nat → Nat × Nat} (hf : fitB n = true) (ht : tmC x n = true) : okTF n x := by
  obtain ⟨p, hp, rfl⟩ := fit_is hf
  have hn : 2 ^ p ≤ 4096 := Nat.pow_le_pow_right (by omega) hp
  have h := tmC_all _ ht
  obtain ⟨M0, M1, M2⟩ := SC_bd hn h
  obtain ⟨w1, w2⟩ := wt_near hn h
  obtain ⟨g1, g2, g3, g4⟩ := bW_ok w2 M0 M2
  obtain ⟨⟨t1, t2⟩, s1, s2⟩ := both (way := 1) (.inl rfl) hp h
  have hlog : (2 ^ p).log2 = p := Nat.log2_two_pow
  refine ⟨w1, s1, ⟨p, hp, rfl, t1⟩, g1, g2, fun i hi => ?_⟩
  have hz : zeF (2 ^ p) x i = trY 1 p (pC (2 ^ p) x) i := by
    show trY 1 (2 ^ p).log2 (pC (2 ^ p) x) i = _
    rw [hlog]
  rw [hz]
  exact okN1_of (M := SC (2 ^ p) x) (t2 i hi) (s2 i hi) (by grind) M0 M2 g3 g4
theorem quo_near {n : Nat} {q M : Rat} (hv : fnum .f64 (i2f n) ∧ fv .f64 (i2f n) = q) (q1 : 1 ≤ q) {y : Nat × Nat} {d : Cx} (hy : CAp y d (2 / 10000000000 * M + 1 / 10000000000)) (w : Cx.Wi d (2 * M)) (M0 : 0 ≤ M) (M2 : 1000000000000 * (M + 1) ≤ GG) :
    (fok .quo .f64 y.1 (quN n) = true ∧ fok .quo .f64 y.2 (quN n) = true) ∧ CAp (fbin .quo .f64 y.1 (quN n), fbin .quo .f64 y.2 (quN n)) (Cx.smul q⁻¹ d) (3 / 10000000000 * M + 2 / 10000000000) := by
  rw [show quN n = i2f n from rfl]
  have w1 := w.r1
  have w2 := w.r2
  have w3 := w.i1
  have w4 := w.i2
  obtain ⟨a1, a2⟩ := hy.re.quo hv q1 (3 * M + 1) (by grind) (by grind) (tp_GG _ (by grind))
  obtain ⟨b1, b2⟩ := hy.im.quo hv q1 (3 * M + 1) (by grind) (by grind) (tp_GG _ (by grind))
  rw [Rat.div_def, Rat.mul_comm] at a2 b2
  exact ⟨⟨a1, b1⟩, a2.le (by unfold dl; grind), b2.le (by unfold dl; grind)⟩
theorem div_near {n : Nat} (h1 : 1 ≤ n) (h2 : n ≤ 4096) {q M : Rat} (hq : (n : Rat) = q) (q1 : 1 ≤ q) {y : Nat × Nat} {d : Cx} (hy : CAp y d (2 / 10000000000 * M + 1 / 10000000000)) (w : Cx.Wi d (2 * M)) (M0 : 0 ≤ M) (M2 : 1000000000000 * (M + 1) ≤ GG) :
    cqOk y.1 y.2 (i2f n) 0 ∧ CAp (bkP n y) (Cx.smul q⁻¹ d) (3 / 10000000000 * M + 2 / 10000000000) := by
  have qi : q * q⁻¹ = 1 := Rat.mul_inv_cancel _ (Rat.ne_of_gt (by grind))
  have qi0 : 0 ≤ q⁻¹ := Rat.le_of_lt (Rat.inv_pos.2 (by grind))
  have qi1 : q⁻¹ ≤ 1 := by
    have := Rat.mul_le_mul_of_nonneg_right q1 qi0
    grind
  rw [← smul_smul q q⁻¹ d qi] at hy
  obtain ⟨c1, c2⟩ := cq_near h1 h2 (by rw [hq]; exact hy) (smul_wi qi0 qi1 w) (by grind)
  exact ⟨c1, c2.le (by unfold dl; grind)⟩
theorem zeB_at (n : Nat) (x : Nat → Nat × Nat) (i : Nat) : zeB n x i = bkP n (trY (-1) n.log2 (pC n x) i) := by kernel_rfl
theorem bk_ok {n : Nat} {x : Nat → Nat × Nat} (hf : fitB n = true) (ht : tmC x n = true) : okTB n x := by
  obtain ⟨p, hp, rfl⟩ := fit_is hf
  have hn : 2 ^ p ≤ 4096 := Nat.pow_le_pow_right (by omega) hp
  have hp0 : 1 ≤ 2 ^ p := Nat.two_pow_pos p
  have h := tmC_all _ ht
  obtain ⟨M0, M1, M2⟩ := SC_bd hn h
  obtain ⟨w1, w2⟩ := wt_near hn h
  obtain ⟨g1, g2, g3, g4⟩ := bW_ok w2 M0 M2
  obtain ⟨⟨t1, t2⟩, s1, s2⟩ := both (way := -1) (.inr rfl) hp h
  have hlog : (2 ^ p).log2 = p := Nat.log2_two_pow
  have hY : ∀ k : Nat, Cx.Wi (dft (-1) (vC (2 ^ p) x) p (k : Nat)) (2 * SC (2 ^ p) x) := fun k => dft_wi (way := -1) (vC_wiC (2 ^ p) x) p (k : Nat)
  have q1 : (1 : Rat) ≤ ((2 ^ p : Nat) : Rat) := Rat.natCast_le_natCast.2 hp0
  have hB := fun (k : Nat) (hk : k < 2 ^ p) => div_near hp0 hn rfl q1 (t2 k hk) (hY k) M0 M2
  have hR := fun (k : Nat) (hk : k < 2 ^ p) => quo_near (i2f_n hp0 hn) q1 (s2 k hk) (hY k) M0 M2
  refine ⟨w1, s1, fun i hi => (hR i hi).1, ⟨⟨p, hp, rfl, t1⟩, fun k hk => ?_⟩, g1, g2, fun i hi => ?_⟩
  · rw [hlog]; exact (hB k hk).1
  · have e1 : zeB (2 ^ p) x i = bkP (2 ^ p) (trY (-1) p (pC (2 ^ p) x) i) := by
      rw [zeB_at, hlog]
    have e2 : rB (2 ^ p) x i = (fbin .quo .f64 (smL (2 ^ p) x (twP (-1) (2 ^ p : Nat)) i).1 (quN (2 ^ p)), fbin .quo .f64 (smL (2 ^ p) x (twP (-1) (2 ^ p : Nat)) i).2 (quN (2 ^ p))) := if_pos hi
    rw [e1, e2]
    exact okN1_of (M := SC (2 ^ p) x) (hB i hi).2 (hR i hi).2 (by grind) M0 M2 g3 g4
theorem bk_all {n m : Nat} {x y : Nat → Nat × Nat} (hn : sizeOk n) (hm : sizeOk m) : goodB n m x y := allB hn hm bk_ok bk_ok
end Go.Proofs.YthddkcoflnbjbaaDoor
