/-
  What is proved here: the powers add up to the squares, in floats. A text to be imported.
-/
import Derived.Test.YthddkcoflnbjbaaDoorLaw20
namespace Go.Proofs.YthddkcoflnbjbaaDoor
open Sm Go Go.RowKit Fl Ieee
set_option maxRecDepth 100000
set_option linter.unusedVariables false
def rR (m : Nat) (x : Nat → Nat) (k : Nat) : Rat := fv .f64 (XW m x k).1
def aR (m : Nat) (x : Nat → Nat) (k : Nat) : Rat := ab (rR m x k)
def MR (m : Nat) (x : Nat → Nat) : Rat := RS (aR m x) (nF m)
theorem BB4_GG : 100000000000000000000 * (BB * BB) ≤ GG := by unfold BB GG; decide +kernel
theorem aR0 (m : Nat) (x : Nat → Nat) (k : Nat) : 0 ≤ aR m x k := (ab_bd _).1
theorem MR_bd (m : Nat) (x : Nat → Nat) : 0 ≤ MR m x ∧ MR m x ≤ 4096 * BB ∧ ∀ k, k < nF m → aR m x k ≤ MR m x := by
  obtain ⟨_, h1, h2, _, _⟩ := nF_bd m
  refine ⟨RS_nn (aR0 m x) _, ?_, fun k hk => RS_mem (aR0 m x) hk⟩
  have h3 := RS_mono (aR0 m x) (show nF m ≤ 4096 by omega)
  have h4 := RS_le (T := aR m x) (D := fun _ => BB) 4096 fun i _ => (gW_tm m x (2 * i)).2
  rw [RS_const] at h4
  have h5 : ((4096 : Nat) : Rat) = 4096 := rfl
  rw [h5] at h4
  unfold MR
  grind
theorem MR_GG (m : Nat) (x : Nat → Nat) : 0 ≤ MR m x * MR m x ∧ 1000000000 * (MR m x * MR m x + 2 * MR m x + 1) ≤ GG := by
  obtain ⟨a, b, _⟩ := MR_bd m x
  have h := BB4_GG
  have hb : (1000000 : Rat) ≤ BB := BB_GG.2
  have k := rmul_le (a := MR m x) (b := MR m x) (A := 4096 * BB) (B := 4096 * BB) (by grind) (by grind) b (by grind) b (by grind)
  have k2 := Rat.mul_le_mul_of_nonneg_right hb (show 0 ≤ BB by grind)
  exact ⟨Rat.mul_nonneg a a, by grind⟩
/-- The sum of sizes. -/
theorem sA6_ok (m : Nat) (x : Nat → Nat) : (∀ i, i < nF m → fok .add .f64 (sA6 (XW m x) i) (absW (XW m x i).1) = true) ∧ Ap (sA6 (XW m x) (nF m)) (MR m x) (1 / 1000000000 * MR m x + 1 / 1000000000000000000) := by
  obtain ⟨_, h1, h2, _, _⟩ := nF_bd m
  obtain ⟨M0, M1, M2⟩ := MR_bd m x
  obtain ⟨S0, S1⟩ := MR_GG m x
  have hN : (((nF m : Nat) : Rat)) ≤ 2048 := Rat.natCast_le_natCast.2 h2
  have hN0 : 0 ≤ (((nF m : Nat) : Rat)) := Rat.natCast_nonneg
  have hd0 : 0 ≤ 0 + dl (2100 * MR m x + 1 / 1000000000000000) := by unfold dl; grind
  have m1 := Rat.mul_le_mul_of_nonneg_right hN M0
  have m2 := Rat.mul_le_mul_of_nonneg_right hN hd0
  have := fsum_ap (t := fun j => absW (XW m x j).1) (T := aR m x) (τ := 0) (M := MR m x) (B := 0) (S := 0) (e := 0) (c := 2100 * MR m x + 1 / 1000000000000000) (s := 0) (N := nF m) (fun i hi => by
      show Ap (absW (XW m x i).1) (ab (fv .f64 (XW m x i).1)) 0
      exact ab_ap (XW_num m x i).1) (fun i hi => ⟨M2 i hi, by have := aR0 m x i; grind⟩) (Ap.of zero_val) (by grind) (by grind) M0 (by grind) (by grind) (by unfold dl at *; grind) (tp_GG _ (by grind)) (nF m) (Nat.le_refl _)
  refine ⟨this.1, (this.2.mv (v' := MR m x) (d := 0) (by unfold MR; grind) (by unfold MR; grind)).le ?_⟩
  unfold dl at *
  grind
theorem rR_sq (m : Nat) (x : Nat → Nat) {k : Nat} (hk : k < nF m) : rR m x k * rR m x k ≤ MR m x * MR m x ∧ 0 ≤ rR m x k * rR m x k := by
  obtain ⟨M0, M1, M2⟩ := MR_bd m x
  obtain ⟨a0, a1, a2⟩ := ab_bd (rR m x k)
  have h := M2 k hk
  have h' : ab (rR m x k) ≤ MR m x := h
  exact ⟨(rmul_le (a := rR m x k) (b := rR m x k) M0 M0 (by grind) (by grind) (by grind) (by grind)).1, sq_nn' _⟩
/-- The sum of squares. -/
theorem sQ6_ok (m : Nat) (x : Nat → Nat) : (∀ i, i < nF m → fok .mul .f64 (XW m x i).1 (XW m x i).1 = true ∧ fok .add .f64 (sQ6 (XW m x) i) (fbin .mul .f64 (XW m x i).1 (XW m x i).1) = true) ∧
    Ap (sQ6 (XW m x) (nF m)) (RS (fun k => rR m x k * rR m x k) (nF m)) (1 / 1000000000 * (MR m x * MR m x + 1)) := by
  obtain ⟨_, h1, h2, _, _⟩ := nF_bd m
  obtain ⟨M0, M1, M2⟩ := MR_bd m x
  obtain ⟨S0, S1⟩ := MR_GG m x
  have hN : (((nF m : Nat) : Rat)) ≤ 2048 := Rat.natCast_le_natCast.2 h2
  have hN0 : 0 ≤ (((nF m : Nat) : Rat)) := Rat.natCast_nonneg
  have hm : ∀ i, i < nF m → fok .mul .f64 (XW m x i).1 (XW m x i).1 = true ∧ Ap (fbin .mul .f64 (XW m x i).1 (XW m x i).1) (rR m x i * rR m x i) (dl (MR m x * MR m x)) := fun i hi => by
    obtain ⟨a0, a1, a2⟩ := ab_bd (rR m x i)
    have h : ab (rR m x i) ≤ MR m x := M2 i hi
    have hs := Ap.self (XW_num m x i).1
    obtain ⟨k, p⟩ := hs.mul hs (U := MR m x) (V := MR m x) (by show rR m x i ≤ _; grind) (by show _ ≤ rR m x i; grind) (by show rR m x i ≤ _; grind) (by show _ ≤ rR m x i; grind) (MR m x * MR m x) (by grind) (tp_GG _ (by grind))
    exact ⟨k, p.le (by grind)⟩
  generalize hSS : MR m x * MR m x = S at *
  have hd1 : 0 ≤ dl S := by unfold dl; grind
  have hd0 : 0 ≤ dl S + dl (2100 * S + 1) := by unfold dl; grind
  have m1 := Rat.mul_le_mul_of_nonneg_right hN S0
  have m2 := Rat.mul_le_mul_of_nonneg_right hN hd0
  have := fsum_ap (t := fun j => fbin .mul .f64 (XW m x j).1 (XW m x j).1) (T := fun k => rR m x k * rR m x k) (τ := dl S) (M := S) (B := 0) (S := 0) (e := 0) (c := 2100 * S + 1) (s := 0) (N := nF m) (fun i hi => (hm i hi).2) (fun i hi => by
      obtain ⟨b1, b2⟩ := rR_sq m x hi
      rw [hSS] at b1
      constructor <;> grind) (Ap.of zero_val) (by grind) (by grind) S0 hd1 (by grind) (by unfold dl at *; grind) (tp_GG _ (by grind)) (nF m) (Nat.le_refl _)
  refine ⟨fun i hi => ⟨(hm i hi).1, this.1 i hi⟩, (this.2.mv (v' := RS (fun k => rR m x k * rR m x k) (nF m)) (d := 0) (by grind) (by grind)).le ?_⟩
  unfold dl at *
  grind
/-- The list of real numbers. -/
def rV (m : Nat) (x : Nat → Nat) : Nat → Cx := vC (nF m) (p1Y (re6 (XW m x)) (nF m))
def mR (m : Nat) (x : Nat → Nat) (j : Nat) : Rat := if j < nF m then aR m x j else 0
theorem rV_at (m : Nat) (x : Nat → Nat) {j : Nat} (hj : j < nF m) : rV m x j = ⟨rR m x j, 0⟩ := by
  unfold rV vC p1Y
  rw [if_pos hj, if_pos hj]
  exact Cx.ext' rfl zero_val.2
theorem rV_wi (m : Nat) (x : Nat → Nat) (j : Nat) : Cx.Wi (rV m x j) (mR m x j) := by
  by_cases hj : j < nF m
  · rw [rV_at m x hj]
    unfold mR
    rw [if_pos hj]
    obtain ⟨a0, a1, a2⟩ := ab_bd (rR m x j)
    exact ⟨a1, a2, a0, by show -aR m x j ≤ 0; have := aR0 m x j; grind⟩
  · unfold rV vC mR
    rw [if_neg hj, if_neg hj]
    exact ⟨Rat.le_refl, by show _ ≤ (0 : Rat); grind, Rat.le_refl, by show _ ≤ (0 : Rat); grind⟩
theorem mR_sum (m : Nat) (x : Nat → Nat) : RS (mR m x) (nF m) = MR m x := RS_congr _ fun j hj => by unfold mR; rw [if_pos hj]
theorem p1_num (m : Nat) (x : Nat → Nat) (j : Nat) : fnum .f64 (p1Y (re6 (XW m x)) (nF m) j).1 ∧ fnum .f64 (p1Y (re6 (XW m x)) (nF m) j).2 := by
  unfold p1Y
  split
  · exact ⟨(XW_num m x j).1, zero_val.1⟩
  · exact ⟨zero_val.1, zero_val.1⟩
theorem trR (m : Nat) (x : Nat → Nat) : okTr 1 (pFit m) (p1Y (re6 (XW m x)) (nF m)) ∧ ∀ k, k < nF m → CAp (trY 1 (nF m).log2 (p1Y (re6 (XW m x)) (nF m)) k) (dft 1 (rV m x) (pFit m) (k : Nat)) (e1M (MR m x)) := by
  obtain ⟨h1, h2, h3, h4, h5⟩ := nF_bd m
  obtain ⟨M0, M1, M2⟩ := MR_bd m x
  have hB := BB_HH
  have hb : (0 : Rat) ≤ BB := by unfold BB; decide +kernel
  obtain ⟨a, b⟩ := tr_words (way := 1) (.inl rfl) h1 (X := p1Y (re6 (XW m x)) (nF m)) (m := mR m x) (fun j _ => p1_num m x j) (rV_wi m x) (fun j => by
    unfold mR
    split
    · rename_i hj
      have := M2 j hj
      grind
    · grind)
  refine ⟨a, fun k hk => ?_⟩
  rw [h5]
  have := b k hk
  rw [show RS (mR m x) (2 ^ pFit m) = MR m x from mR_sum m x] at this
  exact this
theorem dR_wi (m : Nat) (x : Nat → Nat) (k : Nat) : Cx.Wi (dft 1 (rV m x) (pFit m) (k : Nat)) (2 * MR m x) := by
  have := dft_wi (way := 1) (rV_wi m x) (pFit m) (k : Nat)
  rw [show RS (mR m x) (2 ^ pFit m) = MR m x from mR_sum m x] at this
  exact this
/-- One power. -/
theorem pw_ok (m : Nat) (x : Nat → Nat) {k : Nat} (hk : k < nF m) : okPw (pY (nF m) (re6 (XW m x)) k) ∧ Ap (pwY (nF m) (re6 (XW m x)) k) (Cx.nrm (dft 1 (rV m x) (pFit m) (k : Nat))) (2 / 1000000000 * (MR m x * MR m x + 2 * MR m x + 1)) ∧
    Cx.nrm (dft 1 (rV m x) (pFit m) (k : Nat)) ≤ 8 * (MR m x * MR m x) ∧ 0 ≤ Cx.nrm (dft 1 (rV m x) (pFit m) (k : Nat)) := by
  obtain ⟨M0, M1, M2⟩ := MR_bd m x
  obtain ⟨S0, S1⟩ := MR_GG m x
  have hc := (trR m x).2 k hk
  have hw := dR_wi m x k
  have hY : CAp (pY (nF m) (re6 (XW m x)) k) (dft 1 (rV m x) (pFit m) (k : Nat)) (e1M (MR m x)) := hc
  have hn := nrm_nn (dft 1 (rV m x) (pFit m) (k : Nat))
  have hsq1 := rmul_le (a := (dft 1 (rV m x) (pFit m) (k : Nat)).re) (b := (dft 1 (rV m x) (pFit m) (k : Nat)).re) (A := 2 * MR m x) (B := 2 * MR m x) (by grind) (by grind) hw.r1 hw.r2 hw.r1 hw.r2
  have hsq2 := rmul_le (a := (dft 1 (rV m x) (pFit m) (k : Nat)).im) (b := (dft 1 (rV m x) (pFit m) (k : Nat)).im) (A := 2 * MR m x) (B := 2 * MR m x) (by grind) (by grind) hw.i1 hw.i2 hw.i1 hw.i2
  unfold pwY pwW okPw
  have hnr : Cx.nrm (dft 1 (rV m x) (pFit m) (k : Nat)) = (dft 1 (rV m x) (pFit m) (k : Nat)).re * (dft 1 (rV m x) (pFit m) (k : Nat)).re + (dft 1 (rV m x) (pFit m) (k : Nat)).im * (dft 1 (rV m x) (pFit m) (k : Nat)).im := rfl
  rw [hnr] at hn ⊢
  generalize dft 1 (rV m x) (pFit m) (k : Nat) = Y at *
  generalize pY (nF m) (re6 (XW m x)) k = y at *
  generalize MR m x = M at *
  have he : e1M M = 2 / 10000000000 * M + 1 / 10000000000 := rfl
  obtain ⟨k1, a1⟩ := hY.re.mul hY.re (U := 2 * M) (V := 2 * M) hw.r1 hw.r2 hw.r1 hw.r2 (5 * (M * M) + 2 * M + 1) (by rw [he]; grind) (tp_GG _ (by grind))
  obtain ⟨k2, a2⟩ := hY.im.mul hY.im (U := 2 * M) (V := 2 * M) hw.i1 hw.i2 hw.i1 hw.i2 (5 * (M * M) + 2 * M + 1) (by rw [he]; grind) (tp_GG _ (by grind))
  have a1' := a1.le (e' := 9 / 10000000000 * (M * M + 2 * M + 1)) (by rw [he]; unfold dl; grind)
  have a2' := a2.le (e' := 9 / 10000000000 * (M * M + 2 * M + 1)) (by rw [he]; unfold dl; grind)
  obtain ⟨k3, a3⟩ := a1'.add a2' (10 * (M * M) + 2 * M + 1) (by grind) (by grind) (tp_GG _ (by grind))
  exact ⟨⟨k1, k2, k3⟩, a3.le (by unfold dl; grind), by grind, hn⟩
/-- The last comparison. -/
theorem sqs_ok (m : Nat) (x : Nat → Nat) : okS1 (nF m) (XW m x) ∧ okPow (nF m) (re6 (XW m x)) ∧ (∀ i, i < nF m → fok .add .f64 (fsum (pwY (nF m) (re6 (XW m x))) 0 i) (pwY (nF m) (re6 (XW m x)) i) = true) ∧
    fok .mul .f64 (i2f (nF m)) (sQ6 (XW m x) (nF m)) = true ∧ fok .add .f64 kOne (sA6 (XW m x) (nF m)) = true ∧ fok .mul .f64 c8 (f1W (sA6 (XW m x) (nF m))) = true ∧ fok .mul .f64 (b6a (sA6 (XW m x) (nF m))) (f1W (sA6 (XW m x) (nF m))) = true ∧
    fok .mul .f64 (b6b (sA6 (XW m x) (nF m))) (i2f (nF m)) = true ∧ fok .sub .f64 (fsum (pwY (nF m) (re6 (XW m x))) 0 (nF m)) (fbin .mul .f64 (i2f (nF m)) (sQ6 (XW m x) (nF m))) = true ∧
    fle (absW (fbin .sub .f64 (fsum (pwY (nF m) (re6 (XW m x))) 0 (nF m)) (fbin .mul .f64 (i2f (nF m)) (sQ6 (XW m x) (nF m))))) (b6 (sA6 (XW m x) (nF m)) (i2f (nF m))) = true := by
  obtain ⟨h1, h2, h3, h4, h5⟩ := nF_bd m
  obtain ⟨q1, q2⟩ := qN_bd m
  obtain ⟨n1, n2⟩ := i2f_n h2 (by omega)
  obtain ⟨M0, M1, M2⟩ := MR_bd m x
  obtain ⟨S0, S1⟩ := MR_GG m x
  obtain ⟨sa1, sa2⟩ := sA6_ok m x
  obtain ⟨sq1, sq2⟩ := sQ6_ok m x
  have hp := fun k hk => pw_ok m x (k := k) hk
  have hpar := squares h1 (rV_wi m x)
  rw [show RS (mR m x) (2 ^ pFit m) = MR m x from mR_sum m x] at hpar
  have eR : RS (fun j => Cx.nrm (rV m x j)) (2 ^ pFit m) = RS (fun k => rR m x k * rR m x k) (nF m) := RS_congr _ fun j hj => by
    rw [rV_at m x hj]
    show rR m x j * rR m x j + 0 * 0 = _
    grind
  rw [eR] at hpar
  have eq : ((2 ^ pFit m : Nat) : Rat) = qN m := rfl
  rw [eq] at hpar
  have hR0 : 0 ≤ RS (fun k => rR m x k * rR m x k) (nF m) := RS_nn (fun j => sq_nn' _) _
  have hR1 : RS (fun k => rR m x k * rR m x k) (nF m) ≤ qN m * (MR m x * MR m x) := by
    have := RS_le (T := fun k => rR m x k * rR m x k) (D := fun _ => MR m x * MR m x) (nF m) fun i hi => (rR_sq m x hi).1
    rw [RS_const] at this
    exact this
  refine ⟨fun i hi => ⟨sa1 i hi, (sq1 i hi).1, (sq1 i hi).2⟩, ⟨⟨pFit m, h1, rfl, (trR m x).1⟩, fun k hk => (hp k hk).1⟩, ?_⟩
  have hT : ∀ i, i < nF m → Ap (pwY (nF m) (re6 (XW m x)) i) (Cx.nrm (dft 1 (rV m x) (pFit m) (i : Nat))) (2 / 1000000000 * (MR m x * MR m x + 2 * MR m x + 1)) := fun i hi => (hp i hi).2.1
  have hTM : ∀ i, i < nF m → Cx.nrm (dft 1 (rV m x) (pFit m) (i : Nat)) ≤ 8 * (MR m x * MR m x) ∧ -(8 * (MR m x * MR m x)) ≤ Cx.nrm (dft 1 (rV m x) (pFit m) (i : Nat)) := fun i hi => by
    obtain ⟨_, _, a, b⟩ := hp i hi
    constructor <;> grind
  have hP : ((nF m : Nat) : Rat) = qN m := rfl
  generalize hQ : RS (fun k => rR m x k * rR m x k) (nF m) = R2 at *
  generalize MR m x = M at *
  have hnrm : RS (fun k => Cx.nrm (dft 1 (rV m x) (pFit m) (k : Nat))) (2 ^ pFit m) = RS (fun k => Cx.nrm (dft 1 (rV m x) (pFit m) (k : Nat))) (nF m) := rfl
  rw [hnrm] at hpar
  -- products with the number of numbers
  have p1 := Rat.mul_nonneg (show 0 ≤ qN m by grind) M0
  have p2 := Rat.mul_nonneg (show 0 ≤ qN m by grind) S0
  have p3 := Rat.mul_le_mul_of_nonneg_right q2 M0
  have p4 := Rat.mul_le_mul_of_nonneg_right q2 S0
  have p5 := Rat.mul_le_mul_of_nonneg_right q1 M0
  have p6 := Rat.mul_le_mul_of_nonneg_right q1 S0
  have hfs := fsum_ap (t := pwY (nF m) (re6 (XW m x))) (T := fun k => Cx.nrm (dft 1 (rV m x) (pFit m) (k : Nat))) (τ := 2 / 1000000000 * (M * M + 2 * M + 1)) (M := 8 * (M * M)) (B := 0) (S := 0) (e := 0) (c := 20000 * (M * M + 2 * M + 1)) (s := 0) (N := nF m) hT hTM (Ap.of zero_val) (by grind) (by grind) (by grind) (by grind) (by grind) (by rw [hP]; unfold dl; grind) (tp_GG _ (by grind)) (nF m) (Nat.le_refl _)
  obtain ⟨f1, f2⟩ := hfs
  rw [hP] at f2
  have f3 := (f2.mv (v' := RS (fun k => Cx.nrm (dft 1 (rV m x) (pFit m) (k : Nat))) (nF m)) (d := 0) (by grind) (by grind)).le (e' := 21 / 10000000000 * (qN m * (M * M + 2 * M + 1))) (by unfold dl; grind)
  -- n times the squares
  have hn' : fv .f64 (i2f (nF m)) = qN m := n2
  obtain ⟨k1, g1⟩ := (Ap.of ⟨n1, hn'⟩).mul sq2 (U := qN m) (V := qN m * (M * M)) Rat.le_refl (by grind) hR1 (by grind) (5000000 * (M * M) + 5000000) (by
    have := Rat.mul_le_mul_of_nonneg_right q2 p2
    grind) (tp_GG _ (by grind))
  have g1' := g1.le (e' := 17 / 10000000000 * (qN m * (M * M + 2 * M + 1))) (by unfold dl; grind)
  -- the bound
  obtain ⟨k2, b1⟩ := one_ap.add sa2 (2 * M + 2) (by grind) (by grind) (tp_GG _ (by grind))
  have b1' : Ap (f1W (sA6 (XW m x) (nF m))) (1 + M) (2 / 1000000000 * (1 + M)) := b1.le (by unfold dl; grind)
  obtain ⟨k3, b2⟩ := w1e8_ap.mul b1' (U := 1 / 100000000) (V := 1 + M) (by grind) (by grind) (by grind) (by grind) (1 + M) (by grind) (tp_GG _ (by grind))
  have b2' : Ap (b6a (sA6 (XW m x) (nF m))) (1 / 100000000 * (1 + M)) (1 / 1000000000000000 * (1 + M)) := b2.le (by unfold dl; grind)
  obtain ⟨k4, b3⟩ := b2'.mul b1' (U := 1 / 100000000 * (1 + M)) (V := 1 + M) (by grind) (by grind) (by grind) (by grind) (M * M + 2 * M + 1) (by grind) (tp_GG _ (by grind))
  have b3' : Ap (b6b (sA6 (XW m x) (nF m))) (1 / 100000000 * (1 + M) * (1 + M)) (1 / 10000000000 * (M * M + 2 * M + 1)) := b3.le (by unfold dl; grind)
  obtain ⟨k5, b4⟩ := b3'.mul (Ap.of ⟨n1, hn'⟩) (U := 1 / 100000000 * (1 + M) * (1 + M)) (V := qN m) (by grind) (by grind) Rat.le_refl (by grind) (M * M * 2048 + 2 * M * 2048 + 2048) (by grind) (tp_GG _ (by grind))
  have hlow := b4.lo
  have hb6 : fbin .mul .f64 (b6b (sA6 (XW m x) (nF m))) (i2f (nF m)) = b6 (sA6 (XW m x) (nF m)) (i2f (nF m)) := rfl
  rw [hb6] at hlow b4
  have hio : io ≤ 1 / 100000000000000000000 := by unfold io; decide +kernel
  have hm := Rat.mul_le_mul_of_nonneg_right hio p2
  obtain ⟨r1, r2⟩ := hpar
  obtain ⟨w1, w2⟩ := within_ok (B := 0) f3 g1' b4.num (50 / 10000000000 * (qN m * (M * M + 2 * M + 1))) (by grind) (by grind) (tp_GG _ (by grind)) (by unfold dl at *; grind)
  exact ⟨f1, k1, k2, k3, k4, k5, w1, w2⟩
/-- The whole run. -/
theorem sq_run (m : Nat) (x : Nat → Nat) (hm1 : m ≤ maxLen) : ∃ F, FnsOk Tryd.prog F ∧ runK Tryd.prog T F 600 Tryd.f6 [xF m x] [deadB] [.l 0, .b false, .l 1] (fun r _ => resW r = some (.bool true)) := by
  obtain ⟨h1, h2, h3, h4, h5⟩ := nF_bd m
  obtain ⟨a1, a2, a3, a4, a5, a6, a7, a8, a9, a10⟩ := sqs_ok m x
  refine ⟨F6 (nF m) (XW m x) (sA6 (XW m x) (nF m)) (sQ6 (XW m x) (nF m)) (i2f (nF m)) True True, ?_, ?_⟩
  · unfold F6
    refine (FQok.addGrow 0 (a := 2) (b0 := gB 25 0 1 (fF (re6 (XW m x)))) rfl rfl fun _ => ?_).addKeep 1 fun _ => loopS2 (by omega) a3
    exact loopS1 (by omega) a1
  · refine of_run (run6 m x _ _ _ _ _ _) ⟨⟨⟨trivial, trivial⟩, rfl, fun _ => rfl, hm1⟩, rfl, ⟨⟨rfl, ⟨rfl, rfl, trivial, rfl, rfl, rfl, trivial⟩, startBs.refl _⟩, trivial⟩, ⟨⟨⟨rfl, live0 _, fun k => rfl, fun k => free1 trivial⟩, trivial⟩, ⟨rfl, fun _ => rfl⟩, a2⟩, ?_, rfl, ⟨⟨rfl, ⟨rfl, rfl, rfl, rfl, rfl, rfl, trivial⟩, ⟨.refl _, .refl _, .inl rfl, .refl _, trivial⟩⟩, trivial⟩, a4, a5, a6, a5, a7, a8, a9, by rw [a10]⟩
    show ((nF m : Int) != (nF m : Int)) = false
    simp
end Go.Proofs.YthddkcoflnbjbaaDoor
