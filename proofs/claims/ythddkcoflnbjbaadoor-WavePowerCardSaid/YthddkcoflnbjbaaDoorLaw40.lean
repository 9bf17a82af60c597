/-
  What is proved here: the document's sums in floats are near the sums. the law WavePower's whole run returns true, whatever the list. A text to be imported.
-/
import Derived.Test.YthddkcoflnbjbaaDoorLaw20
import Derived.Test.YthddkcoflnbjbaaDoorCon33
import Derived.Test.YthddkcoflnbjbaaDoorLaw22
import Derived.Test.YthddkcoflnbjbaaDoorCon38
namespace Go.Proofs.YthddkcoflnbjbaaDoor
open Sm Go Go.RowKit Fl Ieee
set_option maxRecDepth 100000
set_option linter.unusedVariables false
/-- A chain of sums whose parts lie between bounds. -/
theorem fsum_ap2 {t : Nat → Nat} {T : Nat → Rat} {τ B c : Rat} {N : Nat} (ht : ∀ i, i < N → Ap (t i) (T i) τ) (hB : ∀ i, i ≤ N → RS T i ≤ B ∧ -B ≤ RS T i) (hτ : 0 ≤ τ) (hc0 : 0 ≤ c)
    (hc : B + (N : Rat) * (τ + dl c) ≤ c) (hct : c < tp .f64) :
    ∀ n, n ≤ N → (∀ i, i < n → fok .add .f64 (fsum t 0 i) (t i) = true) ∧ Ap (fsum t 0 n) (RS T n) ((n : Rat) * (τ + dl c)) := by
  intro n
  have hdl : 0 ≤ dl c := by
    unfold dl
    have := Rat.mul_nonneg hc0 (show (0 : Rat) ≤ 1 / 9007199254740992 by grind)
    grind
  induction n with
  | zero =>
    intro _
    refine ⟨fun i hi => absurd hi (by omega), ?_⟩
    have h0 : ((0 : Nat) : Rat) = 0 := rfl
    simp only [RS, fsum, h0]
    exact (Ap.of zero_val).le (by grind)
  | succ n ih =>
    intro hn
    obtain ⟨i1, i2⟩ := ih (by omega)
    have ht' := ht n (by omega)
    have hcast : ((n + 1 : Nat) : Rat) = (n : Rat) + 1 := Rat.natCast_add n 1
    have hle : (n : Rat) + 1 ≤ (N : Rat) := by
      rw [← hcast]
      exact Rat.natCast_le_natCast.2 hn
    have m1 := Rat.mul_le_mul_of_nonneg_right hle (show (0 : Rat) ≤ τ + dl c by grind)
    have hR := hB (n + 1) hn
    have hR2 : RS T (n + 1) = RS T n + T n := rfl
    rw [hR2] at hR
    obtain ⟨a1, a2⟩ := i2.add ht' c (by grind) (by grind) hct
    refine ⟨fun i hi => ?_, ?_⟩
    · by_cases h : i < n
      · exact i1 i h
      · obtain rfl : i = n := by omega
        exact a1
    · rw [hcast]
      simp only [RS, fsum]
      exact a2.le (by grind)
/-- One product of the document. -/
theorem pr_ap {x w : Nat × Nat} {X U : Cx} {m : Rat} (hx : CAp x X 0) (hw : CAp w U eW) (hX : Cx.Wi X m) (hU : Cx.Wi U 1) (m0 : 0 ≤ m) (m1 : m ≤ HH) :
    okPr x w ∧ CAp (prRe x w, prIm x w) (Cx.mul X U) (42 / 1000000000000000 * m + 1 / 1000000000000000) := by
  have hh : m ≤ (100000000000000000000000000000000000000000000000000000000000000000000000000000000000000000000000000000000000000 : Rat) := by unfold HH at m1; grind
  have r1 := hX.r1; have r2 := hX.r2; have i1 := hX.i1; have i2 := hX.i2
  obtain ⟨a1, b1, c1, d1⟩ := part_ap hx.re hw.re (w := m) (by grind) (by grind) hU.r1 hU.r2 m0 hh (by grind)
  obtain ⟨a2, b2, c2, d2⟩ := part_ap hx.im hw.im (w := m) (by grind) (by grind) hU.i1 hU.i2 m0 hh (by grind)
  obtain ⟨a3, b3, c3, d3⟩ := part_ap hx.re hw.im (w := m) (by grind) (by grind) hU.i1 hU.i2 m0 hh (by grind)
  obtain ⟨a4, b4, c4, d4⟩ := part_ap hx.im hw.re (w := m) (by grind) (by grind) hU.r1 hU.r2 m0 hh (by grind)
  obtain ⟨k1, s1⟩ := b1.sub b2 ((5 : Rat) * m + 1) (by grind) (by grind) (tp_huge _ (by grind))
  obtain ⟨k2, s2⟩ := b3.add b4 ((5 : Rat) * m + 1) (by grind) (by grind) (tp_huge _ (by grind))
  exact ⟨⟨⟨a1, a2, k1⟩, a3, a4, k2⟩, ⟨s1.le (by unfold dl; grind), s2.le (by unfold dl; grind)⟩⟩
theorem smK_1 (n : Nat) (x w : Nat → Nat × Nat) (k : Nat) : ∀ j, (smK n x w k j).1 = fsum (fun j => prRe (x j) (w (ixK n k j).toNat)) 0 j
  | 0 => rfl
  | j + 1 => by show fbin _ _ _ _ = fbin _ _ _ _; rw [smK_1 n x w k j]
theorem smK_2 (n : Nat) (x w : Nat → Nat × Nat) (k : Nat) : ∀ j, (smK n x w k j).2 = fsum (fun j => prIm (x j) (w (ixK n k j).toNat)) 0 j
  | 0 => rfl
  | j + 1 => by show fbin _ _ _ _ = fbin _ _ _ _; rw [smK_2 n x w k j]
theorem sum_re (T : Nat → Cx) : ∀ n, (Cx.sum T n).re = RS (fun i => (T i).re) n
  | 0 => rfl
  | n + 1 => by show (Cx.sum T n).re + (T n).re = RS _ n + _; rw [sum_re T n]
theorem sum_im (T : Nat → Cx) : ∀ n, (Cx.sum T n).im = RS (fun i => (T i).im) n
  | 0 => rfl
  | n + 1 => by show (Cx.sum T n).im + (T n).im = RS _ n + _; rw [sum_im T n]
/-- The turning numbers that the document takes. -/
theorem twp_near {way : Int} (hw : way = 1 ∨ way = -1) {p : Nat} (hp : p ≤ 12) {k j : Nat} (hk : k < 2 ^ p) (hj : j < 2 ^ p) :
    CAp (twP way (2 ^ p : Nat) (ixK (2 ^ p) k j).toNat) (U4 (way * j * k * exs p)) eW := by
  have hpn : 2 ^ p ≤ 4096 := Nat.pow_le_pow_right (by omega) hp
  have hp0 : 0 < 2 ^ p := Nat.two_pow_pos p
  have hD := exs_all hp
  rw [ixK_eq hpn hk hj, Int.toNat_natCast]
  have hlt := Nat.mod_lt (k * j) hp0
  have hdm := Nat.div_add_mod (k * j) (2 ^ p)
  generalize hi : k * j % 2 ^ p = i at *
  unfold twP
  have hW : W (way * (i : Nat)) = way * (i : Nat) := by
    rcases hw with rfl | rfl
    · exact Wid (by omega) (by omega)
    · exact Wid (by omega) (by omega)
  rw [hW]
  have h1 := turn_near (k := way * (i : Nat)) (n := ((2 ^ p : Nat) : Int)) (D := exs p) (by omega) (by omega) (by rw [Int.mul_comm]; exact hD)
  have h2 : way * (j : Int) * (k : Int) * exs p = way * (i : Nat) * exs p + 4096 * (way * ((k * j / 2 ^ p : Nat) : Int)) := by
    have h3 : (k : Int) * (j : Int) = ((2 ^ p : Nat) : Int) * ((k * j / 2 ^ p : Nat) : Int) + (i : Int) := by
      rw [← Int.natCast_mul, ← Int.natCast_mul, ← Int.natCast_add]
      exact congrArg _ hdm.symm
    generalize ((k * j / 2 ^ p : Nat) : Int) = q at *
    generalize ((2 ^ p : Nat) : Int) = n at *
    generalize exs p = D at *
    have h4 : way * (j : Int) * (k : Int) * D = way * D * ((k : Int) * (j : Int)) := by grind
    rw [h4, h3, ← hD]
    grind
  rw [h2, U4_per]
  exact h1
theorem sm_near {way : Int} (hw : way = 1 ∨ way = -1) {p : Nat} (hp : p ≤ 12) {X : Nat → Nat × Nat} {x : Nat → Cx} {m : Nat → Rat} (hX : ∀ j, j < 2 ^ p → CAp (X j) (x j) 0) (hx : ∀ j, Cx.Wi (x j) (m j)) (hm : ∀ j, m j ≤ HH) :
    okSm (2 ^ p) X (twP way (2 ^ p : Nat)) ∧ ∀ k, k < 2 ^ p → CAp (smL (2 ^ p) X (twP way (2 ^ p : Nat)) k) (dft way x p (k : Nat)) ((2 / 10000000000 : Rat) * RS m (2 ^ p) + (1 / 10000000000 : Rat)) := by
  have hpn : 2 ^ p ≤ 4096 := Nat.pow_le_pow_right (by omega) hp
  have hN : ((2 ^ p : Nat) : Rat) ≤ 4096 := by
    have : ((2 ^ p : Nat) : Rat) ≤ ((4096 : Nat) : Rat) := Rat.natCast_le_natCast.2 hpn
    exact this
  have hN0 : 0 ≤ ((2 ^ p : Nat) : Rat) := Rat.natCast_nonneg
  have m0 : ∀ j, 0 ≤ m j := fun j => (hx j).pos
  have M0 : 0 ≤ RS m (2 ^ p) := RS_nn m0 _
  have MH : RS m (2 ^ p) ≤ 4096 * HH := by
    have h1 := RS_le (T := m) (D := fun _ => HH) (2 ^ p) fun i _ => hm i
    rw [RS_const] at h1
    have h2 := Rat.mul_le_mul_of_nonneg_right hN (show 0 ≤ HH by unfold HH; decide +kernel)
    grind
  have hm1 : ∀ j, j < 2 ^ p → m j ≤ RS m (2 ^ p) := fun j hj => RS_mem m0 hj
  have hpr : ∀ k, k < 2 ^ p → ∀ j, j < 2 ^ p → okPr (X j) (twP way (2 ^ p : Nat) (ixK (2 ^ p) k j).toNat) ∧
      CAp (prRe (X j) (twP way (2 ^ p : Nat) (ixK (2 ^ p) k j).toNat), prIm (X j) (twP way (2 ^ p : Nat) (ixK (2 ^ p) k j).toNat)) (Cx.mul (x j) (U4 (way * j * k * exs p))) (42 / 1000000000000000 * RS m (2 ^ p) + 1 / 1000000000000000) := fun k hk j hj => by
    obtain ⟨a, b⟩ := pr_ap (hX j hj) (twp_near hw hp hk hj) (hx j) (U4_wi _) (m0 j) (hm j)
    have := hm1 j hj
    exact ⟨a, b.le (by grind)⟩
  have hwi : ∀ (k i : Nat), i ≤ 2 ^ p → Cx.Wi (Cx.sum (fun j => Cx.mul (x j) (U4 (way * (j : Nat) * (k : Nat) * exs p))) i) (2 * RS m (2 ^ p)) := fun k i hi => by
    have h := Cx.sum_wi (T := fun j => Cx.mul (x j) (U4 (way * (j : Nat) * (k : Nat) * exs p))) (D := fun j => 2 * m j) i fun j _ => ((hx j).mul (U4_wi _)).le (by grind)
    rw [RS_mul] at h
    have := RS_mono m0 hi
    exact h.le (by grind)
  generalize hMM : RS m (2 ^ p) = M at *
  have hc : ((2 ^ p : Nat) : Rat) * ((42 / 1000000000000000 * M + 1 / 1000000000000000) + dl (3 * M + 1)) ≤ 4096 * ((42 / 1000000000000000 * M + 1 / 1000000000000000) + dl (3 * M + 1)) :=
    Rat.mul_le_mul_of_nonneg_right hN (by unfold dl; grind)
  have htp : 3 * M + 1 < tp .f64 := tp_huge _ (by unfold HH at MH; grind)
  have hA : ∀ k, k < 2 ^ p → ((∀ i, i < 2 ^ p → fok .add .f64 (fsum (fun j => prRe (X j) (twP way (2 ^ p : Nat) (ixK (2 ^ p) k j).toNat)) 0 i) (prRe (X i) (twP way (2 ^ p : Nat) (ixK (2 ^ p) k i).toNat)) = true) ∧
      Ap (fsum (fun j => prRe (X j) (twP way (2 ^ p : Nat) (ixK (2 ^ p) k j).toNat)) 0 (2 ^ p)) (dft way x p (k : Nat)).re ((2 / 10000000000 : Rat) * M + (1 / 10000000000 : Rat))) ∧
      ((∀ i, i < 2 ^ p → fok .add .f64 (fsum (fun j => prIm (X j) (twP way (2 ^ p : Nat) (ixK (2 ^ p) k j).toNat)) 0 i) (prIm (X i) (twP way (2 ^ p : Nat) (ixK (2 ^ p) k i).toNat)) = true) ∧
      Ap (fsum (fun j => prIm (X j) (twP way (2 ^ p : Nat) (ixK (2 ^ p) k j).toNat)) 0 (2 ^ p)) (dft way x p (k : Nat)).im ((2 / 10000000000 : Rat) * M + (1 / 10000000000 : Rat))) := fun k hk => by
    have a := fsum_ap2 (t := fun j => prRe (X j) (twP way (2 ^ p : Nat) (ixK (2 ^ p) k j).toNat)) (T := fun j => (Cx.mul (x j) (U4 (way * (j : Nat) * (k : Nat) * exs p))).re) (τ := 42 / 1000000000000000 * M + 1 / 1000000000000000) (B := 2 * M) (c := 3 * M + 1) (N := 2 ^ p) (fun j hj => (hpr k hk j hj).2.re)
      (fun i hi => by rw [← sum_re]; exact ⟨(hwi k i hi).r1, (hwi k i hi).r2⟩) (by grind) (by grind) (by unfold dl at hc ⊢; grind) htp (2 ^ p) (Nat.le_refl _)
    have b := fsum_ap2 (t := fun j => prIm (X j) (twP way (2 ^ p : Nat) (ixK (2 ^ p) k j).toNat)) (T := fun j => (Cx.mul (x j) (U4 (way * (j : Nat) * (k : Nat) * exs p))).im) (τ := 42 / 1000000000000000 * M + 1 / 1000000000000000) (B := 2 * M) (c := 3 * M + 1) (N := 2 ^ p) (fun j hj => (hpr k hk j hj).2.im)
      (fun i hi => by rw [← sum_im]; exact ⟨(hwi k i hi).i1, (hwi k i hi).i2⟩) (by grind) (by grind) (by unfold dl at hc ⊢; grind) htp (2 ^ p) (Nat.le_refl _)
    rw [← sum_re] at a
    rw [← sum_im] at b
    exact ⟨⟨a.1, a.2.le (by unfold dl at hc ⊢; grind)⟩, b.1, b.2.le (by unfold dl at hc ⊢; grind)⟩
  refine ⟨fun k j hk hj => ⟨(hpr k hk j hj).1, ?_, ?_⟩, fun k hk => ⟨?_, ?_⟩⟩
  · rw [smK_1]; exact (hA k hk).1.1 j hj
  · rw [smK_2]; exact (hA k hk).2.1 j hj
  · show Ap (smK _ _ _ _ _).1 _ _
    rw [smK_1]; exact (hA k hk).1.2
  · show Ap (smK _ _ _ _ _).2 _ _
    rw [smK_2]; exact (hA k hk).2.2
end Go.Proofs.YthddkcoflnbjbaaDoor
namespace Go.Proofs.YthddkcoflnbjbaaDoor
open Sm Go Go.RowKit Fl Ieee
set_option maxRecDepth 100000
set_option linter.unusedVariables false
def BXp : Rat := 100000000000000000000000000000000000000000000000000000000000000000000000000000000000000000000000000000
theorem BXp_HH : BXp ≤ HH ∧ 0 ≤ BXp ∧ 1000000 ≤ BXp ∧ 1000000000000000000000 * BXp ≤ BXp * BXp ∧ 1000000000 * (100000000 * (BXp * BXp)) ≤ GG := by unfold BXp HH GG; decide +kernel
theorem w1e_val : fnum .f64 w1e100 ∧ fv .f64 w1e100 ≤ BXp := by
  have h := vB_ap (x := w1e100) (by decide +kernel)
  have h2 : vB w1e100 ≤ BXp := by unfold BXp; decide +kernel
  exact ⟨h.num, by have := h.hi; grind⟩
theorem tameP {y : Nat} (h : fle (absW y) w1e100 = true) : fnum .f64 y ∧ ab (fv .f64 y) ≤ BXp := by
  obtain ⟨h1, h2, h3⟩ := abs_le_num w1e_val.1 h
  have hb := w1e_val.2
  exact ⟨h1, ab_le (by grind) (by grind)⟩
theorem k2e9_ap : Ap k2e9 (2 / 1000000000) (1 / 1000000000000000000) := by
  have h := vB_ap (x := k2e9) (by decide +kernel)
  have h1 : vB k2e9 - 2 / 1000000000 ≤ 1 / 1000000000000000000 ∧ 2 / 1000000000 - vB k2e9 ≤ 1 / 1000000000000000000 := by decide +kernel
  exact (h.mv h1.1 h1.2).le (by decide +kernel)
/-! the values, their sizes -/
def vP (n : Nat) (x : Nat → Nat) : Nat → Cx := vC n (p1Y x n)
def aP (n : Nat) (x : Nat → Nat) (j : Nat) : Rat := if j < n then ab (fv .f64 (x j)) else 0
def MP (n : Nat) (x : Nat → Nat) : Rat := RS (aP n x) n
def TmP (n : Nat) (x : Nat → Nat) : Prop := ∀ k, k < n → fle (absW (x k)) w1e100 = true
theorem vP_at {n : Nat} {x : Nat → Nat} {j : Nat} (hj : j < n) : vP n x j = ⟨fv .f64 (x j), 0⟩ := by
  unfold vP vC p1Y
  rw [if_pos hj, if_pos hj]
  exact Cx.ext' rfl zero_val.2
theorem vP_out {n : Nat} {x : Nat → Nat} {j : Nat} (hj : ¬ j < n) : vP n x j = Cx.zero := by
  unfold vP vC
  rw [if_neg hj]
theorem aP0 (n : Nat) (x : Nat → Nat) (j : Nat) : 0 ≤ aP n x j := by
  unfold aP
  split
  · exact (ab_bd _).1
  · exact Rat.le_refl
theorem aP_le {n : Nat} {x : Nat → Nat} (h : TmP n x) (j : Nat) : aP n x j ≤ BXp := by
  unfold aP
  split
  · rename_i hj
    exact (tameP (h j hj)).2
  · exact BXp_HH.2.1
theorem vP_wi (n : Nat) (x : Nat → Nat) (j : Nat) : Cx.Wi (vP n x j) (aP n x j) := by
  by_cases hj : j < n
  · rw [vP_at hj]
    unfold aP
    rw [if_pos hj]
    obtain ⟨a0, a1, a2⟩ := ab_bd (fv .f64 (x j))
    exact ⟨a1, a2, a0, by show -ab (fv .f64 (x j)) ≤ 0; grind⟩
  · rw [vP_out hj]
    unfold aP
    rw [if_neg hj]
    exact ⟨Rat.le_refl, by show _ ≤ (0 : Rat); grind, Rat.le_refl, by show _ ≤ (0 : Rat); grind⟩
theorem MP_bd {n : Nat} {x : Nat → Nat} (hn : n ≤ 4096) (h : TmP n x) : 0 ≤ MP n x ∧ MP n x ≤ 4096 * BXp ∧ ∀ k, k < n → aP n x k ≤ MP n x := by
  refine ⟨RS_nn (aP0 n x) _, ?_, fun k hk => RS_mem (aP0 n x) hk⟩
  have h1 := RS_mono (aP0 n x) hn
  have h2 := RS_le (T := aP n x) (D := fun _ => BXp) 4096 fun i _ => aP_le h i
  rw [RS_const] at h2
  have h3 : ((4096 : Nat) : Rat) = 4096 := rfl
  rw [h3] at h2
  unfold MP
  grind
theorem MP_GG {n : Nat} {x : Nat → Nat} (hn : n ≤ 4096) (h : TmP n x) : 0 ≤ MP n x * MP n x ∧ 1000000000 * (MP n x * MP n x + 2 * MP n x + 1) ≤ GG := by
  obtain ⟨a, b, _⟩ := MP_bd hn h
  obtain ⟨_, c0, c1, c2, c3⟩ := BXp_HH
  generalize MP n x = M at *
  have h1 := rmul_le (a := M) (b := M) (A := 4096 * BXp) (B := 4096 * BXp) (by grind) (by grind) b (by grind) b (by grind)
  have h2 := Rat.mul_nonneg a a
  exact ⟨h2, by grind⟩
/-- A list of real numbers: its sums lie within the sum of the sizes. -/
theorem dftP_wi (n : Nat) (x : Nat → Nat) (p : Nat) (hn : n = 2 ^ p) (k : Int) : Cx.Wi (dft 1 (vP n x) p k) (MP n x) := by
  have h := Cx.sum_wi (T := fun i => Cx.mul (vP n x i) (U4 (1 * i * k * exs p))) (D := aP n x) (2 ^ p) fun i _ => by
    have hu := U4_wi (1 * (i : Int) * k * exs p)
    generalize U4 (1 * (i : Int) * k * exs p) = U at *
    have hw := vP_wi n x i
    by_cases hi : i < n
    · rw [vP_at hi] at hw ⊢
      have a := rmul_le (a := fv .f64 (x i)) (b := U.re) (A := aP n x i) (B := 1) (aP0 n x i) (by grind) hw.r1 hw.r2 hu.r1 hu.r2
      have b := rmul_le (a := fv .f64 (x i)) (b := U.im) (A := aP n x i) (B := 1) (aP0 n x i) (by grind) hw.r1 hw.r2 hu.i1 hu.i2
      exact ⟨by simp only [Cx.mul]; grind, by simp only [Cx.mul]; grind, by simp only [Cx.mul]; grind, by simp only [Cx.mul]; grind⟩
    · rw [vP_out hi]
      have := aP0 n x i
      exact ⟨by simp only [Cx.mul, Cx.zero]; grind, by simp only [Cx.mul, Cx.zero]; grind, by simp only [Cx.mul, Cx.zero]; grind, by simp only [Cx.mul, Cx.zero]; grind⟩
  unfold MP
  rw [hn] at h ⊢
  exact h
/-- A power. -/
theorem pw_near {Y : Nat × Nat} {z : Cx} {M : Rat} (hY : CAp Y z (2 / 10000000000 * M + 1 / 10000000000)) (hw : Cx.Wi z M) (M0 : 0 ≤ M) (S0 : 0 ≤ M * M) (S1 : 1000000000 * (M * M + 2 * M + 1) ≤ GG) :
    okPw Y ∧ Ap (pwW Y) (Cx.nrm z) (82 / 100000000000 * (M * M + 2 * M + 1)) ∧ Cx.nrm z ≤ 2 * (M * M) ∧ 0 ≤ Cx.nrm z := by
  have hn := nrm_nn z
  have hsq1 := rmul_le (a := z.re) (b := z.re) (A := M) (B := M) M0 M0 hw.r1 hw.r2 hw.r1 hw.r2
  have hsq2 := rmul_le (a := z.im) (b := z.im) (A := M) (B := M) M0 M0 hw.i1 hw.i2 hw.i1 hw.i2
  unfold pwW okPw
  have hnr : Cx.nrm z = z.re * z.re + z.im * z.im := rfl
  rw [hnr] at hn ⊢
  obtain ⟨k1, a1⟩ := hY.re.mul hY.re (U := M) (V := M) hw.r1 hw.r2 hw.r1 hw.r2 (2 * (M * M) + 2 * M + 1) (by grind) (tp_GG _ (by grind))
  obtain ⟨k2, a2⟩ := hY.im.mul hY.im (U := M) (V := M) hw.i1 hw.i2 hw.i1 hw.i2 (2 * (M * M) + 2 * M + 1) (by grind) (tp_GG _ (by grind))
  have a1' := a1.le (e' := 405 / 1000000000000 * (M * M + 2 * M + 1)) (by unfold dl; grind)
  have a2' := a2.le (e' := 405 / 1000000000000 * (M * M + 2 * M + 1)) (by unfold dl; grind)
  obtain ⟨k3, a3⟩ := a1'.add a2' (4 * (M * M) + 2 * M + 1) (by grind) (by grind) (tp_GG _ (by grind))
  exact ⟨⟨k1, k2, k3⟩, a3.le (by unfold dl; grind), by grind, hn⟩
theorem pw_pos {Y : Nat × Nat} {z : Cx} {M : Rat} (hY : CAp Y z (2 / 10000000000 * M + 1 / 10000000000)) (hw : Cx.Wi z M) (M0 : 0 ≤ M) (S0 : 0 ≤ M * M) (S1 : 1000000000 * (M * M + 2 * M + 1) ≤ GG) : 0 ≤ fv .f64 (pwW Y) := by
  have one : ∀ (a : Nat) (v : Rat), Ap a v (2 / 10000000000 * M + 1 / 10000000000) → v ≤ M → -M ≤ v → fnum .f64 (fbin .mul .f64 a a) ∧ 0 ≤ fv .f64 (fbin .mul .f64 a a) ∧ fv .f64 (fbin .mul .f64 a a) ≤ 5 * (M * M + 2 * M + 1) := fun a v ha h1 h2 => by
    have e1 := ha.hi; have e2 := ha.lo
    have hb := rmul_le (a := fv .f64 a) (b := fv .f64 a) (A := 2 * M + 1) (B := 2 * M + 1) (by grind) (by grind) (by grind) (by grind) (by grind) (by grind)
    have hn := sq_nn (fv .f64 a)
    have g1 := tp_GG (4 * (M * M) + 4 * M + 1) (by grind)
    obtain ⟨_, r⟩ := fbin_mul ha.num ha.num (by grind) (by have := tp_pos; grind)
    have hge := r.ge 0 rep0 hn
    obtain ⟨k, a2⟩ := ha.mul ha (U := M) (V := M) h1 h2 h1 h2 (2 * (M * M) + 2 * M + 1) (by grind) (tp_GG _ (by grind))
    have h3 := a2.hi
    have hv := rmul_le (a := v) (b := v) (A := M) (B := M) M0 M0 h1 h2 h1 h2
    exact ⟨r.num, hge, by unfold dl at h3; grind⟩
  obtain ⟨n1, p1, q1⟩ := one Y.1 z.re hY.re hw.r1 hw.r2
  obtain ⟨n2, p2, q2⟩ := one Y.2 z.im hY.im hw.i1 hw.i2
  have g2 := tp_GG (10 * (M * M + 2 * M + 1)) (by grind)
  obtain ⟨_, r⟩ := fbin_add n1 n2 (by grind) (by have := tp_pos; grind)
  exact r.ge 0 rep0 (by grind)
/-! the bound -/
theorem sP_near {n : Nat} {x : Nat → Nat} (hn : n ≤ 4096) (h : TmP n x) : (∀ i, i < n → fok .add .f64 (fsum (fun j => absW (x j)) 0 i) (absW (x i)) = true) ∧ Ap (fsum (fun j => absW (x j)) 0 n) (MP n x) (1 / 1000000000000 * (1 + MP n x)) := by
  obtain ⟨M0, M1, M2⟩ := MP_bd hn h
  obtain ⟨S0, S1⟩ := MP_GG hn h
  have hN : (n : Rat) ≤ 4096 := Rat.natCast_le_natCast.2 hn
  have hN0 : 0 ≤ (n : Rat) := Rat.natCast_nonneg
  have hM : RS (aP n x) n = MP n x := rfl
  have hc := Rat.mul_le_mul_of_nonneg_right hN (show 0 ≤ 0 + dl (2 * MP n x + 1) by unfold dl; grind)
  have := fsum_ap2 (t := fun i => absW (x i)) (T := aP n x) (τ := 0) (B := MP n x) (c := 2 * MP n x + 1) (N := n) (fun i hi => by
      unfold aP
      rw [if_pos hi]
      exact ab_ap (tameP (h i hi)).1) (fun i hi => by
      have h1 := RS_mono (aP0 n x) hi
      have h2 := RS_nn (aP0 n x) i
      rw [hM] at h1
      constructor <;> grind) (by grind) (by grind) (by unfold dl at hc ⊢; grind) (tp_GG _ (by grind)) n (Nat.le_refl _)
  rw [hM] at this
  exact ⟨this.1, this.2.le (by unfold dl at hc ⊢; grind)⟩
theorem bdP_ok {s : Nat} {M : Rat} (hs : Ap s M (1 / 1000000000000 * (1 + M))) (M0 : 0 ≤ M) (S0 : 0 ≤ M * M) (S1 : 1000000000 * (M * M + 2 * M + 1) ≤ GG) : okBd s True ∧ fnum .f64 (bdP s) ∧ 19 / 10000000000 * (M * M + 2 * M + 1) ≤ fv .f64 (bdP s) := by
  obtain ⟨q1, b⟩ := one_ap.add hs (2 * M + 2) (by grind) (by grind) (tp_GG _ (by grind))
  have b' := b.le (e' := 1 / 100000000000 * (1 + M)) (by unfold dl; grind)
  obtain ⟨q2, c⟩ := k2e9_ap.mul b' (U := 2 / 1000000000) (V := 1 + M) (by grind) (by grind) (by grind) (by grind) (M + 1) (by grind) (tp_GG _ (by grind))
  have c' := c.le (e' := 1 / 100000000000 * (1 / 1000) * (1 + M)) (by unfold dl; grind)
  have sq : 0 ≤ (1 + M) * (1 + M) := Rat.mul_nonneg (by grind) (by grind)
  obtain ⟨q3, d⟩ := c'.mul b' (U := 2 / 1000000000 * (1 + M)) (V := 1 + M) (by grind) (by grind) (by grind) (by grind) (M * M + 2 * M + 1) (by grind) (tp_GG _ (by grind))
  refine ⟨⟨q1, q2, q1, q3, trivial⟩, d.num, ?_⟩
  have := d.lo
  have e : fv .f64 (bdP s) = fv .f64 (fbin .mul .f64 (fbin .mul .f64 k2e9 (fbin .add .f64 k1 s)) (fbin .add .f64 k1 s)) := rfl
  rw [e]
  have e2 : k1 = kOne := rfl
  rw [e2]
  unfold dl at this
  grind
theorem flt_pos {y : Nat} (hy : fnum .f64 y) (h : 0 ≤ fv .f64 y) : flt y 0 = false := by
  have h1 := lt_iff hy zero_val.1
  rw [zero_val.2] at h1
  unfold flt
  cases hc : FloatKind.f64.format.order y 0 == some .lt with
  | false => rfl
  | true => have := h1.1 hc; grind
theorem nq_self {y : Nat} (hy : fnum .f64 y) : nq y y = false := by
  have h := (order_val hy hy).2.1.2 rfl
  unfold nq
  rw [show FloatKind.f64.format.order y y = some .eq from h]
  rfl
theorem p1_pX (n : Nat) (x : Nat → Nat) : p1Y (pX n x) n = p1Y x n := by
  funext k
  unfold p1Y
  split
  · rename_i h
    rw [pX_lt h]
  · rfl
/-- What the run asks of tame lists. -/
theorem pow_ok {p : Nat} (hp : p ≤ 12) {x : Nat → Nat} (h : TmP (2 ^ p) x) : okRP (2 ^ p) x ∧ okPow (2 ^ p) (pX (2 ^ p) x) ∧ okPc (2 ^ p) (fsum (fun j => absW (x j)) 0 (2 ^ p)) (rpW (2 ^ p) x) (yT (2 ^ p) x) ∧ ∀ i, i < 2 ^ p → flt (yT (2 ^ p) x i) 0 = false := by
  have hn : 2 ^ p ≤ 4096 := Nat.pow_le_pow_right (by omega) hp
  obtain ⟨M0, M1, M2⟩ := MP_bd hn h
  obtain ⟨S0, S1⟩ := MP_GG hn h
  have hHH : ∀ j, aP (2 ^ p) x j ≤ HH := fun j => by
    have := aP_le h j
    have := BXp_HH.1
    grind
  have hnum : ∀ j, j < 2 ^ p → fnum .f64 (p1Y x (2 ^ p) j).1 ∧ fnum .f64 (p1Y x (2 ^ p) j).2 := fun j hj => by
    unfold p1Y
    rw [if_pos hj]
    exact ⟨(tameP (h j hj)).1, zero_val.1⟩
  obtain ⟨t1, t2⟩ := tr_words (way := 1) (.inl rfl) hp (X := p1Y x (2 ^ p)) (m := aP (2 ^ p) x) hnum (vP_wi (2 ^ p) x) hHH
  obtain ⟨s1, s2⟩ := sm_near (way := 1) (.inl rfl) hp (X := x0 x) (x := vP (2 ^ p) x) (m := aP (2 ^ p) x) (fun j hj => by
    rw [vP_at hj]
    exact ⟨Ap.self (tameP (h j hj)).1, Ap.of zero_val⟩) (vP_wi (2 ^ p) x) hHH
  have hlog : (2 ^ p).log2 = p := Nat.log2_two_pow
  have hpY : ∀ k, pY (2 ^ p) (pX (2 ^ p) x) k = trY 1 p (p1Y x (2 ^ p)) k := fun k => by
    unfold pY
    rw [p1_pX, hlog]
  have hA : ∀ k, k < 2 ^ p → okPw (pY (2 ^ p) (pX (2 ^ p) x) k) ∧ okPw (smL (2 ^ p) (x0 x) (twP 1 (2 ^ p : Nat)) k) ∧ fnum .f64 (yT (2 ^ p) x k) ∧ 0 ≤ fv .f64 (yT (2 ^ p) x k) ∧
      ∃ z : Rat, Ap (yT (2 ^ p) x k) z (82 / 100000000000 * (MP (2 ^ p) x * MP (2 ^ p) x + 2 * MP (2 ^ p) x + 1)) ∧ Ap (rpW (2 ^ p) x k) z (82 / 100000000000 * (MP (2 ^ p) x * MP (2 ^ p) x + 2 * MP (2 ^ p) x + 1)) := fun k hk => by
    have hw := dftP_wi (2 ^ p) x p rfl (k : Nat)
    have e1 := t2 k hk
    have e2 := s2 k hk
    have hR : RS (aP (2 ^ p) x) (2 ^ p) = MP (2 ^ p) x := rfl
    rw [hR] at e1 e2
    obtain ⟨a1, a2, a3, a4⟩ := pw_near e1 hw M0 S0 S1
    obtain ⟨b1, b2, b3, b4⟩ := pw_near e2 hw M0 S0 S1
    have hy : yT (2 ^ p) x k = pwW (trY 1 p (p1Y x (2 ^ p)) k) := by unfold yT; rw [hpY]
    rw [hpY, hy]
    exact ⟨a1, b1, a2.num, pw_pos e1 hw M0 S0 S1, _, a2, b2⟩
  have hs := (sP_near hn h).2
  obtain ⟨g1, g2, g3⟩ := bdP_ok hs M0 S0 S1
  refine ⟨⟨fit_pow hp, s1, fun k hk => (hA k hk).2.1⟩, ⟨⟨p, hp, rfl, by rw [p1_pX]; exact t1⟩, fun k hk => (hA k hk).1⟩, ⟨g1, fun i hi => ?_⟩, fun i hi => flt_pos (hA i hi).2.2.1 (hA i hi).2.2.2.1⟩
  obtain ⟨_, _, y1, y2, z, c1, c2⟩ := hA i hi
  obtain ⟨d1, d2⟩ := within_ok (B := 0) c1 c2 g2 (170 / 100000000000 * (MP (2 ^ p) x * MP (2 ^ p) x + 2 * MP (2 ^ p) x + 1)) (by grind) (by grind) (tp_GG _ (by grind)) (by unfold dl; grind)
  refine ⟨d1, ?_⟩
  unfold badP
  rw [d2, flt_pos y1 y2, nq_self y1]
  rfl
/-! the runs -/
theorem tmB_true {n : Nat} {x : Nat → Nat} : ∀ i, tmB n x i = true → ∀ j, j < i → j < n → fle (absW (x j)) w1e100 = true
  | 0, _, j, h, _ => by omega
  | i + 1, ht, j, hj, hn => by
    have ht' : (bif Nat.blt i n then (bif tmB n x i then fle (absW (x i)) w1e100 else false) else tmB n x i) = true := ht
    by_cases hin : i < n
    · rw [blt_t hin] at ht'
      cases hb : tmB n x i with
      | false => rw [hb] at ht'; cases ht'
      | true =>
        rw [hb] at ht'
        by_cases hji : j < i
        · exact tmB_true i hb j hji hn
        · obtain rfl : j = i := by omega
          exact ht'
    · rw [blt_f (by omega)] at ht'
      exact tmB_true i ht' j (by omega) hn
theorem okE_of {n : Nat} (hn : n ≤ 4096) {r : Prop} (hr : r) : okE n r := by
  have h : ∀ k m, k ≤ 8 → m = n + k → okE1 n k m := fun k m hk hm => ⟨by decide, by omega, Nat.le_refl _, by omega, by show n + k + 1 ≤ 9223372036854775807; omega⟩
  exact ⟨h 0 _ (by omega) (by omega), h 1 _ (by omega) (by omega), h 2 _ (by omega) (by omega), h 3 _ (by omega) (by omega), h 4 _ (by omega) (by omega), h 5 _ (by omega) (by omega), h 6 _ (by omega) (by omega), h 7 _ (by omega) (by omega), h 8 _ (by omega) (by omega), hr⟩
theorem isL_x (n : Nat) (x : Nat → Nat) : isL n n (fF x) := ⟨Nat.le_refl _, fun k _ => rfl⟩
theorem isL_pX (n : Nat) (x : Nat → Nat) : isL n (n + 8) (fF (pX n x)) := ⟨by omega, fun k _ => rfl⟩
theorem end13 {n : Nat} (hn : n ≤ 4096) : some (Value.bool (((n + 9 : Nat) : Int) == W ((n : Int) + 9))) = some (.bool true) := by
  rw [Wid (by omega) (by omega), show ((n + 9 : Nat) : Int) = (n : Int) + 9 by omega, beq_self_eq_true]
theorem neqs (n : Nat) : (bif ((n : Int) != n) then true else ((n : Int) != n)) = false := by simp
theorem pow_run (n : Nat) (x : Nat → Nat) (hz : n * 8 ≤ 140737488351232) : ∃ F, FnsOk Tryd.prog F ∧ ∃ orc, runK Tryd.prog Tg F 900 Tryd.f13 [xF n x] [deadB] orc (fun r _ => resW r = some (.bool true)) := by
  have hbig : n ≤ bigN := by unfold bigN; omega
  have h8 : n * 8 ≤ 140737488355328 ∧ n ≤ maxLen := ⟨by omega, by show n ≤ 9223372036854775807; omega⟩
  have hb : 0 ≤ (n : Int) ∧ (n : Int) ≤ (n + 8 : Nat) := ⟨by omega, by omega⟩
  cases hf : fitB n with
  | false =>
    refine ⟨F13N n x (tmB n x (n + 8)) True True, (((FAkok.addG gcon29n).addG gcon23n).addGrow 0 (a := 2) (b0 := deadB) rfl rfl fun _ => loop13a (by omega)).addKeep 1 fun _ => loop13bU hbig (sameV.refl _), [.l 0, .l 1], ?_⟩
    exact of_run (run13N n x _ _ _ _) ⟨h8, rfl, ⟨start13_ok n x, trivial⟩, ⟨⟨trivial, trivial⟩, hf⟩, hb, ⟨⟨trivial, trivial⟩, isL_pX n x, hf, hbig⟩, hb, ⟨⟨trivial, trivial⟩, isL_pX n x, hf, hbig⟩, rfl, ⟨⟨rfl, ⟨rfl, rfl, rfl, rfl, rfl, rfl, rfl, rfl, trivial⟩, startBs.refl _⟩, trivial⟩, rfl⟩
  | true =>
    obtain ⟨p, hp, rfl⟩ := fit_is hf
    have hn : 2 ^ p ≤ 4096 := Nat.pow_le_pow_right (by omega) hp
    cases ht : tmB (2 ^ p) x (2 ^ p + 8) with
    | false =>
      refine ⟨F13U (2 ^ p) x True True True True True, (((((((FAkok.addG gcon29U).addG gcon23U).addGrow 0 (a := 2) (b0 := deadB) rfl rfl fun _ => loop13a (by omega)).addKeep 1 fun _ => loop13bU hbig (by rw [ht]; rfl)).addKeep 2 fun _ => loopcU hn).addKeep 3 fun _ => loopd hn).addKeep 4 fun _ => loopfU hn), sgU, ?_⟩
      exact of_run (run13U _ x _ _ _ _ _ _) ⟨h8, rfl, ⟨start13_ok _ x, trivial⟩, ⟨⟨trivial, trivial⟩, isL_x _ x, hf⟩, hb, ⟨⟨trivial, trivial⟩, isL_pX _ x, hf⟩, hb, ⟨⟨trivial, trivial⟩, isL_pX _ x, hf⟩, neqs _, rfl, ⟨⟨rfl, ⟨rfl, rfl, rfl, rfl, rfl, rfl, rfl, rfl, trivial⟩, startBs.refl _⟩, trivial⟩, rfl, ⟨⟨rfl, ⟨rfl, rfl, rfl, rfl, rfl, rfl, trivial⟩, startBs.refl _⟩, trivial⟩, rfl, ⟨⟨rfl, ⟨rfl, rfl, rfl, rfl, rfl, trivial⟩, startBs.refl _⟩, trivial⟩, okE_of hn ⟨rfl, ⟨⟨rfl, ⟨rfl, rfl, rfl, rfl, rfl, trivial⟩, startBs.refl _⟩, trivial⟩, end13 hn⟩⟩
    | true =>
      have htm : TmP (2 ^ p) x := fun k hk => tmB_true _ ht k (by omega) hk
      obtain ⟨o1, o2, o3, o4⟩ := pow_ok hp htm
      refine ⟨F13T (2 ^ p) x (fsum (fun j => absW (x j)) 0 (2 ^ p)) True True True True True, (((((((FAkok.addG gcon29).addG gcon23L).addGrow 0 (a := 2) (b0 := deadB) rfl rfl fun _ => loop13a (by omega)).addKeep 1 fun _ => loop13bT hbig htm (sP_near hn htm).1).addKeep 2 fun _ => loopcT hn o3).addKeep 3 fun _ => loopd hn).addKeep 4 fun _ => loopfT hn o4), sgU, ?_⟩
      exact of_run (run13T _ _ x _ _ _ _ _ _) ⟨h8, rfl, ⟨start13_ok _ x, trivial⟩, ⟨⟨trivial, trivial⟩, isL_x _ x, o1⟩, hb, ⟨⟨trivial, trivial⟩, isL_pX _ x, o2⟩, hb, ⟨⟨trivial, trivial⟩, isL_pX _ x, o2⟩, neqs _, rfl, ⟨⟨rfl, ⟨rfl, rfl, rfl, rfl, rfl, rfl, rfl, rfl, trivial⟩, startBs.refl _⟩, trivial⟩, rfl, ⟨⟨rfl, ⟨rfl, rfl, rfl, rfl, rfl, rfl, trivial⟩, startBs.refl _⟩, trivial⟩, rfl, ⟨⟨rfl, ⟨rfl, rfl, rfl, rfl, rfl, trivial⟩, startBs.refl _⟩, trivial⟩, okE_of hn ⟨rfl, ⟨⟨rfl, ⟨rfl, rfl, rfl, rfl, rfl, trivial⟩, startBs.refl _⟩, trivial⟩, end13 hn⟩⟩
end Go.Proofs.YthddkcoflnbjbaaDoor
