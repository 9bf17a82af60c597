/-
  What is proved here: the document's sums in floats are near the sums. the law WavePower's whole run returns true, whatever the list.
-/
import Derived.Test.YthddkcoflnbjbaaDoorQLaw20
import Derived.Test.YthddkcoflnbjbaaDoorQCon33
import Derived.Test.YthddkcoflnbjbaaDoorQCon50
namespace Go.Proofs.YthddkcoflnbjbaaDoor
open Sm Go Go.RowKit Fl Ieee
set_option maxRecDepth 100000
set_option linter.unusedVariables false
theorem fsum_ap2 {t : Nat → Nat} {T : Nat → Rat} {τ B c : Rat} {N : Nat} (ht : ∀ i, i < N → Ap (t i) (T i) τ) (hB : ∀ i, i ≤ N → RS T i ≤ B ∧ -B ≤ RS T i) (hτ : 0 ≤ τ) (hc0 : 0 ≤ c)
    (hc : B + (N : Rat) * (τ + dl c) ≤ c) (hct : c < tp .f64) :
    ∀ n, n ≤ N → (∀ i, i < n → fok .add .f64 (fsum t 0 i) (t i) = true) ∧ Ap (fsum t 0 n) (RS T n) ((n : Rat) * (τ + dl c)) := by
  intro n
  have hdl : 0 ≤ dl c := by
    unfold dl
    have := Rat.mul_nonneg hc0 (show (0 : Rat) ≤ 1 / 9007199254740992 by grind)
    grind
  induction n with
  | zero =>
    intro _
    refine ⟨fun i hi => absurd hi (by omega), ?_⟩
    have h0 : ((0 : Nat) : Rat) = 0 := rfl
    simp only [RS, fsum, h0]
    exact (Ap.of zero_val).le (by grind)
  | succ n ih =>
    intro hn
    obtain ⟨i1, i2⟩ := ih (by omega)
    have ht' := ht n (by omega)
    have hcast : ((n + 1 : Nat) : Rat) = (n : Rat) + 1 := Rat.natCast_add n 1
    have hle : (n : Rat) + 1 ≤ (N : Rat) := by
      rw [← hcast]
      exact Rat.natCast_le_natCast.2 hn
    have m1 := Rat.mul_le_mul_of_nonneg_right hle (show (0 : Rat) ≤ τ + dl c by grind)
    have hR := hB (n + 1) hn
    have hR2 : RS T (n + 1) = RS T n + T n := rfl
    rw [hR2] at hR
    obtain ⟨a1, a2⟩ := i2.add ht' c (by grind) (by grind) hct
    refine ⟨fun i hi => ?_, ?_⟩
    · by_cases h : i < n
      · exact i1 i h
      · obtain rfl : i = n := by omega
        exact a1
    · rw [hcast]
      simp only [RS, fsum]
      exact a2.le (by grind)
theorem pr_ap {x w : Nat × Nat} {X U : Cx} {m : Rat} (hx : CAp x X 0) (hw : CAp w U eW) (hX : Cx.Wi X m) (hU : Cx.Wi U 1) (m0 : 0 ≤ m) (m1 : m ≤ HH) :
    okPr x w ∧ CAp (prRe x w, prIm x w) (Cx.mul X U) (42 / 1000000000000000 * m + 1 / 1000000000000000) := by
  have hh : m ≤ (100000000000000000000000000000000000000000000000000000000000000000000000000000000000000000000000000000000000000 : Rat) := by unfold HH at m1; grind
  have r1 := hX.r1; have r2 := hX.r2; have i1 := hX.i1; have i2 := hX.i2
  obtain ⟨a1, b1, c1, d1⟩ := part_ap hx.re hw.re (w := m) (by grind) (by grind) hU.r1 hU.r2 m0 hh (by grind)
  obtain ⟨a2, b2, c2, d2⟩ := part_ap hx.im hw.im (w := m) (by grind) (by grind) hU.i1 hU.i2 m0 hh (by grind)
  obtain ⟨a3, b3, c3, d3⟩ := part_ap hx.re hw.im (w := m) (by grind) (by grind) hU.i1 hU.i2 m0 hh (by grind)
  obtain ⟨a4, b4, c4, d4⟩ := part_ap hx.im hw.re (w := m) (by grind) (by grind) hU.r1 hU.r2 m0 hh (by grind)
  obtain ⟨k1, s1⟩ := b1.sub b2 ((5 : Rat) * m + 1) (by grind) (by grind) (tp_huge _ (by grind))
  obtain ⟨k2, s2⟩ := b3.add b4 ((5 : Rat) * m + 1) (by grind) (by grind) (tp_huge _ (by grind))
  exact ⟨⟨⟨a1, a2, k1⟩, a3, a4, k2⟩, ⟨s1.le (by unfold dl; grind), s2.le (by unfold dl; grind)⟩⟩
theorem smK_1 (n : Nat) (x w : Nat → Nat × Nat) (k : Nat) : ∀ j, (smK n x w k j).1 = fsum (fun j => prRe (x j) (w (ixK n k j).toNat)) 0 j
  | 0 => rfl
  | j + 1 => by show fbin _ _ _ _ = fbin _ _ _ _; rw [smK_1 n x w k j]
theorem smK_2 (n : Nat) (x w : Nat → Nat × Nat) (k : Nat) : ∀ j, (smK n x w k j).2 = fsum (fun j => prIm (x j) (w (ixK n k j).toNat)) 0 j
  | 0 => rfl
  | j + 1 => by show fbin _ _ _ _ = fbin _ _ _ _; rw [smK_2 n x w k j]
theorem sum_re (T : Nat → Cx) : ∀ n, (Cx.sum T n).re = RS (fun i => (T i).re) n
  | 0 => rfl
  | n + 1 => by show (Cx.sum T n).re + (T n).re = RS _ n + _; rw [sum_re T n]
theorem sum_im (T : Nat → Cx) : ∀ n, (Cx.sum T n).im = RS (fun i => (T i).im) n
  | 0 => rfl
  | n + 1 => by show (Cx.sum T n).im + (T n).im = RS _ n + _; rw [sum_im T n]
theorem twp_near {way : Int} (hw : way = 1 ∨ way = -1) {p : Nat} (hp : p ≤ 12) {k j : Nat} (hk : k < 2 ^ p) (hj : j < 2 ^ p) :
    CAp (twP way (2 ^ p : Nat) (ixK (2 ^ p) k j).toNat) (U4 (way * j * k * exs p)) eW := by
  have hpn : 2 ^ p ≤ 4096 := Nat.pow_le_pow_right (by omega) hp
  have hp0 : 0 < 2 ^ p := Nat.two_pow_pos p
  have hD := exs_all hp
  rw [ixK_eq hpn hk hj, Int.toNat_natCast]
  have hlt := Nat.mod_lt (k * j) hp0
  have hdm := Nat.div_add_mod (k * j) (2 ^ p)
  generalize hi : k * j % 2 ^ p = i at *
  unfold twP
  have hW : W (way * (i : Nat)) = way * (i : Nat) := by
    rcases hw with rfl | rfl
    · exact Wid (by omega) (by omega)
    · exact Wid (by omega) (by omega)
  rw [hW]
  have h1 := turn_near (k := way * (i : Nat)) (n := ((2 ^ p : Nat) : Int)) (D := exs p) (by omega) (by omega) (by rw [Int.mul_comm]; exact hD)
  have h2 : way * (j : Int) * (k : Int) * exs p = way * (i : Nat) * exs p + 4096 * (way * ((k * j / 2 ^ p : Nat) : Int)) := by
    have h3 : (k : Int) * (j : Int) = ((2 ^ p : Nat) : Int) * ((k * j / 2 ^ p : Nat) : Int) + (i : Int) := by
      rw [← Int.natCast_mul, ← Int.natCast_mul, ← Int.natCast_add]
      exact congrArg _ hdm.symm
    generalize ((k * j / 2 ^ p : Nat) : Int) = q at *
    generalize ((2 ^ p : Nat) : Int) = n at *
    generalize exs p = D at *
    have h4 : way * (j : Int) * (k : Int) * D = way * D * ((k : Int) * (j : Int)) := by grind
    rw [h4, h3, ← hD]
    grind
  rw [h2, U4_per]
  exact h1
theorem sm_near {way : Int} (hw : way = 1 ∨ way = -1) {p : Nat} (hp : p ≤ 12) {X : Nat → Nat × Nat} {x : Nat → Cx} {m : Nat → Rat} (hX : ∀ j, j < 2 ^ p → CAp (X j) (x j) 0) (hx : ∀ j, Cx.Wi (x j) (m j)) (hm : ∀ j, m j ≤ HH) :
    okSm (2 ^ p) X (twP way (2 ^ p : Nat)) ∧ ∀ k, k < 2 ^ p → CAp (smL (2 ^ p) X (twP way (2 ^ p : Nat)) k) (dft way x p (k : Nat)) ((2 / 10000000000 : Rat) * RS m (2 ^ p) + (1 / 10000000000 : Rat)) := by
  have hpn : 2 ^ p ≤ 4096 := Nat.pow_le_pow_right (by omega) hp
  have hN : ((2 ^ p : Nat) : Rat) ≤ 4096 := by
    have : ((2 ^ p : Nat) : Rat) ≤ ((4096 : Nat) : Rat) := Rat.natCast_le_natCast.2 hpn
    exact this
  have hN0 : 0 ≤ ((2 ^ p : Nat) : Rat) := Rat.natCast_nonneg
  have m0 : ∀ j, 0 ≤ m j := fun j => (hx j).pos
  have M0 : 0 ≤ RS m (2 ^ p) := RS_nn m0 _
  have MH : RS m (2 ^ p) ≤ 4096 * HH := by
    have h1 := RS_le (T := m) (D := fun _ => HH) (2 ^ p) fun i _ => hm i
    rw [RS_const] at h1
    have h2 := Rat.mul_le_mul_of_nonneg_right hN (show 0 ≤ HH by unfold HH; decide +kernel)
    grind
  have hm1 : ∀ j, j < 2 ^ p → m j ≤ RS m (2 ^ p) := fun j hj => RS_mem m0 hj
  have hpr : ∀ k, k < 2 ^ p → ∀ j, j < 2 ^ p → okPr (X j) (twP way (2 ^ p : Nat) (ixK (2 ^ p) k j).toNat) ∧
      CAp (prRe (X j) (twP way (2 ^ p : Nat) (ixK (2 ^ p) k j).toNat), prIm (X j) (twP way (2 ^ p : Nat) (ixK (2 ^ p) k j).toNat)) (Cx.mul (x j) (U4 (way * j * k * exs p))) (42 / 1000000000000000 * RS m (2 ^ p) + 1 / 1000000000000000) := fun k hk j hj => by
    obtain ⟨a, b⟩ := pr_ap (hX j hj) (twp_near hw hp hk hj) (hx j) (U4_wi _) (m0 j) (hm j)
    have := hm1 j hj
    exact ⟨a, b.le (by grind)⟩
  have hwi : ∀ (k i : Nat), i ≤ 2 ^ p → Cx.Wi (Cx.sum (fun j => Cx.mul (x j) (U4 (way * (j : Nat) * (k : Nat) * exs p))) i) (2 * RS m (2 ^ p)) := fun k i hi => by
    have h := Cx.sum_wi (T := fun j => Cx.mul (x j) (U4 (way * (j : Nat) * (k : Nat) * exs p))) (D := fun j => 2 * m j) i fun j _ => ((hx j).mul (U4_wi _)).le (by grind)
    rw [RS_mul] at h
    have := RS_mono m0 hi
    exact h.le (by grind)
  generalize hMM : RS m (2 ^ p) = M at *
  have hc : ((2 ^ p : Nat) : Rat) * ((42 / 1000000000000000 * M + 1 / 1000000000000000) + dl (3 * M + 1)) ≤ 4096 * ((42 / 1000000000000000 * M + 1 / 1000000000000000) + dl (3 * M + 1)) :=
    Rat.mul_le_mul_of_nonneg_right hN (by unfold dl; grind)
  have htp : 3 * M + 1 < tp .f64 := tp_huge _ (by unfold HH at MH; grind)
  have hA : ∀ k, k < 2 ^ p → ((∀ i, i < 2 ^ p → fok .add .f64 (fsum (fun j => prRe (X j) (twP way (2 ^ p : Nat) (ixK (2 ^ p) k j).toNat)) 0 i) (prRe (X i) (twP way (2 ^ p : Nat) (ixK (2 ^ p) k i).toNat)) = true) ∧
      Ap (fsum (fun j => prRe (X j) (twP way (2 ^ p : Nat) (ixK (2 ^ p) k j).toNat)) 0 (2 ^ p)) (dft way x p (k : Nat)).re ((2 / 10000000000 : Rat) * M + (1 / 10000000000 : Rat))) ∧
      ((∀ i, i < 2 ^ p → fok .add .f64 (fsum (fun j => prIm (X j) (twP way (2 ^ p : Nat) (ixK (2 ^ p) k j).toNat)) 0 i) (prIm (X i) (twP way (2 ^ p : Nat) (ixK (2 ^ p) k i).toNat)) = true) ∧
      Ap (fsum (fun j => prIm (X j) (twP way (2 ^ p : Nat) (ixK (2 ^ p) k j).toNat)) 0 (2 ^ p)) (dft way x p (k : Nat)).im ((2 / 10000000000 : Rat) * M + (1 / 10000000000 : Rat))) := fun k hk => by
    have a := fsum_ap2 (t := fun j => prRe (X j) (twP way (2 ^ p : Nat) (ixK (2 ^ p) k j).toNat)) (T := fun j => (Cx.mul (x j) (U4 (way * (j : Nat) * (k : Nat) * exs p))).re) (τ := 42 / 1000000000000000 * M + 1 / 1000000000000000) (B := 2 * M) (c := 3 * M + 1) (N := 2 ^ p) (fun j hj => (hpr k hk j hj).2.re)
      (fun i hi => by rw [← sum_re]; exact ⟨(hwi k i hi).r1, (hwi k i hi).r2⟩) (by grind) (by grind) (by unfold dl at hc ⊢; grind) htp (2 ^ p) (Nat.le_refl _)
    have b := fsum_ap2 (t := fun j => prIm (X j) (twP way (2 ^ p : Nat) (ixK (2 ^ p) k j).toNat)) (T := fun j => (Cx.mul (x j) (U4 (way * (j : Nat) * (k : Nat) * exs p))).im) (τ := 42 / 1000000000000000 * M + 1 / 1000000000000000) (B := 2 * M) (c := 3 * M + 1) (N := 2 ^ p) (fun j hj => (hpr k hk j hj).2.im)
      (fun i hi => by rw [← sum_im]; exact ⟨(hwi k i hi).i1, (hwi k i hi).i2⟩) (by grind) (by grind) (by unfold dl at hc ⊢; grind) htp (2 ^ p) (Nat.le_refl _)
    rw [← sum_re] at a
    rw [← sum_im] at b
    exact ⟨⟨a.1, a.2.le (by unfold dl at hc ⊢; grind)⟩, b.1, b.2.le (by unfold dl at hc ⊢; grind)⟩
  refine ⟨fun k j hk hj => ⟨(hpr k hk j hj).1, ?_, ?_⟩, fun k hk => ⟨?_, ?_⟩⟩
  · rw [smK_1]; exact (hA k hk).1.1 j hj
  · rw [smK_2]; exact (hA k hk).2.1 j hj
  · show Ap (smK _ _ _ _ _).1 _ _
    rw [smK_1]; exact (hA k hk).1.2
  · show Ap (smK _ _ _ _ _).2 _ _
    rw [smK_2]; exact (hA k hk).2.2
end Go.Proofs.YthddkcoflnbjbaaDoor
namespace Go.Proofs.YthddkcoflnbjbaaDoor
open Sm Go Go.RowKit Fl Ieee
set_option maxRecDepth 100000
set_option linter.unusedVariables false
def BXp : Rat := 100000000000000000000000000000000000000000000000000000000000000000000000000000000000000000000000000000
theorem w1e_val : fnum .f64 w1e100 ∧ fv .f64 w1e100 ≤ BXp := by
  have h := vB_ap (x := w1e100) (by decide +kernel)
  have h2 : vB w1e100 ≤ BXp := by unfold BXp; decide +kernel
  exact ⟨h.num, by have := h.hi; grind⟩
theorem tameP {y : Nat} (h : fle (absW y) w1e100 = true) : fnum .f64 y ∧ ab (fv .f64 y) ≤ BXp := by
  obtain ⟨h1, h2, h3⟩ := abs_le_num w1e_val.1 h
  have hb := w1e_val.2
  exact ⟨h1, ab_le (by grind) (by grind)⟩
theorem k2e9_ap : Ap k2e9 (2 / 1000000000) (1 / 1000000000000000000) := by
  have h := vB_ap (x := k2e9) (by decide +kernel)
  have h1 : vB k2e9 - 2 / 1000000000 ≤ 1 / 1000000000000000000 ∧ 2 / 1000000000 - vB k2e9 ≤ 1 / 1000000000000000000 := by decide +kernel
  exact (h.mv h1.1 h1.2).le (by decide +kernel)
/-! the values, their sizes -/
/-! the bound -/
/-! the runs -/
end Go.Proofs.YthddkcoflnbjbaaDoor
