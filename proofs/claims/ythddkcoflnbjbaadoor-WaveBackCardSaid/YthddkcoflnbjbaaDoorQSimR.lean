/-
  What is proved here: float operations of the abstract evaluator by what they stand for. whole parts of floats, the greater and the smaller of two, comparisons, by what they stand for. A text to be imported.
-/
import Derived.Test.YthddkcoflnbjbaaDoorQSimO
import Derived.Test.YthddkcoflnbjbaaDoorQSimFl
namespace Sm
open Go Go.RowKit Fl
abbrev fnum (k : FloatKind) (x : Nat) : Prop := Fl.num k.format x
abbrev fv (k : FloatKind) (x : Nat) : Rat := Fl.vl k.format x
theorem eb_ok (k : FloatKind) : 2 ≤ k.format.exponentBits := by cases k <;> decide
def tp (k : FloatKind) : Rat := pw (topE k.format)
theorem top64 : topE FloatKind.f64.format = ((1023 : Nat) : Int) := by kernel_rfl
theorem top32 : topE FloatKind.f32.format = ((127 : Nat) : Int) := by kernel_rfl
theorem tp_ge (k : FloatKind) : (1099511627776 : Rat) ≤ tp k := by
  have h := pw_nat 40
  rw [show (2 ^ 40 : Nat) = 1099511627776 from rfl, Rat.natCast_ofNat] at h
  rw [← h]
  unfold tp
  cases k
  · rw [top32]; exact pw_mono (by decide)
  · rw [top64]; exact pw_mono (by decide)
theorem lp0 (k : FloatKind) : k.format.leastPlace ≤ 0 := by cases k <;> decide
theorem fbin_add {k : FloatKind} {x y : Nat} (hx : fnum k x) (hy : fnum k y) (h1 : fv k x + fv k y < tp k) (h2 : -tp k < fv k x + fv k y) : fok .add k x y = true ∧ Rnd k.format (fbin .add k x y) (fv k x + fv k y) := by
  obtain ⟨r, hr, h⟩ := add_rnd (eb_ok k) hx hy h1 h2
  unfold fok fbin floatBits?
  rw [hr]
  exact ⟨rfl, h⟩
theorem fbin_sub {k : FloatKind} {x y : Nat} (hx : fnum k x) (hy : fnum k y) (h1 : fv k x - fv k y < tp k) (h2 : -tp k < fv k x - fv k y) : fok .sub k x y = true ∧ Rnd k.format (fbin .sub k x y) (fv k x - fv k y) := by
  obtain ⟨r, hr, h⟩ := sub_rnd (eb_ok k) hx hy h1 h2
  unfold fok fbin floatBits?
  rw [hr]
  exact ⟨rfl, h⟩
theorem fbin_mul {k : FloatKind} {x y : Nat} (hx : fnum k x) (hy : fnum k y) (h1 : fv k x * fv k y < tp k) (h2 : -tp k < fv k x * fv k y) : fok .mul k x y = true ∧ Rnd k.format (fbin .mul k x y) (fv k x * fv k y) := by
  obtain ⟨r, hr, h⟩ := mul_rnd (eb_ok k) hx hy h1 h2
  unfold fok fbin floatBits?
  rw [hr]
  exact ⟨rfl, h⟩
theorem fbin_quo {k : FloatKind} {x y : Nat} (hx : fnum k x) (hy : fnum k y) (h0 : fv k y ≠ 0) (h1 : fv k x / fv k y < tp k) (h2 : -tp k < fv k x / fv k y) : fok .quo k x y = true ∧ Rnd k.format (fbin .quo k x y) (fv k x / fv k y) := by
  obtain ⟨r, hr, h⟩ := div_rnd (eb_ok k) hx hy h0 h1 h2
  unfold fok fbin floatBits?
  rw [hr]
  exact ⟨rfl, h⟩
theorem fint {k : FloatKind} (n : Int) (h1 : (n : Rat) < tp k) (h2 : -tp k < (n : Rat)) : Rnd k.format (k.nearest n) (n : Rat) := ofInt_rnd (eb_ok k) n h1 h2
end Sm
namespace Sm
open Go Go.RowKit Fl Ieee
theorem cut_dz {way : Toward} (hw : way = .down ∨ way = .zero) (n d : Nat) : way.cut false n d = n / (1 <<< min d (n.log2 + 2)) := by
  rcases hw with rfl | rfl <;> simp [Toward.cut]
theorem cut_zero {way : Toward} (hw : way = .down ∨ way = .zero) (s : Bool) (d : Nat) : way.cut s 0 d = 0 := by
  rcases hw with rfl | rfl <;> simp [Toward.cut]
theorem cut_bounds {way : Toward} (hw : way = .down ∨ way = .zero) (n d : Nat) : way.cut false n d * 2 ^ d ≤ n ∧ n < (way.cut false n d + 1) * 2 ^ d := by
  rw [cut_dz hw, Nat.one_shiftLeft]
  by_cases h : d ≤ n.log2 + 2
  · rw [Nat.min_eq_left h]
    have hp : 0 < 2 ^ d := Nat.two_pow_pos _
    exact ⟨Nat.div_mul_le_self _ _, by rw [Nat.add_mul, Nat.one_mul]; exact Nat.lt_div_mul_add hp⟩
  · rw [Nat.min_eq_right (by omega)]
    have h1 : n < 2 ^ (n.log2 + 2) := Nat.lt_of_lt_of_le Nat.lt_log2_self (Nat.pow_le_pow_right (by omega) (by omega))
    have h2 : n < 2 ^ d := Nat.lt_of_lt_of_le h1 (Nat.pow_le_pow_right (by omega) (by omega))
    rw [Nat.div_eq_of_lt h1]
    omega
theorem trunc_val {k : FloatKind} {x : Nat} (hx : fnum k x) (h0 : 0 ≤ fv k x) :
    ∃ (s : Bool) (c : Nat), (c : Rat) ≤ fv k x ∧ fv k x < (c : Rat) + 1 ∧ (s = true → c = 0) ∧ ∀ way, way = .down ∨ way = .zero → (k.decode x).integral way = .number s c 0 := by
  obtain ⟨s, m, p, hr⟩ := hx
  have hv : fv k x = sg s * m * pw p := by
    show dv (k.format.read x) = _
    rw [hr]
    rfl
  have hd : k.decode x = .number s m p := hr
  cases s with
  | true =>
    have hm : m = 0 := by
      refine Classical.byContradiction fun hm => ?_
      have hp := pw_pos p
      have hm1 : (1 : Rat) ≤ (m : Rat) := by
        have : ((1 : Nat) : Rat) ≤ (m : Rat) := Rat.natCast_le_natCast.2 (by omega)
        simpa using this
      have h3 : (0 : Rat) < (m : Rat) * pw p := Rat.mul_pos (by grind) hp
      rw [hv] at h0
      simp only [sg, if_true] at h0
      grind
    subst hm
    have e0 : fv k x = 0 := by rw [hv]; simp
    have e1 : ((0 : Nat) : Rat) = 0 := by simp
    refine ⟨true, 0, ?_, ?_, fun _ => rfl, fun way hw => ?_⟩
    · rw [e0, e1]; exact Rat.le_refl
    · rw [e0, e1]; grind
    · rw [hd]
      simp only [Datum.integral, Nat.zero_shiftLeft, cut_zero hw]
  | false =>
    refine ⟨false, Toward.down.cut false (m <<< p.toNat) (-p).toNat, ?_, ?_, (fun h => by cases h), fun way hw => ?_⟩
    rotate_left 2
    · rw [hd]
      simp only [Datum.integral, cut_dz hw, cut_dz (.inl rfl)]
    all_goals
      obtain ⟨b1, b2⟩ := cut_bounds (way := .down) (.inl rfl) (m <<< p.toNat) (-p).toNat
      generalize Toward.down.cut false (m <<< p.toNat) (-p).toNat = c at *
      have hpp : pw p * pw ((-p).toNat : Int) = pw (p.toNat : Int) := by
        rw [← pw_add]
        congr 1
        omega
      have hn : ((m <<< p.toNat : Nat) : Rat) = (m : Rat) * pw (p.toNat : Int) := by
        rw [Nat.shiftLeft_eq, Rat.natCast_mul, pw_nat]
      have hpos := pw_pos ((-p).toNat : Int)
      have c1 : ((c * 2 ^ (-p).toNat : Nat) : Rat) ≤ ((m <<< p.toNat : Nat) : Rat) := Rat.natCast_le_natCast.2 b1
      have c2 : ((m <<< p.toNat : Nat) : Rat) < (((c + 1) * 2 ^ (-p).toNat : Nat) : Rat) := Rat.natCast_lt_natCast.2 b2
      rw [Rat.natCast_mul, ← pw_nat, hn, ← hpp] at c1 c2
      have hv1 : fv k x = (m : Rat) * pw p := by rw [hv]; simp only [sg, Bool.false_eq_true, if_false]; grind
      rw [hv1]
      have e1 : (m : Rat) * (pw p * pw ((-p).toNat : Int)) = ((m : Rat) * pw p) * pw ((-p).toNat : Int) := by grind
      rw [e1] at c1 c2
    · exact Rat.le_of_mul_le_mul_right c1 hpos
    · refine Rat.not_le.1 fun hle => ?_
      have := Rat.mul_le_mul_of_nonneg_right hle (Rat.le_of_lt hpos)
      have h4 : ((c + 1 : Nat) : Rat) = (c : Rat) + 1 := by simp
      rw [h4] at c2
      grind
theorem rep_nat {k : FloatKind} {c : Nat} (hc : c ≤ 16777216) : rep k.format (c : Rat) := by
  have hp : 16777216 ≤ 2 ^ (k.format.fractionBits + 1) := by cases k <;> decide
  have h := rep_int (f := k.format) (lp0 k) (n := (c : Int)) (Int.le_trans (Int.neg_nonpos_of_nonneg (Int.natCast_nonneg _)) (Int.natCast_nonneg _)) (Int.ofNat_le.2 (Nat.le_trans hc hp))
  rw [Rat.intCast_natCast] at h
  exact h
theorem le_iff {k : FloatKind} {x y : Nat} (hx : fnum k x) (hy : fnum k y) : (k.format.order x y == some .lt || k.format.order x y == some .eq) = true ↔ fv k x ≤ fv k y := by
  obtain ⟨h1, h2, h3, h4⟩ := order_val hx hy
  rw [Bool.or_eq_true, beq_iff_eq, beq_iff_eq, h1, h2]
  constructor
  · rintro (h | h)
    · exact Rat.le_of_lt h
    · show vl k.format x ≤ vl k.format y
      rw [h]; exact Rat.le_refl
  · intro h
    by_cases he : vl k.format x = vl k.format y
    · exact .inr he
    · exact .inl (by show vl k.format x < vl k.format y; have : vl k.format x ≤ vl k.format y := h; grind)
end Sm
