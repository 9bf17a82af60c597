/-
  What is proved here: floats below powers of two; whole parts; words without a sign. A text to be imported.
-/
import Derived.Test.YthddkcoflnbjbaaDoorSimY
import Derived.Test.YthddkcoflnbjbaaDoorSimFm
namespace Sm
set_option linter.unusedVariables false
open Go Go.RowKit Fl Ieee

/-- A float that is a number not beyond a power of two. -/
structure P2 (x : Nat) (k : Nat) : Prop where
  num : fnum .f64 x
  le : fv .f64 x ≤ pw (k : Int)
  ge : -pw (k : Int) ≤ fv .f64 x
theorem P2.mono {x k l : Nat} (h : P2 x k) (hl : k ≤ l) : P2 x l := by
  have := pw_mono (a := (k : Int)) (b := (l : Int)) (by omega)
  exact ⟨h.num, by have := h.le; grind, by have := h.ge; grind⟩
theorem rep_pw {k : Nat} (h : k ≤ 1000) : rep FloatKind.f64.format (pw (k : Int)) := by
  refine ⟨false, 1, (k : Int), by decide, ?_, ?_⟩
  · have : FloatKind.f64.format.leastPlace = -1074 := by kernel_rfl
    omega
  · simp [sg]
theorem pw_lt_tp {k : Nat} (h : k ≤ 1000) : pw (k : Int) < tp .f64 := by
  unfold tp
  rw [top64]
  have h1 := pw_mono (a := (k : Int)) (b := ((1000 : Nat) : Int)) (by omega)
  have h2 := pw_add ((1000 : Nat) : Int) 23
  have h3 := pw_pos ((1000 : Nat) : Int)
  have h4 : pw (23 : Int) = 8388608 := by
    have := pw_nat 23
    rw [show (2 ^ 23 : Nat) = 8388608 from rfl, Rat.natCast_ofNat] at this
    exact this
  have h5 : ((1023 : Nat) : Int) = ((1000 : Nat) : Int) + 23 := rfl
  rw [h5, h2, h4]
  grind
theorem P2.rnd {r k : Nat} {v : Rat} (h : Rnd FloatKind.f64.format r v) (hk : k ≤ 1000) (h1 : v ≤ pw (k : Int)) (h2 : -pw (k : Int) ≤ v) : P2 r k :=
  ⟨h.num, h.le _ (rep_pw hk) h1, h.ge _ (rep_neg (rep_pw hk)) h2⟩
theorem P2.mul {x y a b : Nat} (hx : P2 x a) (hy : P2 y b) (hk : a + b ≤ 1000) : fok .mul .f64 x y = true ∧ P2 (fbin .mul .f64 x y) (a + b) := by
  have p := rmul_le (A := pw (a : Int)) (B := pw (b : Int)) (Rat.le_of_lt (pw_pos _)) (Rat.le_of_lt (pw_pos _)) hx.le hx.ge hy.le hy.ge
  have e : pw ((a + b : Nat) : Int) = pw (a : Int) * pw (b : Int) := by rw [← pw_add]; rfl
  rw [← e] at p
  have ht := pw_lt_tp hk
  obtain ⟨k1, r⟩ := fbin_mul hx.num hy.num (by grind) (by grind)
  exact ⟨k1, P2.rnd r hk p.1 p.2⟩
theorem pw_two {a k : Nat} (h : a + 1 ≤ k) : 2 * pw (a : Int) ≤ pw (k : Int) := by
  have h1 := pw_succ (a : Int)
  have h2 := pw_mono (a := (a : Int) + 1) (b := (k : Int)) (by omega)
  grind
theorem P2.add {x y a b : Nat} (hx : P2 x a) (hy : P2 y b) (k : Nat) (h1 : a + 1 ≤ k) (h2 : b + 1 ≤ k) (hk : k ≤ 1000) : fok .add .f64 x y = true ∧ P2 (fbin .add .f64 x y) k := by
  have p1 := pw_two h1
  have p2 := pw_two h2
  have ht := pw_lt_tp hk
  have := hx.le; have := hx.ge; have := hy.le; have := hy.ge
  obtain ⟨k1, r⟩ := fbin_add hx.num hy.num (by grind) (by grind)
  exact ⟨k1, P2.rnd r hk (by grind) (by grind)⟩
theorem P2.sub {x y a b : Nat} (hx : P2 x a) (hy : P2 y b) (k : Nat) (h1 : a + 1 ≤ k) (h2 : b + 1 ≤ k) (hk : k ≤ 1000) : fok .sub .f64 x y = true ∧ P2 (fbin .sub .f64 x y) k := by
  have p1 := pw_two h1
  have p2 := pw_two h2
  have ht := pw_lt_tp hk
  have := hx.le; have := hx.ge; have := hy.le; have := hy.ge
  obtain ⟨k1, r⟩ := fbin_sub hx.num hy.num (by grind) (by grind)
  exact ⟨k1, P2.rnd r hk (by grind) (by grind)⟩
/-- A constant of at most 2^k, by what it reads as. -/
theorem P2.kst {x k : Nat} (h : (match FloatKind.f64.format.read x with | .number _ m p => decide (p ≤ 0 ∧ m ≤ 2 ^ (k + (-p).toNat)) | _ => false) = true) : P2 x k := by
  split at h
  · rename_i s m p hr
    simp only [decide_eq_true_eq] at h
    obtain ⟨hp, hm⟩ := h
    have hv : fv .f64 x = sg s * m * pw p := by
      show dv (FloatKind.f64.format.read x) = _
      rw [hr]
      rfl
    have h1 : (m : Rat) * pw p ≤ pw (k : Int) := by
      have e1 := pw_down (-p).toNat
      have e2 : -(((-p).toNat : Nat) : Int) = p := by omega
      rw [e2] at e1
      have e3 : (m : Rat) ≤ ((2 ^ (k + (-p).toNat) : Nat) : Rat) := Rat.natCast_le_natCast.2 hm
      rw [Nat.pow_add, Rat.natCast_mul, ← pw_nat k] at e3
      have e4 := Rat.mul_le_mul_of_nonneg_right e3 (Rat.le_of_lt (pw_pos p))
      rw [Rat.mul_assoc, Rat.mul_comm (((2 ^ (-p).toNat : Nat) : Rat)), e1] at e4
      grind
    have h0 : 0 ≤ (m : Rat) * pw p := Rat.mul_nonneg Rat.natCast_nonneg (Rat.le_of_lt (pw_pos p))
    have hpk := pw_pos (k : Int)
    refine ⟨⟨s, m, p, hr⟩, ?_, ?_⟩
    · rw [hv]
      cases s <;> simp only [sg, Bool.false_eq_true, if_false, if_true] <;> grind
    · rw [hv]
      cases s <;> simp only [sg, Bool.false_eq_true, if_false, if_true] <;> grind
  · cases h

/-- The whole part of a float, as a whole number. -/
theorem f2i_floor {k : FloatKind} {x : Nat} (hx : fnum k x) (h0 : 0 ≤ fv k x) : ∃ c : Nat, (c : Rat) ≤ fv k x ∧ fv k x < (c : Rat) + 1 ∧ f2i k x = c ∧ ∀ d : IntKind, d.min ≤ 0 → (c : Int) ≤ d.max → f2iok k x d = true := by
  obtain ⟨s, c, a1, a2, a3, a4⟩ := trunc_val hx h0
  have hi : (k.decode x).toInt .zero = some (c : Int) := by
    unfold Datum.toInt
    rw [a4 _ (.inr rfl)]
    cases s with
    | true => rw [a3 rfl]; rfl
    | false => simp [signed]
  refine ⟨c, a1, a2, by unfold f2i; rw [hi]; rfl, fun d h1 h2 => ?_⟩
  unfold f2iok
  rw [hi]
  simp only [Bool.and_eq_true, decide_eq_true_eq]
  exact ⟨by omega, h2⟩

theorem nearest_word (f : Format) (s : Bool) (m : Nat) (p : Int) : ∃ r, f.nearest s m p = f.word s r ∧ r ≤ f.infRung := by
  unfold Format.nearest
  by_cases hm : m = 0
  · rw [if_pos hm]
    exact ⟨0, rfl, Nat.zero_le _⟩
  · rw [if_neg hm]
    exact ⟨_, rfl, Nat.min_le_right _ _⟩
/-- The word of a number above 0 has no sign. -/
theorem pos_word {s : Bool} {m : Nat} {p : Int} (hn : fnum .f64 (FloatKind.f64.format.write (.number s m p))) (h0 : 0 < fv .f64 (FloatKind.f64.format.write (.number s m p))) : FloatKind.f64.format.write (.number s m p) < 2 ^ 63 := by
  obtain ⟨r, hr, hle⟩ := nearest_word FloatKind.f64.format s m p
  have hw : FloatKind.f64.format.write (.number s m p) = FloatKind.f64.format.word s r := hr
  rw [hw] at hn h0 ⊢
  have hi : FloatKind.f64.format.infRung < 2 ^ 63 := by decide
  have hlt : r < FloatKind.f64.format.infRung := by
    refine Nat.lt_of_le_of_ne hle fun e => ?_
    subst e
    obtain ⟨s', m', p', hn⟩ := hn
    cases s
    · have : FloatKind.f64.format.read (FloatKind.f64.format.word false FloatKind.f64.format.infRung) = .infinity false := by kernel_rfl
      rw [this] at hn; cases hn
    · have : FloatKind.f64.format.read (FloatKind.f64.format.word true FloatKind.f64.format.infRung) = .infinity true := by kernel_rfl
      rw [this] at hn; cases hn
  cases s with
  | false =>
    unfold Format.word
    simp only [Bool.false_eq_true, if_false]
    omega
  | true =>
    obtain ⟨m', p', hrd, _⟩ := read_word FloatKind.f64.format true hlt
    have hv : fv .f64 (FloatKind.f64.format.word true r) = sg true * m' * pw p' := by
      show dv (FloatKind.f64.format.read _) = _
      rw [hrd]
      rfl
    have h1 : 0 ≤ (m' : Rat) * pw p' := Rat.mul_nonneg Rat.natCast_nonneg (Rat.le_of_lt (pw_pos p'))
    rw [hv] at h0
    simp only [sg, if_true] at h0
    grind
theorem abs_word {x : Nat} (h : x < 2 ^ 63) : (IntKind.u64.wrap ((BitVec.ofInt IntKind.u64.bits (x : Int) &&& ~~~BitVec.ofInt IntKind.u64.bits 9223372036854775808).toNat : Int)).toNat = x := by
  have h1 : (BitVec.ofInt 64 (x : Int)).toNat = x := by
    rw [BitVec.toNat_ofInt]
    omega
  have h2 : (~~~BitVec.ofInt 64 9223372036854775808).toNat = 2 ^ 63 - 1 := by decide
  have h3 : (BitVec.ofInt IntKind.u64.bits (x : Int) &&& ~~~BitVec.ofInt IntKind.u64.bits 9223372036854775808).toNat = x := by
    show (BitVec.ofInt 64 (x : Int) &&& ~~~BitVec.ofInt 64 9223372036854775808).toNat = x
    rw [BitVec.toNat_and, h1, h2, Nat.and_two_pow_sub_one_eq_mod]
    exact Nat.mod_eq_of_lt h
  rw [h3]
  have h4 : IntKind.u64.wrap (x : Int) = x := by
    simp only [IntKind.wrap, IntKind.bits, IntKind.signed]
    simp
    omega
  rw [h4]
  rfl
end Sm
