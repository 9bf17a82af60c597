/-
  What is proved here: the size of a float, by its word; comparisons with a bound. A text to be imported.
-/
import Derived.Test.YthddkcoflnbjbaaDoorSimZ
namespace Sm
set_option linter.unusedVariables false
open Go Go.RowKit Fl Ieee

theorem abs_mod (x : Nat) : (IntKind.u64.wrap ((BitVec.ofInt IntKind.u64.bits (x : Int) &&& ~~~BitVec.ofInt IntKind.u64.bits 9223372036854775808).toNat : Int)).toNat = x % 2 ^ 63 := by
  have h1 : (BitVec.ofInt 64 (x : Int)).toNat = x % 2 ^ 64 := by
    rw [BitVec.toNat_ofInt]
    omega
  have h2 : (~~~BitVec.ofInt 64 9223372036854775808).toNat = 2 ^ 63 - 1 := by decide
  have h3 : (BitVec.ofInt IntKind.u64.bits (x : Int) &&& ~~~BitVec.ofInt IntKind.u64.bits 9223372036854775808).toNat = x % 2 ^ 63 := by
    show (BitVec.ofInt 64 (x : Int) &&& ~~~BitVec.ofInt 64 9223372036854775808).toNat = x % 2 ^ 63
    rw [BitVec.toNat_and, h1, h2, Nat.and_two_pow_sub_one_eq_mod]
    omega
  rw [h3]
  have h4 : IntKind.u64.wrap ((x % 2 ^ 63 : Nat) : Int) = ((x % 2 ^ 63 : Nat) : Int) := by
    simp only [IntKind.wrap, IntKind.bits, IntKind.signed]
    simp
    omega
  rw [h4]
  rfl

/-- The size of a number: the word without its sign. -/
theorem abs_num {x : Nat} (h : fnum .f64 x) : fnum .f64 (x % 2 ^ 63) ∧ 0 ≤ fv .f64 (x % 2 ^ 63) ∧ ((fv .f64 (x % 2 ^ 63) = fv .f64 x ∧ 0 ≤ fv .f64 x) ∨ (fv .f64 (x % 2 ^ 63) = -fv .f64 x ∧ fv .f64 x ≤ 0)) := by
  obtain ⟨s, m, p, hr⟩ := h
  have hs : FloatKind.f64.format.signWeight = 2 ^ 63 := rfl
  have e : FloatKind.f64.format.read (x % 2 ^ 63) = .number false m p := by
    unfold Format.read at hr ⊢
    rw [hs] at hr ⊢
    simp only at hr ⊢
    have hm : x % 2 ^ 63 % 2 ^ 63 = x % 2 ^ 63 := Nat.mod_mod _ _
    have hd : x % 2 ^ 63 / 2 ^ 63 % 2 = 0 := by omega
    rw [hm, hd]
    split at hr
    · rename_i h1
      rw [if_pos h1]
      simp only [Datum.number.injEq] at hr ⊢
      exact ⟨rfl, hr.2⟩
    · rename_i h1
      rw [if_neg h1]
      split at hr
      · rename_i h2
        rw [if_pos h2]
        simp only [Datum.number.injEq] at hr ⊢
        exact ⟨rfl, hr.2⟩
      · split at hr <;> cases hr
  have v1 : fv .f64 (x % 2 ^ 63) = (m : Rat) * pw p := by
    show dv (FloatKind.f64.format.read (x % 2 ^ 63)) = _
    rw [e]; simp [dv, sg]
  have v2 : fv .f64 x = sg s * (m : Rat) * pw p := by
    show dv (FloatKind.f64.format.read x) = _
    rw [hr]; rfl
  have h0 : 0 ≤ (m : Rat) * pw p := Rat.mul_nonneg Rat.natCast_nonneg (Rat.le_of_lt (pw_pos p))
  refine ⟨⟨_, _, _, e⟩, by rw [v1]; exact h0, ?_⟩
  rw [v1, v2]
  cases s <;> simp only [sg, Bool.false_eq_true, if_false, if_true] <;> grind
end Sm
