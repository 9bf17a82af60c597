/-
  What is proved here: complex numbers whose parts are rational; their sums. A text to be imported.
-/
import Derived.Test.YthddkcoflnbjbaaDoorSimAb
namespace Sm
set_option linter.unusedVariables false

structure Cx where
  re : Rat
  im : Rat

theorem Cx.ext' {a b : Cx} (h1 : a.re = b.re) (h2 : a.im = b.im) : a = b := by cases a; cases b; cases h1; cases h2; rfl

namespace Cx
def zero : Cx := ⟨0, 0⟩
def one : Cx := ⟨1, 0⟩
def add (a b : Cx) : Cx := ⟨a.re + b.re, a.im + b.im⟩
def sub (a b : Cx) : Cx := ⟨a.re - b.re, a.im - b.im⟩
def neg (a : Cx) : Cx := ⟨-a.re, -a.im⟩
def mul (a b : Cx) : Cx := ⟨a.re * b.re - a.im * b.im, a.re * b.im + a.im * b.re⟩
def conj (a : Cx) : Cx := ⟨a.re, -a.im⟩
def smul (r : Rat) (a : Cx) : Cx := ⟨r * a.re, r * a.im⟩
def nrm (a : Cx) : Rat := a.re * a.re + a.im * a.im

theorem mul_assoc (a b c : Cx) : mul (mul a b) c = mul a (mul b c) := ext' (by simp only [mul]; grind) (by simp only [mul]; grind)
theorem mul_comm (a b : Cx) : mul a b = mul b a := ext' (by simp only [mul]; grind) (by simp only [mul]; grind)
theorem one_mul (a : Cx) : mul one a = a := ext' (by simp only [mul, one]; grind) (by simp only [mul, one]; grind)
theorem mul_one (a : Cx) : mul a one = a := ext' (by simp only [mul, one]; grind) (by simp only [mul, one]; grind)
theorem mul_add (a b c : Cx) : mul a (add b c) = add (mul a b) (mul a c) := ext' (by simp only [mul, add]; grind) (by simp only [mul, add]; grind)
theorem add_mul (a b c : Cx) : mul (add a b) c = add (mul a c) (mul b c) := ext' (by simp only [mul, add]; grind) (by simp only [mul, add]; grind)
theorem add_comm (a b : Cx) : add a b = add b a := ext' (by simp only [add]; grind) (by simp only [add]; grind)
theorem add_assoc (a b c : Cx) : add (add a b) c = add a (add b c) := ext' (by simp only [add]; grind) (by simp only [add]; grind)
theorem add_zero (a : Cx) : add a zero = a := ext' (by simp only [add, zero]; grind) (by simp only [add, zero]; grind)
theorem mul_zero (a : Cx) : mul a zero = zero := ext' (by simp only [mul, zero]; grind) (by simp only [mul, zero]; grind)
theorem nrm_mul (a b : Cx) : nrm (mul a b) = nrm a * nrm b := by simp only [nrm, mul]; grind
theorem conj_mul (a b : Cx) : conj (mul a b) = mul (conj a) (conj b) := ext' (by simp only [mul, conj]; grind) (by simp only [mul, conj]; grind)

/-- The parts of a number lie within a bound. -/
structure Wi (a : Cx) (e : Rat) : Prop where
  r1 : a.re ≤ e
  r2 : -e ≤ a.re
  i1 : a.im ≤ e
  i2 : -e ≤ a.im

theorem Wi.pos {a : Cx} {e : Rat} (h : Wi a e) : 0 ≤ e := by have := h.r1; have := h.r2; grind
theorem Wi.le {a : Cx} {e e' : Rat} (h : Wi a e) (he : e ≤ e') : Wi a e' := by
  obtain ⟨a1, a2, a3, a4⟩ := h
  exact ⟨by grind, by grind, by grind, by grind⟩
theorem Wi.add {a b : Cx} {d e : Rat} (ha : Wi a d) (hb : Wi b e) : Wi (Cx.add a b) (d + e) := by
  obtain ⟨a1, a2, a3, a4⟩ := ha
  obtain ⟨b1, b2, b3, b4⟩ := hb
  exact ⟨by simp only [Cx.add]; grind, by simp only [Cx.add]; grind, by simp only [Cx.add]; grind, by simp only [Cx.add]; grind⟩
theorem Wi.sub {a b : Cx} {d e : Rat} (ha : Wi a d) (hb : Wi b e) : Wi (Cx.sub a b) (d + e) := by
  obtain ⟨a1, a2, a3, a4⟩ := ha
  obtain ⟨b1, b2, b3, b4⟩ := hb
  exact ⟨by simp only [Cx.sub]; grind, by simp only [Cx.sub]; grind, by simp only [Cx.sub]; grind, by simp only [Cx.sub]; grind⟩
theorem Wi.mul {a b : Cx} {d e : Rat} (ha : Wi a d) (hb : Wi b e) : Wi (Cx.mul a b) (2 * (d * e)) := by
  have hd := ha.pos
  have he := hb.pos
  obtain ⟨a1, a2, a3, a4⟩ := ha
  obtain ⟨b1, b2, b3, b4⟩ := hb
  have p1 := rmul_le hd he a1 a2 b1 b2
  have p2 := rmul_le hd he a3 a4 b3 b4
  have p3 := rmul_le hd he a1 a2 b3 b4
  have p4 := rmul_le hd he a3 a4 b1 b2
  exact ⟨by simp only [Cx.mul]; grind, by simp only [Cx.mul]; grind, by simp only [Cx.mul]; grind, by simp only [Cx.mul]; grind⟩
theorem Wi.of_nrm {a : Cx} (h : nrm a ≤ 1) : Wi a 1 := by
  have key : ∀ x y : Rat, x * x + y * y ≤ 1 → x ≤ 1 ∧ -1 ≤ x := fun x y h => by
    have hy : 0 ≤ y * y := by
      by_cases h0 : 0 ≤ y
      · exact Rat.mul_nonneg h0 h0
      · have := Rat.mul_nonneg (a := -y) (b := -y) (by grind) (by grind)
        grind
    constructor
    · refine Rat.not_lt.1 fun hx => ?_
      have := Rat.mul_lt_mul_of_pos_right hx (show (0 : Rat) < x by grind)
      grind
    · refine Rat.not_lt.1 fun hx => ?_
      have := Rat.mul_lt_mul_of_pos_right (show (1 : Rat) < -x by grind) (show (0 : Rat) < -x by grind)
      grind
  have h1 : a.re * a.re + a.im * a.im ≤ 1 := h
  obtain ⟨k1, k2⟩ := key a.re a.im h1
  obtain ⟨k3, k4⟩ := key a.im a.re (by grind)
  exact ⟨k1, k2, k3, k4⟩

/-- Sums. -/
def sum (T : Nat → Cx) : Nat → Cx
  | 0 => zero
  | n + 1 => add (sum T n) (T n)
theorem sum_congr {T T' : Nat → Cx} : ∀ n, (∀ i, i < n → T i = T' i) → sum T n = sum T' n
  | 0, _ => rfl
  | n + 1, h => by rw [sum, sum, sum_congr n fun i hi => h i (by omega), h n (by omega)]
theorem sum_add (T T' : Nat → Cx) : ∀ n, sum (fun i => add (T i) (T' i)) n = add (sum T n) (sum T' n)
  | 0 => ext' (by simp only [sum, add, zero]; grind) (by simp only [sum, add, zero]; grind)
  | n + 1 => by rw [sum, sum_add T T' n]; exact ext' (by simp only [sum, add]; grind) (by simp only [sum, add]; grind)
theorem sum_mul (a : Cx) (T : Nat → Cx) : ∀ n, sum (fun i => mul a (T i)) n = mul a (sum T n)
  | 0 => by rw [sum, sum, mul_zero]
  | n + 1 => by rw [sum, sum_mul a T n, sum, mul_add]
theorem sum_swap (T : Nat → Nat → Cx) (m : Nat) : ∀ n, sum (fun i => sum (T i) m) n = sum (fun j => sum (fun i => T i j) n) m
  | 0 => by
    have : ∀ m, sum (fun j => sum (fun i => T i j) 0) m = zero := fun m => by
      induction m with
      | zero => rfl
      | succ m ih => rw [sum, ih, sum, add_zero]
    rw [this]; rfl
  | n + 1 => by
    rw [sum, sum_swap T m n, ← sum_add]
    rfl
theorem sum_append (T : Nat → Cx) (n : Nat) : ∀ m, sum T (n + m) = add (sum T n) (sum (fun j => T (n + j)) m)
  | 0 => by rw [sum, add_zero]; rfl
  | m + 1 => by rw [← Nat.add_assoc, sum, sum, sum_append T n m, add_assoc]
/-- A sum of so many terms in twos. -/
theorem sum_two (T : Nat → Cx) : ∀ n, sum T (2 * n) = add (sum (fun j => T (2 * j)) n) (sum (fun j => T (2 * j + 1)) n)
  | 0 => ext' (by simp only [sum, add, zero]; grind) (by simp only [sum, add, zero]; grind)
  | n + 1 => by
    rw [show 2 * (n + 1) = 2 * n + 1 + 1 by omega, sum, sum, sum_two T n, sum, sum]
    exact ext' (by simp only [add]; grind) (by simp only [add]; grind)
theorem sum_wi {T : Nat → Cx} {D : Nat → Rat} : ∀ n, (∀ i, i < n → Wi (T i) (D i)) → Wi (sum T n) (RS D n)
  | 0, _ => ⟨by simp only [sum, zero, RS]; grind, by simp only [sum, zero, RS]; grind, by simp only [sum, zero, RS]; grind, by simp only [sum, zero, RS]; grind⟩
  | n + 1, h => (sum_wi n fun i hi => h i (by omega)).add (h n (by omega))
theorem sub_sum (T T' : Nat → Cx) : ∀ n, sub (sum T n) (sum T' n) = sum (fun i => sub (T i) (T' i)) n
  | 0 => ext' (by simp only [sum, sub, zero]; grind) (by simp only [sum, sub, zero]; grind)
  | n + 1 => by rw [sum, sum, sum, ← sub_sum T T' n]; exact ext' (by simp only [add, sub]; grind) (by simp only [add, sub]; grind)
/-- One term of a sum apart. -/
theorem sum_one (T : Nat → Cx) (i : Nat) : ∀ n, i < n → (∀ j, j < n → j ≠ i → T j = zero) → sum T n = T i
  | 0, h, _ => by omega
  | n + 1, h, hz => by
    rw [sum]
    by_cases hi : i = n
    · subst hi
      have : ∀ m, m ≤ i → sum T m = zero := fun m => by
        induction m with
        | zero => intro _; rfl
        | succ m ih => intro hm; rw [sum, ih (by omega), hz m (by omega) (by omega), add_zero]
      rw [this i (Nat.le_refl _), add_comm, add_zero]
    · rw [sum_one T i n (by omega) fun j hj hne => hz j (by omega) hne, hz n (by omega) (fun e => hi e.symm), add_zero]
end Cx
end Sm
