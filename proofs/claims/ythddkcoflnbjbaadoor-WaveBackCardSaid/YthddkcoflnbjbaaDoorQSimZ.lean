/-
  What is proved here: floats below powers of two; whole parts; words without a sign. the size of a float, by its word; comparisons with a bound. complex numbers whose parts are rational; their sums. A text to be imported.
-/
import Derived.Test.YthddkcoflnbjbaaDoorQCon1
import Derived.Test.YthddkcoflnbjbaaDoorQSimFm
namespace Sm
set_option linter.unusedVariables false
open Go Go.RowKit Fl Ieee
structure P2 (x : Nat) (k : Nat) : Prop where
  num : fnum .f64 x
  le : fv .f64 x ≤ pw (k : Int)
  ge : -pw (k : Int) ≤ fv .f64 x
theorem rep_pw {k : Nat} (h : k ≤ 1000) : rep FloatKind.f64.format (pw (k : Int)) := by
  refine ⟨false, 1, (k : Int), by decide, ?_, ?_⟩
  · have : FloatKind.f64.format.leastPlace = -1074 := by kernel_rfl
    omega
  · simp [sg]
theorem pw_lt_tp {k : Nat} (h : k ≤ 1000) : pw (k : Int) < tp .f64 := by
  unfold tp
  rw [top64]
  have h1 := pw_mono (a := (k : Int)) (b := ((1000 : Nat) : Int)) (by omega)
  have h2 := pw_add ((1000 : Nat) : Int) 23
  have h3 := pw_pos ((1000 : Nat) : Int)
  have h4 : pw (23 : Int) = 8388608 := by
    have := pw_nat 23
    rw [show (2 ^ 23 : Nat) = 8388608 from rfl, Rat.natCast_ofNat] at this
    exact this
  have h5 : ((1023 : Nat) : Int) = ((1000 : Nat) : Int) + 23 := rfl
  rw [h5, h2, h4]
  grind
theorem P2.rnd {r k : Nat} {v : Rat} (h : Rnd FloatKind.f64.format r v) (hk : k ≤ 1000) (h1 : v ≤ pw (k : Int)) (h2 : -pw (k : Int) ≤ v) : P2 r k :=
  ⟨h.num, h.le _ (rep_pw hk) h1, h.ge _ (rep_neg (rep_pw hk)) h2⟩
theorem P2.mul {x y a b : Nat} (hx : P2 x a) (hy : P2 y b) (hk : a + b ≤ 1000) : fok .mul .f64 x y = true ∧ P2 (fbin .mul .f64 x y) (a + b) := by
  have p := rmul_le (A := pw (a : Int)) (B := pw (b : Int)) (Rat.le_of_lt (pw_pos _)) (Rat.le_of_lt (pw_pos _)) hx.le hx.ge hy.le hy.ge
  have e : pw ((a + b : Nat) : Int) = pw (a : Int) * pw (b : Int) := by rw [← pw_add]; rfl
  rw [← e] at p
  have ht := pw_lt_tp hk
  obtain ⟨k1, r⟩ := fbin_mul hx.num hy.num (by grind) (by grind)
  exact ⟨k1, P2.rnd r hk p.1 p.2⟩
theorem pw_two {a k : Nat} (h : a + 1 ≤ k) : 2 * pw (a : Int) ≤ pw (k : Int) := by
  have h1 := pw_succ (a : Int)
  have h2 := pw_mono (a := (a : Int) + 1) (b := (k : Int)) (by omega)
  grind
theorem P2.add {x y a b : Nat} (hx : P2 x a) (hy : P2 y b) (k : Nat) (h1 : a + 1 ≤ k) (h2 : b + 1 ≤ k) (hk : k ≤ 1000) : fok .add .f64 x y = true ∧ P2 (fbin .add .f64 x y) k := by
  have p1 := pw_two h1
  have p2 := pw_two h2
  have ht := pw_lt_tp hk
  have := hx.le; have := hx.ge; have := hy.le; have := hy.ge
  obtain ⟨k1, r⟩ := fbin_add hx.num hy.num (by grind) (by grind)
  exact ⟨k1, P2.rnd r hk (by grind) (by grind)⟩
theorem P2.sub {x y a b : Nat} (hx : P2 x a) (hy : P2 y b) (k : Nat) (h1 : a + 1 ≤ k) (h2 : b + 1 ≤ k) (hk : k ≤ 1000) : fok .sub .f64 x y = true ∧ P2 (fbin .sub .f64 x y) k := by
  have p1 := pw_two h1
  have p2 := pw_two h2
  have ht := pw_lt_tp hk
  have := hx.le; have := hx.ge; have := hy.le; have := hy.ge
  obtain ⟨k1, r⟩ := fbin_sub hx.num hy.num (by grind) (by grind)
  exact ⟨k1, P2.rnd r hk (by grind) (by grind)⟩
theorem P2.kst {x k : Nat} (h : (match FloatKind.f64.format.read x with | .number _ m p => decide (p ≤ 0 ∧ m ≤ 2 ^ (k + (-p).toNat)) | _ => false) = true) : P2 x k := by
  split at h
  · rename_i s m p hr
    simp only [decide_eq_true_eq] at h
    obtain ⟨hp, hm⟩ := h
    have hv : fv .f64 x = sg s * m * pw p := by
      show dv (FloatKind.f64.format.read x) = _
      rw [hr]
      rfl
    have h1 : (m : Rat) * pw p ≤ pw (k : Int) := by
      have e1 := pw_down (-p).toNat
      have e2 : -(((-p).toNat : Nat) : Int) = p := by omega
      rw [e2] at e1
      have e3 : (m : Rat) ≤ ((2 ^ (k + (-p).toNat) : Nat) : Rat) := Rat.natCast_le_natCast.2 hm
      rw [Nat.pow_add, Rat.natCast_mul, ← pw_nat k] at e3
      have e4 := Rat.mul_le_mul_of_nonneg_right e3 (Rat.le_of_lt (pw_pos p))
      rw [Rat.mul_assoc, Rat.mul_comm (((2 ^ (-p).toNat : Nat) : Rat)), e1] at e4
      grind
    have h0 : 0 ≤ (m : Rat) * pw p := Rat.mul_nonneg Rat.natCast_nonneg (Rat.le_of_lt (pw_pos p))
    have hpk := pw_pos (k : Int)
    refine ⟨⟨s, m, p, hr⟩, ?_, ?_⟩
    · rw [hv]
      cases s <;> simp only [sg, Bool.false_eq_true, if_false, if_true] <;> grind
    · rw [hv]
      cases s <;> simp only [sg, Bool.false_eq_true, if_false, if_true] <;> grind
  · cases h
theorem f2i_floor {k : FloatKind} {x : Nat} (hx : fnum k x) (h0 : 0 ≤ fv k x) : ∃ c : Nat, (c : Rat) ≤ fv k x ∧ fv k x < (c : Rat) + 1 ∧ f2i k x = c ∧ ∀ d : IntKind, d.min ≤ 0 → (c : Int) ≤ d.max → f2iok k x d = true := by
  obtain ⟨s, c, a1, a2, a3, a4⟩ := trunc_val hx h0
  have hi : (k.decode x).toInt .zero = some (c : Int) := by
    unfold Datum.toInt
    rw [a4 _ (.inr rfl)]
    cases s with
    | true => rw [a3 rfl]; rfl
    | false => simp [signed]
  refine ⟨c, a1, a2, by unfold f2i; rw [hi]; rfl, fun d h1 h2 => ?_⟩
  unfold f2iok
  rw [hi]
  simp only [Bool.and_eq_true, decide_eq_true_eq]
  exact ⟨by omega, h2⟩
theorem nearest_word (f : Format) (s : Bool) (m : Nat) (p : Int) : ∃ r, f.nearest s m p = f.word s r ∧ r ≤ f.infRung := by
  unfold Format.nearest
  by_cases hm : m = 0
  · rw [if_pos hm]
    exact ⟨0, rfl, Nat.zero_le _⟩
  · rw [if_neg hm]
    exact ⟨_, rfl, Nat.min_le_right _ _⟩
theorem pos_word {s : Bool} {m : Nat} {p : Int} (hn : fnum .f64 (FloatKind.f64.format.write (.number s m p))) (h0 : 0 < fv .f64 (FloatKind.f64.format.write (.number s m p))) : FloatKind.f64.format.write (.number s m p) < 2 ^ 63 := by
  obtain ⟨r, hr, hle⟩ := nearest_word FloatKind.f64.format s m p
  have hw : FloatKind.f64.format.write (.number s m p) = FloatKind.f64.format.word s r := hr
  rw [hw] at hn h0 ⊢
  have hi : FloatKind.f64.format.infRung < 2 ^ 63 := by decide
  have hlt : r < FloatKind.f64.format.infRung := by
    refine Nat.lt_of_le_of_ne hle fun e => ?_
    subst e
    obtain ⟨s', m', p', hn⟩ := hn
    cases s
    · have : FloatKind.f64.format.read (FloatKind.f64.format.word false FloatKind.f64.format.infRung) = .infinity false := by kernel_rfl
      rw [this] at hn; cases hn
    · have : FloatKind.f64.format.read (FloatKind.f64.format.word true FloatKind.f64.format.infRung) = .infinity true := by kernel_rfl
      rw [this] at hn; cases hn
  cases s with
  | false =>
    unfold Format.word
    simp only [Bool.false_eq_true, if_false]
    omega
  | true =>
    obtain ⟨m', p', hrd, _⟩ := read_word FloatKind.f64.format true hlt
    have hv : fv .f64 (FloatKind.f64.format.word true r) = sg true * m' * pw p' := by
      show dv (FloatKind.f64.format.read _) = _
      rw [hrd]
      rfl
    have h1 : 0 ≤ (m' : Rat) * pw p' := Rat.mul_nonneg Rat.natCast_nonneg (Rat.le_of_lt (pw_pos p'))
    rw [hv] at h0
    simp only [sg, if_true] at h0
    grind
theorem abs_word {x : Nat} (h : x < 2 ^ 63) : (IntKind.u64.wrap ((BitVec.ofInt IntKind.u64.bits (x : Int) &&& ~~~BitVec.ofInt IntKind.u64.bits 9223372036854775808).toNat : Int)).toNat = x := by
  have h1 : (BitVec.ofInt 64 (x : Int)).toNat = x := by
    rw [BitVec.toNat_ofInt]
    omega
  have h2 : (~~~BitVec.ofInt 64 9223372036854775808).toNat = 2 ^ 63 - 1 := by decide
  have h3 : (BitVec.ofInt IntKind.u64.bits (x : Int) &&& ~~~BitVec.ofInt IntKind.u64.bits 9223372036854775808).toNat = x := by
    show (BitVec.ofInt 64 (x : Int) &&& ~~~BitVec.ofInt 64 9223372036854775808).toNat = x
    rw [BitVec.toNat_and, h1, h2, Nat.and_two_pow_sub_one_eq_mod]
    exact Nat.mod_eq_of_lt h
  rw [h3]
  have h4 : IntKind.u64.wrap (x : Int) = x := by
    simp only [IntKind.wrap, IntKind.bits, IntKind.signed]
    simp
    omega
  rw [h4]
  rfl
end Sm
namespace Sm
set_option linter.unusedVariables false
open Go Go.RowKit Fl Ieee
theorem abs_mod (x : Nat) : (IntKind.u64.wrap ((BitVec.ofInt IntKind.u64.bits (x : Int) &&& ~~~BitVec.ofInt IntKind.u64.bits 9223372036854775808).toNat : Int)).toNat = x % 2 ^ 63 := by
  have h1 : (BitVec.ofInt 64 (x : Int)).toNat = x % 2 ^ 64 := by
    rw [BitVec.toNat_ofInt]
    omega
  have h2 : (~~~BitVec.ofInt 64 9223372036854775808).toNat = 2 ^ 63 - 1 := by decide
  have h3 : (BitVec.ofInt IntKind.u64.bits (x : Int) &&& ~~~BitVec.ofInt IntKind.u64.bits 9223372036854775808).toNat = x % 2 ^ 63 := by
    show (BitVec.ofInt 64 (x : Int) &&& ~~~BitVec.ofInt 64 9223372036854775808).toNat = x % 2 ^ 63
    rw [BitVec.toNat_and, h1, h2, Nat.and_two_pow_sub_one_eq_mod]
    omega
  rw [h3]
  have h4 : IntKind.u64.wrap ((x % 2 ^ 63 : Nat) : Int) = ((x % 2 ^ 63 : Nat) : Int) := by
    simp only [IntKind.wrap, IntKind.bits, IntKind.signed]
    simp
    omega
  rw [h4]
  rfl
theorem abs_num {x : Nat} (h : fnum .f64 x) : fnum .f64 (x % 2 ^ 63) ∧ 0 ≤ fv .f64 (x % 2 ^ 63) ∧ ((fv .f64 (x % 2 ^ 63) = fv .f64 x ∧ 0 ≤ fv .f64 x) ∨ (fv .f64 (x % 2 ^ 63) = -fv .f64 x ∧ fv .f64 x ≤ 0)) := by
  obtain ⟨s, m, p, hr⟩ := h
  have hs : FloatKind.f64.format.signWeight = 2 ^ 63 := rfl
  have e : FloatKind.f64.format.read (x % 2 ^ 63) = .number false m p := by
    unfold Format.read at hr ⊢
    rw [hs] at hr ⊢
    simp only at hr ⊢
    have hm : x % 2 ^ 63 % 2 ^ 63 = x % 2 ^ 63 := Nat.mod_mod _ _
    have hd : x % 2 ^ 63 / 2 ^ 63 % 2 = 0 := by omega
    rw [hm, hd]
    split at hr
    · rename_i h1
      rw [if_pos h1]
      simp only [Datum.number.injEq] at hr ⊢
      exact ⟨rfl, hr.2⟩
    · rename_i h1
      rw [if_neg h1]
      split at hr
      · rename_i h2
        rw [if_pos h2]
        simp only [Datum.number.injEq] at hr ⊢
        exact ⟨rfl, hr.2⟩
      · split at hr <;> cases hr
  have v1 : fv .f64 (x % 2 ^ 63) = (m : Rat) * pw p := by
    show dv (FloatKind.f64.format.read (x % 2 ^ 63)) = _
    rw [e]; simp [dv, sg]
  have v2 : fv .f64 x = sg s * (m : Rat) * pw p := by
    show dv (FloatKind.f64.format.read x) = _
    rw [hr]; rfl
  have h0 : 0 ≤ (m : Rat) * pw p := Rat.mul_nonneg Rat.natCast_nonneg (Rat.le_of_lt (pw_pos p))
  refine ⟨⟨_, _, _, e⟩, by rw [v1]; exact h0, ?_⟩
  rw [v1, v2]
  cases s <;> simp only [sg, Bool.false_eq_true, if_false, if_true] <;> grind
end Sm
namespace Sm
set_option linter.unusedVariables false
structure Cx where
  re : Rat
  im : Rat
theorem Cx.ext' {a b : Cx} (h1 : a.re = b.re) (h2 : a.im = b.im) : a = b := by cases a; cases b; cases h1; cases h2; rfl
namespace Cx
def zero : Cx := ⟨0, 0⟩
def one : Cx := ⟨1, 0⟩
def add (a b : Cx) : Cx := ⟨a.re + b.re, a.im + b.im⟩
def sub (a b : Cx) : Cx := ⟨a.re - b.re, a.im - b.im⟩
def neg (a : Cx) : Cx := ⟨-a.re, -a.im⟩
def mul (a b : Cx) : Cx := ⟨a.re * b.re - a.im * b.im, a.re * b.im + a.im * b.re⟩
def conj (a : Cx) : Cx := ⟨a.re, -a.im⟩
def smul (r : Rat) (a : Cx) : Cx := ⟨r * a.re, r * a.im⟩
def nrm (a : Cx) : Rat := a.re * a.re + a.im * a.im
theorem mul_assoc (a b c : Cx) : mul (mul a b) c = mul a (mul b c) := ext' (by simp only [mul]; grind) (by simp only [mul]; grind)
theorem one_mul (a : Cx) : mul one a = a := ext' (by simp only [mul, one]; grind) (by simp only [mul, one]; grind)
theorem mul_one (a : Cx) : mul a one = a := ext' (by simp only [mul, one]; grind) (by simp only [mul, one]; grind)
theorem mul_add (a b c : Cx) : mul a (add b c) = add (mul a b) (mul a c) := ext' (by simp only [mul, add]; grind) (by simp only [mul, add]; grind)
theorem add_comm (a b : Cx) : add a b = add b a := ext' (by simp only [add]; grind) (by simp only [add]; grind)
theorem add_zero (a : Cx) : add a zero = a := ext' (by simp only [add, zero]; grind) (by simp only [add, zero]; grind)
theorem mul_zero (a : Cx) : mul a zero = zero := ext' (by simp only [mul, zero]; grind) (by simp only [mul, zero]; grind)
theorem nrm_mul (a b : Cx) : nrm (mul a b) = nrm a * nrm b := by simp only [nrm, mul]; grind
structure Wi (a : Cx) (e : Rat) : Prop where
  r1 : a.re ≤ e
  r2 : -e ≤ a.re
  i1 : a.im ≤ e
  i2 : -e ≤ a.im
theorem Wi.pos {a : Cx} {e : Rat} (h : Wi a e) : 0 ≤ e := by have := h.r1; have := h.r2; grind
theorem Wi.le {a : Cx} {e e' : Rat} (h : Wi a e) (he : e ≤ e') : Wi a e' := by
  obtain ⟨a1, a2, a3, a4⟩ := h
  exact ⟨by grind, by grind, by grind, by grind⟩
theorem Wi.add {a b : Cx} {d e : Rat} (ha : Wi a d) (hb : Wi b e) : Wi (Cx.add a b) (d + e) := by
  obtain ⟨a1, a2, a3, a4⟩ := ha
  obtain ⟨b1, b2, b3, b4⟩ := hb
  exact ⟨by simp only [Cx.add]; grind, by simp only [Cx.add]; grind, by simp only [Cx.add]; grind, by simp only [Cx.add]; grind⟩
theorem Wi.sub {a b : Cx} {d e : Rat} (ha : Wi a d) (hb : Wi b e) : Wi (Cx.sub a b) (d + e) := by
  obtain ⟨a1, a2, a3, a4⟩ := ha
  obtain ⟨b1, b2, b3, b4⟩ := hb
  exact ⟨by simp only [Cx.sub]; grind, by simp only [Cx.sub]; grind, by simp only [Cx.sub]; grind, by simp only [Cx.sub]; grind⟩
theorem Wi.mul {a b : Cx} {d e : Rat} (ha : Wi a d) (hb : Wi b e) : Wi (Cx.mul a b) (2 * (d * e)) := by
  have hd := ha.pos
  have he := hb.pos
  obtain ⟨a1, a2, a3, a4⟩ := ha
  obtain ⟨b1, b2, b3, b4⟩ := hb
  have p1 := rmul_le hd he a1 a2 b1 b2
  have p2 := rmul_le hd he a3 a4 b3 b4
  have p3 := rmul_le hd he a1 a2 b3 b4
  have p4 := rmul_le hd he a3 a4 b1 b2
  exact ⟨by simp only [Cx.mul]; grind, by simp only [Cx.mul]; grind, by simp only [Cx.mul]; grind, by simp only [Cx.mul]; grind⟩
theorem Wi.of_nrm {a : Cx} (h : nrm a ≤ 1) : Wi a 1 := by
  have key : ∀ x y : Rat, x * x + y * y ≤ 1 → x ≤ 1 ∧ -1 ≤ x := fun x y h => by
    have hy : 0 ≤ y * y := by
      by_cases h0 : 0 ≤ y
      · exact Rat.mul_nonneg h0 h0
      · have := Rat.mul_nonneg (a := -y) (b := -y) (by grind) (by grind)
        grind
    constructor
    · refine Rat.not_lt.1 fun hx => ?_
      have := Rat.mul_lt_mul_of_pos_right hx (show (0 : Rat) < x by grind)
      grind
    · refine Rat.not_lt.1 fun hx => ?_
      have := Rat.mul_lt_mul_of_pos_right (show (1 : Rat) < -x by grind) (show (0 : Rat) < -x by grind)
      grind
  have h1 : a.re * a.re + a.im * a.im ≤ 1 := h
  obtain ⟨k1, k2⟩ := key a.re a.im h1
  obtain ⟨k3, k4⟩ := key a.im a.re (by grind)
  exact ⟨k1, k2, k3, k4⟩
def sum (T : Nat → Cx) : Nat → Cx
  | 0 => zero
  | n + 1 => add (sum T n) (T n)
theorem sum_congr {T T' : Nat → Cx} : ∀ n, (∀ i, i < n → T i = T' i) → sum T n = sum T' n
  | 0, _ => rfl
  | n + 1, h => by rw [sum, sum, sum_congr n fun i hi => h i (by omega), h n (by omega)]
theorem sum_add (T T' : Nat → Cx) : ∀ n, sum (fun i => add (T i) (T' i)) n = add (sum T n) (sum T' n)
  | 0 => ext' (by simp only [sum, add, zero]; grind) (by simp only [sum, add, zero]; grind)
  | n + 1 => by rw [sum, sum_add T T' n]; exact ext' (by simp only [sum, add]; grind) (by simp only [sum, add]; grind)
theorem sum_mul (a : Cx) (T : Nat → Cx) : ∀ n, sum (fun i => mul a (T i)) n = mul a (sum T n)
  | 0 => by rw [sum, sum, mul_zero]
  | n + 1 => by rw [sum, sum_mul a T n, sum, mul_add]
theorem sum_two (T : Nat → Cx) : ∀ n, sum T (2 * n) = add (sum (fun j => T (2 * j)) n) (sum (fun j => T (2 * j + 1)) n)
  | 0 => ext' (by simp only [sum, add, zero]; grind) (by simp only [sum, add, zero]; grind)
  | n + 1 => by
    rw [show 2 * (n + 1) = 2 * n + 1 + 1 by omega, sum, sum, sum_two T n, sum, sum]
    exact ext' (by simp only [add]; grind) (by simp only [add]; grind)
theorem sum_wi {T : Nat → Cx} {D : Nat → Rat} : ∀ n, (∀ i, i < n → Wi (T i) (D i)) → Wi (sum T n) (RS D n)
  | 0, _ => ⟨by simp only [sum, zero, RS]; grind, by simp only [sum, zero, RS]; grind, by simp only [sum, zero, RS]; grind, by simp only [sum, zero, RS]; grind⟩
  | n + 1, h => (sum_wi n fun i hi => h i (by omega)).add (h n (by omega))
theorem sub_sum (T T' : Nat → Cx) : ∀ n, sub (sum T n) (sum T' n) = sum (fun i => sub (T i) (T' i)) n
  | 0 => ext' (by simp only [sum, sub, zero]; grind) (by simp only [sum, sub, zero]; grind)
  | n + 1 => by rw [sum, sum, sum, ← sub_sum T T' n]; exact ext' (by simp only [add, sub]; grind) (by simp only [add, sub]; grind)
end Cx
end Sm
