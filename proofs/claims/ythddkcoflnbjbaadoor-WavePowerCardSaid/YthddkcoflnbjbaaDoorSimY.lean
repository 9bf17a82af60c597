/-
  What is proved here: floats near numbers: sums, products, quotients, chains of sums, the other sign, constants. A text to be imported.
-/
import Derived.Test.YthddkcoflnbjbaaDoorSimR
namespace Sm
set_option linter.unusedVariables false
open Go Go.RowKit Fl Ieee

theorem pw_down (n : Nat) : pw (-(n : Int)) * ((2 ^ n : Nat) : Rat) = 1 := by rw [← pw_nat]; exact pw_neg _
theorem uU64 : uU FloatKind.f64.format = 1 / 9007199254740992 := by
  have h := pw_down 53
  have e : uU FloatKind.f64.format = pw (-((53 : Nat) : Int)) := rfl
  rw [e]
  rw [show (2 ^ 53 : Nat) = 9007199254740992 from rfl, Rat.natCast_ofNat] at h
  grind
theorem eta64 : 0 < eta FloatKind.f64.format ∧ eta FloatKind.f64.format ≤ 1 / 1267650600228229401496703205376 := by
  refine ⟨pw_pos _, ?_⟩
  have h := pw_down 100
  have h1 : eta FloatKind.f64.format ≤ pw (-((100 : Nat) : Int)) := pw_mono (by decide)
  rw [show (2 ^ 100 : Nat) = 1267650600228229401496703205376 from rfl, Rat.natCast_ofNat] at h
  grind
/-- What one rounding may add, where numbers are not beyond c. -/
def dl (c : Rat) : Rat := c * (1 / 9007199254740992) + 1 / 1267650600228229401496703205376

/-- A float that is a number, so near to one. -/
structure Ap (x : Nat) (v e : Rat) : Prop where
  num : fnum .f64 x
  hi : fv .f64 x - v ≤ e
  lo : v - fv .f64 x ≤ e

theorem Ap.pos {x : Nat} {v e : Rat} (h : Ap x v e) : 0 ≤ e := by have h1 := h.hi; have h2 := h.lo; grind
theorem Ap.le {x : Nat} {v e e' : Rat} (h : Ap x v e) (he : e ≤ e') : Ap x v e' := ⟨h.num, by have := h.hi; grind, by have := h.lo; grind⟩
theorem Ap.mv {x : Nat} {v e v' d : Rat} (h : Ap x v e) (h1 : v - v' ≤ d) (h2 : v' - v ≤ d) : Ap x v' (e + d) := ⟨h.num, by have := h.hi; grind, by have := h.lo; grind⟩
theorem Ap.self {x : Nat} (h : fnum .f64 x) : Ap x (fv .f64 x) 0 := ⟨h, by grind, by grind⟩
theorem Ap.of {x : Nat} {v : Rat} (h : fnum .f64 x ∧ fv .f64 x = v) : Ap x v 0 := ⟨h.1, by rw [h.2]; grind, by rw [h.2]; grind⟩
theorem Ap.rnd {r : Nat} {w c : Rat} (h : Rnd FloatKind.f64.format r w) (h1 : w ≤ c) (h2 : -c ≤ w) : Ap r w (dl c) := by
  have e := h.err c h1 h2
  have e2 := eta64.2
  rw [uU64] at e
  unfold dl
  exact ⟨h.num, by show vl _ r - w ≤ _; grind, by show w - vl _ r ≤ _; grind⟩

theorem Ap.add {x y : Nat} {u v d e : Rat} (hx : Ap x u d) (hy : Ap y v e) (c : Rat) (h1 : u + v + d + e ≤ c) (h2 : -c ≤ u + v - d - e) (hc : c < tp .f64) : fok .add .f64 x y = true ∧ Ap (fbin .add .f64 x y) (u + v) (d + e + dl c) := by
  have a1 := hx.hi; have a2 := hx.lo; have b1 := hy.hi; have b2 := hy.lo
  obtain ⟨k, r⟩ := fbin_add hx.num hy.num (by grind) (by grind)
  have := (Ap.rnd r (c := c) (by grind) (by grind)).mv (v' := u + v) (d := d + e) (by grind) (by grind)
  exact ⟨k, this.le (by grind)⟩
theorem Ap.sub {x y : Nat} {u v d e : Rat} (hx : Ap x u d) (hy : Ap y v e) (c : Rat) (h1 : u - v + d + e ≤ c) (h2 : -c ≤ u - v - d - e) (hc : c < tp .f64) : fok .sub .f64 x y = true ∧ Ap (fbin .sub .f64 x y) (u - v) (d + e + dl c) := by
  have a1 := hx.hi; have a2 := hx.lo; have b1 := hy.hi; have b2 := hy.lo
  obtain ⟨k, r⟩ := fbin_sub hx.num hy.num (by grind) (by grind)
  have := (Ap.rnd r (c := c) (by grind) (by grind)).mv (v' := u - v) (d := d + e) (by grind) (by grind)
  exact ⟨k, this.le (by grind)⟩
/-- Products of what lies between bounds. -/
theorem rmul_le {a b A B : Rat} (hA : 0 ≤ A) (hB : 0 ≤ B) (a1 : a ≤ A) (a2 : -A ≤ a) (b1 : b ≤ B) (b2 : -B ≤ b) : a * b ≤ A * B ∧ -(A * B) ≤ a * b := by
  have h1 : 0 ≤ (A - a) * (B + b) := Rat.mul_nonneg (by grind) (by grind)
  have h2 : 0 ≤ (A + a) * (B - b) := Rat.mul_nonneg (by grind) (by grind)
  have h3 : 0 ≤ (A - a) * (B - b) := Rat.mul_nonneg (by grind) (by grind)
  have h4 : 0 ≤ (A + a) * (B + b) := Rat.mul_nonneg (by grind) (by grind)
  constructor
  · grind
  · grind
theorem Ap.mul {x y : Nat} {u v d e U V : Rat} (hx : Ap x u d) (hy : Ap y v e) (u1 : u ≤ U) (u2 : -U ≤ u) (v1 : v ≤ V) (v2 : -V ≤ v) (c : Rat) (h1 : (U + d) * (V + e) ≤ c) (hc : c < tp .f64) :
    fok .mul .f64 x y = true ∧ Ap (fbin .mul .f64 x y) (u * v) ((U + d) * e + V * d + dl c) := by
  have a1 := hx.hi; have a2 := hx.lo; have b1 := hy.hi; have b2 := hy.lo
  have hd := hx.pos; have he := hy.pos
  have hU : 0 ≤ U := by grind
  have hV : 0 ≤ V := by grind
  have p := rmul_le (a := fv .f64 x) (b := fv .f64 y) (A := U + d) (B := V + e) (by grind) (by grind) (by grind) (by grind) (by grind) (by grind)
  obtain ⟨k, r⟩ := fbin_mul hx.num hy.num (by grind) (by grind)
  have q1 := rmul_le (a := fv .f64 x) (b := fv .f64 y - v) (A := U + d) (B := e) (by grind) he (by grind) (by grind) (by grind) (by grind)
  have q2 := rmul_le (a := v) (b := fv .f64 x - u) (A := V) (B := d) hV hd v1 v2 (by grind) (by grind)
  have e0 : fv .f64 x * fv .f64 y - u * v = fv .f64 x * (fv .f64 y - v) + v * (fv .f64 x - u) := by grind
  have := (Ap.rnd r (c := c) (by grind) (by grind)).mv (v' := u * v) (d := (U + d) * e + V * d) (by grind) (by grind)
  exact ⟨k, this.le (by grind)⟩
/-- A quotient by a constant that is at least 1. -/
theorem Ap.quo {x y : Nat} {u d q : Rat} (hx : Ap x u d) (hy : fnum .f64 y ∧ fv .f64 y = q) (hq : 1 ≤ q) (c : Rat) (h1 : u + d ≤ c) (h2 : -c ≤ u - d) (hc : c < tp .f64) : fok .quo .f64 x y = true ∧ Ap (fbin .quo .f64 x y) (u / q) (d + dl c) := by
  have a1 := hx.hi; have a2 := hx.lo
  have hd := hx.pos
  obtain ⟨n, rfl⟩ := hy
  have hq0 : (0 : Rat) < fv .f64 y := by grind
  have hi : (fv .f64 y)⁻¹ * fv .f64 y = 1 := Rat.inv_mul_cancel _ (Rat.ne_of_gt hq0)
  have hi0 : 0 < (fv .f64 y)⁻¹ := Rat.inv_pos.2 hq0
  have hi1 : (fv .f64 y)⁻¹ ≤ 1 := by
    refine Rat.not_lt.1 fun h => ?_
    have := Rat.mul_lt_mul_of_pos_right h hq0
    grind
  have ediv : ∀ a : Rat, a / fv .f64 y = a * (fv .f64 y)⁻¹ := fun a => Rat.div_def _ _
  have hc0 : 0 ≤ c := by grind
  have p := rmul_le (a := fv .f64 x) (b := (fv .f64 y)⁻¹) (A := c) (B := 1) hc0 (by grind) (by grind) (by grind) hi1 (by grind)
  obtain ⟨k, r⟩ := fbin_quo hx.num n (Rat.ne_of_gt hq0) (by rw [ediv]; grind) (by rw [ediv]; grind)
  have q1 := rmul_le (a := fv .f64 x - u) (b := (fv .f64 y)⁻¹) (A := d) (B := 1) hd (by grind) (by grind) (by grind) hi1 (by grind)
  have := (Ap.rnd r (c := c) (by rw [ediv]; grind) (by rw [ediv]; grind)).mv (v' := u / fv .f64 y) (d := d) (by rw [ediv, ediv]; grind) (by rw [ediv, ediv]; grind)
  exact ⟨k, this.le (by grind)⟩

/-! ### chains of sums -/

/-- Floats added up, from one on. -/
def fsum (t : Nat → Nat) (s : Nat) : Nat → Nat
  | 0 => s
  | n + 1 => fbin .add .f64 (fsum t s n) (t n)
/-- Numbers added up. -/
def RS (T : Nat → Rat) : Nat → Rat
  | 0 => 0
  | n + 1 => RS T n + T n
theorem fsum_congr {t t' : Nat → Nat} {s : Nat} : ∀ n, (∀ i, i < n → t i = t' i) → fsum t s n = fsum t' s n
  | 0, _ => rfl
  | n + 1, h => by rw [fsum, fsum, fsum_congr n fun i hi => h i (by omega), h n (by omega)]
theorem fsum_add (t : Nat → Nat) (s n : Nat) : ∀ m, fsum t s (n + m) = fsum (fun i => t (n + i)) (fsum t s n) m
  | 0 => rfl
  | m + 1 => by rw [← Nat.add_assoc, fsum, fsum, fsum_add t s n m]
theorem RS_congr {T T' : Nat → Rat} : ∀ n, (∀ i, i < n → T i = T' i) → RS T n = RS T' n
  | 0, _ => rfl
  | n + 1, h => by rw [RS, RS, RS_congr n fun i hi => h i (by omega), h n (by omega)]
theorem RS_add (T T' : Nat → Rat) : ∀ n, RS (fun i => T i + T' i) n = RS T n + RS T' n
  | 0 => by simp only [RS]; grind
  | n + 1 => by simp only [RS]; rw [RS_add T T' n]; grind
theorem RS_sub (T T' : Nat → Rat) : ∀ n, RS (fun i => T i - T' i) n = RS T n - RS T' n
  | 0 => by simp only [RS]; grind
  | n + 1 => by simp only [RS]; rw [RS_sub T T' n]; grind
theorem RS_mul (a : Rat) (T : Nat → Rat) : ∀ n, RS (fun i => a * T i) n = a * RS T n
  | 0 => by simp only [RS]; grind
  | n + 1 => by simp only [RS]; rw [RS_mul a T n]; grind
theorem RS_le {T D : Nat → Rat} : ∀ n, (∀ i, i < n → T i ≤ D i) → RS T n ≤ RS D n
  | 0, _ => by simp only [RS]; exact Rat.le_refl
  | n + 1, h => by
    have h1 := RS_le n fun i hi => h i (by omega)
    have h2 := h n (by omega)
    simp only [RS]
    grind
theorem RS_const (d : Rat) : ∀ n : Nat, RS (fun _ => d) n = (n : Rat) * d
  | 0 => by simp only [RS]; grind
  | n + 1 => by
    simp only [RS]
    rw [RS_const d n, Rat.natCast_add]
    grind
theorem RS_abs {T D : Nat → Rat} {n : Nat} (h : ∀ i, i < n → T i ≤ D i ∧ -D i ≤ T i) : RS T n ≤ RS D n ∧ -RS D n ≤ RS T n := by
  refine ⟨RS_le n fun i hi => (h i hi).1, ?_⟩
  have h1 := RS_le (T := fun i => -1 * T i) (D := D) n fun i hi => by have := (h i hi).2; grind
  rw [RS_mul] at h1
  grind
theorem RS_nest (T : Nat → Rat) (m : Nat) : ∀ n, RS (fun i => RS (fun j => T (m * i + j)) m) n = RS T (m * n)
  | 0 => rfl
  | n + 1 => by
    have split : ∀ k, RS T (m * n + k) = RS T (m * n) + RS (fun j => T (m * n + j)) k := fun k => by
      induction k with
      | zero => simp only [RS]; grind
      | succ k ih =>
        rw [← Nat.add_assoc, RS, RS, ih]
        grind
    rw [RS, RS_nest T m n, Nat.mul_succ, split m]
theorem RS_swap (T : Nat → Nat → Rat) (m : Nat) : ∀ n, RS (fun i => RS (T i) m) n = RS (fun j => RS (fun i => T i j) n) m
  | 0 => by
    have : ∀ m, RS (fun j => RS (fun i => T i j) 0) m = 0 := fun m => by
      induction m with
      | zero => rfl
      | succ m ih => rw [RS, ih]; simp only [RS]; grind
    rw [this]; rfl
  | n + 1 => by
    rw [RS, RS_swap T m n, ← RS_add]
    rfl
/-- A chain of sums: what it is near to; each of its additions has a word. -/
theorem fsum_ap {t : Nat → Nat} {T : Nat → Rat} {τ M B S e c : Rat} {s N : Nat} (ht : ∀ i, i < N → Ap (t i) (T i) τ) (hM : ∀ i, i < N → T i ≤ M ∧ -M ≤ T i) (hs : Ap s S e) (S1 : S ≤ B) (S2 : -B ≤ S) (hM0 : 0 ≤ M) (hτ : 0 ≤ τ) (hc0 : 0 ≤ c)
    (hc : B + (N : Rat) * M + e + (N : Rat) * (τ + dl c) ≤ c) (hct : c < tp .f64) :
    ∀ n, n ≤ N → (∀ i, i < n → fok .add .f64 (fsum t s i) (t i) = true) ∧ Ap (fsum t s n) (S + RS T n) (e + (n : Rat) * (τ + dl c)) := by
  intro n
  have hdl : 0 ≤ dl c := by
    unfold dl
    have := Rat.mul_nonneg hc0 (show (0 : Rat) ≤ 1 / 9007199254740992 by grind)
    grind
  induction n with
  | zero =>
    intro _
    refine ⟨fun i hi => absurd hi (by omega), ?_⟩
    have h0 : ((0 : Nat) : Rat) = 0 := rfl
    simp only [RS, fsum, h0]
    exact (hs.mv (v' := S + 0) (d := 0) (by grind) (by grind)).le (by grind)
  | succ n ih =>
    intro hn
    obtain ⟨i1, i2⟩ := ih (by omega)
    have ht' := ht n (by omega)
    have hM' := hM n (by omega)
    have hcast : ((n + 1 : Nat) : Rat) = (n : Rat) + 1 := Rat.natCast_add n 1
    have hle : (n : Rat) + 1 ≤ (N : Rat) := by
      rw [← hcast]
      exact Rat.natCast_le_natCast.2 hn
    have m1 := Rat.mul_le_mul_of_nonneg_right hle (show (0 : Rat) ≤ τ + dl c by grind)
    have m2 := Rat.mul_le_mul_of_nonneg_right hle hM0
    have hR := RS_abs (T := T) (D := fun _ => M) (n := n) fun i hi => hM i (by omega)
    rw [RS_const] at hR
    obtain ⟨a1, a2⟩ := i2.add ht' c (by grind) (by grind) hct
    refine ⟨fun i hi => ?_, ?_⟩
    · by_cases h : i < n
      · exact i1 i h
      · obtain rfl : i = n := by omega
        exact a1
    · rw [hcast]
      simp only [RS, fsum]
      exact (a2.mv (v' := S + (RS T n + T n)) (d := 0) (by grind) (by grind)).le (by grind)

/-! ### constants, signs -/

/-- A float as a whole number of 2^-80ths. -/
def zof (x : Nat) : Option Int :=
  match FloatKind.f64.format.read x with
  | .number s m p => if -80 ≤ p then some (signed s m (p + 80).toNat) else none
  | _ => none
theorem zof_val {x : Nat} {z : Int} (h : zof x = some z) : fnum .f64 x ∧ fv .f64 x * 1208925819614629174706176 = (z : Rat) := by
  unfold zof at h
  split at h
  · rename_i s m p hr
    split at h
    · rename_i hp
      simp only [Option.some.injEq] at h
      subst h
      refine ⟨⟨s, m, p, hr⟩, ?_⟩
      have e1 : fv .f64 x = dv (.number s m p) := by
        show dv (FloatKind.f64.format.read x) = _
        rw [hr]
      have e2 := dv_scaled (s := s) (m := m) (p := p) (b := -80) hp
      have h80 := pw_down 80
      rw [show (2 ^ 80 : Nat) = 1208925819614629174706176 from rfl, Rat.natCast_ofNat] at h80
      have e3 : (-80 : Int) = -((80 : Nat) : Int) := rfl
      rw [e1, e2, show p - -80 = p + 80 by omega, e3]
      rw [Rat.mul_assoc, h80]
      grind
    · cases h
  · cases h
/-- A constant, told as a whole number of 2^-80ths. -/
theorem kst {x : Nat} {z : Int} {q : Rat} (h : zof x = some z) (hq : q * 1208925819614629174706176 = (z : Rat)) : fnum .f64 x ∧ fv .f64 x = q := by
  obtain ⟨h1, h2⟩ := zof_val h
  exact ⟨h1, by grind⟩

theorem neg_read (x : Nat) : FloatKind.f64.format.read (Op.negFloat .f64 x) = (FloatKind.f64.format.read x).opposite := by
  have hs : FloatKind.f64.format.signWeight = 2 ^ 63 := rfl
  have h1 : Op.negFloat .f64 x = x ^^^ 2 ^ 63 := rfl
  have h2 : (x ^^^ 2 ^ 63) % 2 ^ 63 = x % 2 ^ 63 := by
    rw [Nat.xor_mod_two_pow, Nat.mod_self, Nat.xor_zero]
  have h3 : (x ^^^ 2 ^ 63) / 2 ^ 63 % 2 = 1 - x / 2 ^ 63 % 2 := by
    rw [Nat.xor_div_two_pow, Nat.div_self (by decide)]
    have : (x / 2 ^ 63 ^^^ 1) % 2 = (x / 2 ^ 63) % 2 ^^^ 1 := Nat.xor_mod_two_pow (n := 1)
    rw [this]
    have h4 : x / 2 ^ 63 % 2 = 0 ∨ x / 2 ^ 63 % 2 = 1 := by omega
    rcases h4 with h | h <;> rw [h] <;> rfl
  unfold Format.read
  rw [hs, h1, h2, h3]
  have h4 : x / 2 ^ 63 % 2 = 0 ∨ x / 2 ^ 63 % 2 = 1 := by omega
  have hb : ((1 - x / 2 ^ 63 % 2) == 1) = !(x / 2 ^ 63 % 2 == 1) := by
    rcases h4 with h | h <;> rw [h] <;> rfl
  rw [hb]
  simp only []
  split
  · rfl
  · split
    · rfl
    · split <;> rfl
theorem neg_val {x : Nat} (h : fnum .f64 x) : fnum .f64 (Op.negFloat .f64 x) ∧ fv .f64 (Op.negFloat .f64 x) = -fv .f64 x := by
  obtain ⟨s, m, p, hr⟩ := h
  have e := neg_read x
  rw [hr] at e
  refine ⟨⟨_, _, _, e⟩, ?_⟩
  show dv (FloatKind.f64.format.read _) = -dv (FloatKind.f64.format.read x)
  rw [e, hr]
  exact opp_val.2
theorem gt_iff {x y : Nat} (hx : fnum .f64 x) (hy : fnum .f64 y) : (FloatKind.f64.format.order x y == some .gt) = true ↔ fv .f64 y < fv .f64 x := by
  obtain ⟨h1, h2, h3, h4⟩ := order_val hx hy
  constructor
  · intro h
    have h := beq_iff_eq.1 h
    exact h3.1 h
  · intro h
    exact beq_iff_eq.2 (h3.2 h)
end Sm
