/-
  What is proved here: floats near numbers: sums, products, quotients, chains of sums, the other sign, constants. contracts of math.Abs, IsNaN, IsInf, of within. A text to be imported.
-/
import Derived.Test.YthddkcoflnbjbaaDoorQSimR
import Derived.Test.YthddkcoflnbjbaaDoorQBase
import Derived.Test.YthddkcoflnbjbaaDoorQCon0
namespace Sm
set_option linter.unusedVariables false
open Go Go.RowKit Fl Ieee
theorem pw_down (n : Nat) : pw (-(n : Int)) * ((2 ^ n : Nat) : Rat) = 1 := by rw [← pw_nat]; exact pw_neg _
theorem uU64 : uU FloatKind.f64.format = 1 / 9007199254740992 := by
  have h := pw_down 53
  have e : uU FloatKind.f64.format = pw (-((53 : Nat) : Int)) := rfl
  rw [e]
  rw [show (2 ^ 53 : Nat) = 9007199254740992 from rfl, Rat.natCast_ofNat] at h
  grind
theorem eta64 : 0 < eta FloatKind.f64.format ∧ eta FloatKind.f64.format ≤ 1 / 1267650600228229401496703205376 := by
  refine ⟨pw_pos _, ?_⟩
  have h := pw_down 100
  have h1 : eta FloatKind.f64.format ≤ pw (-((100 : Nat) : Int)) := pw_mono (by decide)
  rw [show (2 ^ 100 : Nat) = 1267650600228229401496703205376 from rfl, Rat.natCast_ofNat] at h
  grind
def dl (c : Rat) : Rat := c * (1 / 9007199254740992) + 1 / 1267650600228229401496703205376
structure Ap (x : Nat) (v e : Rat) : Prop where
  num : fnum .f64 x
  hi : fv .f64 x - v ≤ e
  lo : v - fv .f64 x ≤ e
theorem Ap.pos {x : Nat} {v e : Rat} (h : Ap x v e) : 0 ≤ e := by have h1 := h.hi; have h2 := h.lo; grind
theorem Ap.le {x : Nat} {v e e' : Rat} (h : Ap x v e) (he : e ≤ e') : Ap x v e' := ⟨h.num, by have := h.hi; grind, by have := h.lo; grind⟩
theorem Ap.mv {x : Nat} {v e v' d : Rat} (h : Ap x v e) (h1 : v - v' ≤ d) (h2 : v' - v ≤ d) : Ap x v' (e + d) := ⟨h.num, by have := h.hi; grind, by have := h.lo; grind⟩
theorem Ap.self {x : Nat} (h : fnum .f64 x) : Ap x (fv .f64 x) 0 := ⟨h, by grind, by grind⟩
theorem Ap.of {x : Nat} {v : Rat} (h : fnum .f64 x ∧ fv .f64 x = v) : Ap x v 0 := ⟨h.1, by rw [h.2]; grind, by rw [h.2]; grind⟩
theorem Ap.rnd {r : Nat} {w c : Rat} (h : Rnd FloatKind.f64.format r w) (h1 : w ≤ c) (h2 : -c ≤ w) : Ap r w (dl c) := by
  have e := h.err c h1 h2
  have e2 := eta64.2
  rw [uU64] at e
  unfold dl
  exact ⟨h.num, by show vl _ r - w ≤ _; grind, by show w - vl _ r ≤ _; grind⟩
theorem Ap.add {x y : Nat} {u v d e : Rat} (hx : Ap x u d) (hy : Ap y v e) (c : Rat) (h1 : u + v + d + e ≤ c) (h2 : -c ≤ u + v - d - e) (hc : c < tp .f64) : fok .add .f64 x y = true ∧ Ap (fbin .add .f64 x y) (u + v) (d + e + dl c) := by
  have a1 := hx.hi; have a2 := hx.lo; have b1 := hy.hi; have b2 := hy.lo
  obtain ⟨k, r⟩ := fbin_add hx.num hy.num (by grind) (by grind)
  have := (Ap.rnd r (c := c) (by grind) (by grind)).mv (v' := u + v) (d := d + e) (by grind) (by grind)
  exact ⟨k, this.le (by grind)⟩
theorem Ap.sub {x y : Nat} {u v d e : Rat} (hx : Ap x u d) (hy : Ap y v e) (c : Rat) (h1 : u - v + d + e ≤ c) (h2 : -c ≤ u - v - d - e) (hc : c < tp .f64) : fok .sub .f64 x y = true ∧ Ap (fbin .sub .f64 x y) (u - v) (d + e + dl c) := by
  have a1 := hx.hi; have a2 := hx.lo; have b1 := hy.hi; have b2 := hy.lo
  obtain ⟨k, r⟩ := fbin_sub hx.num hy.num (by grind) (by grind)
  have := (Ap.rnd r (c := c) (by grind) (by grind)).mv (v' := u - v) (d := d + e) (by grind) (by grind)
  exact ⟨k, this.le (by grind)⟩
theorem rmul_le {a b A B : Rat} (hA : 0 ≤ A) (hB : 0 ≤ B) (a1 : a ≤ A) (a2 : -A ≤ a) (b1 : b ≤ B) (b2 : -B ≤ b) : a * b ≤ A * B ∧ -(A * B) ≤ a * b := by
  have h1 : 0 ≤ (A - a) * (B + b) := Rat.mul_nonneg (by grind) (by grind)
  have h2 : 0 ≤ (A + a) * (B - b) := Rat.mul_nonneg (by grind) (by grind)
  have h3 : 0 ≤ (A - a) * (B - b) := Rat.mul_nonneg (by grind) (by grind)
  have h4 : 0 ≤ (A + a) * (B + b) := Rat.mul_nonneg (by grind) (by grind)
  constructor
  · grind
  · grind
theorem Ap.mul {x y : Nat} {u v d e U V : Rat} (hx : Ap x u d) (hy : Ap y v e) (u1 : u ≤ U) (u2 : -U ≤ u) (v1 : v ≤ V) (v2 : -V ≤ v) (c : Rat) (h1 : (U + d) * (V + e) ≤ c) (hc : c < tp .f64) :
    fok .mul .f64 x y = true ∧ Ap (fbin .mul .f64 x y) (u * v) ((U + d) * e + V * d + dl c) := by
  have a1 := hx.hi; have a2 := hx.lo; have b1 := hy.hi; have b2 := hy.lo
  have hd := hx.pos; have he := hy.pos
  have hU : 0 ≤ U := by grind
  have hV : 0 ≤ V := by grind
  have p := rmul_le (a := fv .f64 x) (b := fv .f64 y) (A := U + d) (B := V + e) (by grind) (by grind) (by grind) (by grind) (by grind) (by grind)
  obtain ⟨k, r⟩ := fbin_mul hx.num hy.num (by grind) (by grind)
  have q1 := rmul_le (a := fv .f64 x) (b := fv .f64 y - v) (A := U + d) (B := e) (by grind) he (by grind) (by grind) (by grind) (by grind)
  have q2 := rmul_le (a := v) (b := fv .f64 x - u) (A := V) (B := d) hV hd v1 v2 (by grind) (by grind)
  have e0 : fv .f64 x * fv .f64 y - u * v = fv .f64 x * (fv .f64 y - v) + v * (fv .f64 x - u) := by grind
  have := (Ap.rnd r (c := c) (by grind) (by grind)).mv (v' := u * v) (d := (U + d) * e + V * d) (by grind) (by grind)
  exact ⟨k, this.le (by grind)⟩
theorem Ap.quo {x y : Nat} {u d q : Rat} (hx : Ap x u d) (hy : fnum .f64 y ∧ fv .f64 y = q) (hq : 1 ≤ q) (c : Rat) (h1 : u + d ≤ c) (h2 : -c ≤ u - d) (hc : c < tp .f64) : fok .quo .f64 x y = true ∧ Ap (fbin .quo .f64 x y) (u / q) (d + dl c) := by
  have a1 := hx.hi; have a2 := hx.lo
  have hd := hx.pos
  obtain ⟨n, rfl⟩ := hy
  have hq0 : (0 : Rat) < fv .f64 y := by grind
  have hi : (fv .f64 y)⁻¹ * fv .f64 y = 1 := Rat.inv_mul_cancel _ (Rat.ne_of_gt hq0)
  have hi0 : 0 < (fv .f64 y)⁻¹ := Rat.inv_pos.2 hq0
  have hi1 : (fv .f64 y)⁻¹ ≤ 1 := by
    refine Rat.not_lt.1 fun h => ?_
    have := Rat.mul_lt_mul_of_pos_right h hq0
    grind
  have ediv : ∀ a : Rat, a / fv .f64 y = a * (fv .f64 y)⁻¹ := fun a => Rat.div_def _ _
  have hc0 : 0 ≤ c := by grind
  have p := rmul_le (a := fv .f64 x) (b := (fv .f64 y)⁻¹) (A := c) (B := 1) hc0 (by grind) (by grind) (by grind) hi1 (by grind)
  obtain ⟨k, r⟩ := fbin_quo hx.num n (Rat.ne_of_gt hq0) (by rw [ediv]; grind) (by rw [ediv]; grind)
  have q1 := rmul_le (a := fv .f64 x - u) (b := (fv .f64 y)⁻¹) (A := d) (B := 1) hd (by grind) (by grind) (by grind) hi1 (by grind)
  have := (Ap.rnd r (c := c) (by rw [ediv]; grind) (by rw [ediv]; grind)).mv (v' := u / fv .f64 y) (d := d) (by rw [ediv, ediv]; grind) (by rw [ediv, ediv]; grind)
  exact ⟨k, this.le (by grind)⟩
/-! ### chains of sums -/
def fsum (t : Nat → Nat) (s : Nat) : Nat → Nat
  | 0 => s
  | n + 1 => fbin .add .f64 (fsum t s n) (t n)
def RS (T : Nat → Rat) : Nat → Rat
  | 0 => 0
  | n + 1 => RS T n + T n
theorem fsum_congr {t t' : Nat → Nat} {s : Nat} : ∀ n, (∀ i, i < n → t i = t' i) → fsum t s n = fsum t' s n
  | 0, _ => rfl
  | n + 1, h => by rw [fsum, fsum, fsum_congr n fun i hi => h i (by omega), h n (by omega)]
theorem fsum_add (t : Nat → Nat) (s n : Nat) : ∀ m, fsum t s (n + m) = fsum (fun i => t (n + i)) (fsum t s n) m
  | 0 => rfl
  | m + 1 => by rw [← Nat.add_assoc, fsum, fsum, fsum_add t s n m]
theorem RS_congr {T T' : Nat → Rat} : ∀ n, (∀ i, i < n → T i = T' i) → RS T n = RS T' n
  | 0, _ => rfl
  | n + 1, h => by rw [RS, RS, RS_congr n fun i hi => h i (by omega), h n (by omega)]
theorem RS_mul (a : Rat) (T : Nat → Rat) : ∀ n, RS (fun i => a * T i) n = a * RS T n
  | 0 => by simp only [RS]; grind
  | n + 1 => by simp only [RS]; rw [RS_mul a T n]; grind
theorem RS_le {T D : Nat → Rat} : ∀ n, (∀ i, i < n → T i ≤ D i) → RS T n ≤ RS D n
  | 0, _ => by simp only [RS]; exact Rat.le_refl
  | n + 1, h => by
    have h1 := RS_le n fun i hi => h i (by omega)
    have h2 := h n (by omega)
    simp only [RS]
    grind
theorem RS_const (d : Rat) : ∀ n : Nat, RS (fun _ => d) n = (n : Rat) * d
  | 0 => by simp only [RS]; grind
  | n + 1 => by
    simp only [RS]
    rw [RS_const d n, Rat.natCast_add]
    grind
/-! ### constants, signs -/
def zof (x : Nat) : Option Int :=
  match FloatKind.f64.format.read x with
  | .number s m p => if -80 ≤ p then some (signed s m (p + 80).toNat) else none
  | _ => none
theorem zof_val {x : Nat} {z : Int} (h : zof x = some z) : fnum .f64 x ∧ fv .f64 x * 1208925819614629174706176 = (z : Rat) := by
  unfold zof at h
  split at h
  · rename_i s m p hr
    split at h
    · rename_i hp
      simp only [Option.some.injEq] at h
      subst h
      refine ⟨⟨s, m, p, hr⟩, ?_⟩
      have e1 : fv .f64 x = dv (.number s m p) := by
        show dv (FloatKind.f64.format.read x) = _
        rw [hr]
      have e2 := dv_scaled (s := s) (m := m) (p := p) (b := -80) hp
      have h80 := pw_down 80
      rw [show (2 ^ 80 : Nat) = 1208925819614629174706176 from rfl, Rat.natCast_ofNat] at h80
      have e3 : (-80 : Int) = -((80 : Nat) : Int) := rfl
      rw [e1, e2, show p - -80 = p + 80 by omega, e3]
      rw [Rat.mul_assoc, h80]
      grind
    · cases h
  · cases h
theorem kst {x : Nat} {z : Int} {q : Rat} (h : zof x = some z) (hq : q * 1208925819614629174706176 = (z : Rat)) : fnum .f64 x ∧ fv .f64 x = q := by
  obtain ⟨h1, h2⟩ := zof_val h
  exact ⟨h1, by grind⟩
theorem neg_read (x : Nat) : FloatKind.f64.format.read (Op.negFloat .f64 x) = (FloatKind.f64.format.read x).opposite := by
  have hs : FloatKind.f64.format.signWeight = 2 ^ 63 := rfl
  have h1 : Op.negFloat .f64 x = x ^^^ 2 ^ 63 := rfl
  have h2 : (x ^^^ 2 ^ 63) % 2 ^ 63 = x % 2 ^ 63 := by
    rw [Nat.xor_mod_two_pow, Nat.mod_self, Nat.xor_zero]
  have h3 : (x ^^^ 2 ^ 63) / 2 ^ 63 % 2 = 1 - x / 2 ^ 63 % 2 := by
    rw [Nat.xor_div_two_pow, Nat.div_self (by decide)]
    have : (x / 2 ^ 63 ^^^ 1) % 2 = (x / 2 ^ 63) % 2 ^^^ 1 := Nat.xor_mod_two_pow (n := 1)
    rw [this]
    have h4 : x / 2 ^ 63 % 2 = 0 ∨ x / 2 ^ 63 % 2 = 1 := by omega
    rcases h4 with h | h <;> rw [h] <;> rfl
  unfold Format.read
  rw [hs, h1, h2, h3]
  have h4 : x / 2 ^ 63 % 2 = 0 ∨ x / 2 ^ 63 % 2 = 1 := by omega
  have hb : ((1 - x / 2 ^ 63 % 2) == 1) = !(x / 2 ^ 63 % 2 == 1) := by
    rcases h4 with h | h <;> rw [h] <;> rfl
  rw [hb]
  simp only []
  split
  · rfl
  · split
    · rfl
    · split <;> rfl
theorem neg_val {x : Nat} (h : fnum .f64 x) : fnum .f64 (Op.negFloat .f64 x) ∧ fv .f64 (Op.negFloat .f64 x) = -fv .f64 x := by
  obtain ⟨s, m, p, hr⟩ := h
  have e := neg_read x
  rw [hr] at e
  refine ⟨⟨_, _, _, e⟩, ?_⟩
  show dv (FloatKind.f64.format.read _) = -dv (FloatKind.f64.format.read x)
  rw [e, hr]
  exact opp_val.2
end Sm
namespace Go.Proofs.YthddkcoflnbjbaaDoor
open Sm Go Go.RowKit
set_option maxRecDepth 1000000
set_option linter.unusedVariables false
noncomputable def FM0 : Fns := ((Fns.none.addX 35 GBits).addX 34 GFrom).addX 36 GRoot
theorem FM0ok : FnsOk Tryd.prog FM0 := ((FnsOk.none.addX (ext_bits Tryd.func35 (by kernel_rfl) (by kernel_rfl) (by kernel_rfl) (by kernel_rfl))).addX (ext_from Tryd.func34 (by kernel_rfl) (by kernel_rfl) (by kernel_rfl) (by kernel_rfl))).addX (ext_root Tryd.func36 (by kernel_rfl) (by kernel_rfl) (by kernel_rfl) (by kernel_rfl))
def AF (x : Nat) : AV := .one (.sc (.float .f64 x) false)
def absW (x : Nat) : Nat := (IntKind.u64.wrap ((BitVec.ofInt IntKind.u64.bits (x : Int) &&& ~~~BitVec.ofInt IntKind.u64.bits 9223372036854775808).toNat : Int)).toNat
def nanB (x : Nat) : Bool := FloatKind.f64.format.order x x != some .eq
def maxW : Nat := 9218868437227405311
def infB (x : Nat) : Bool := FloatKind.f64.format.order (absW x) maxW == some .gt
def fle (x y : Nat) : Bool := FloatKind.f64.format.order x y == some .lt || FloatKind.f64.format.order x y == some .eq
theorem run50 (x : Nat) (u : Value) : runK Tryd.prog T FM0 300 Tryd.f50 [AF x] [] [] (fun r _ => resW r = some u) = (some (Value.bool (nanB x)) = some u) := by kernel_rfl
def GNaN : List ArgV → Option Value
  | [.val (.float .f64 x)] => some (.bool (nanB x))
  | _ => none
theorem con50 : Con Tryd.prog 50 GNaN := by
  refine con_of_runW hm hT FM0ok Tryd.func50 Tryd.call50 fun avs u h => ?_
  unfold GNaN at h
  split at h
  · simp only [Option.some.injEq] at h; subst h
    exact ⟨[], 300, [], _, _, rfl, of_run (run50 _ _) rfl⟩
  · cases h
theorem run22 (x : Nat) (u : Value) : runK Tryd.prog T FM0 300 Tryd.f22 [AF x] [] [] (fun r _ => resW r = some u) = (some (Value.float .f64 (absW x)) = some u) := by kernel_rfl
def GAbs : List ArgV → Option Value
  | [.val (.float .f64 x)] => some (.float .f64 (absW x))
  | _ => none
theorem con22 : Con Tryd.prog 22 GAbs := by
  refine con_of_runW hm hT FM0ok Tryd.func22 Tryd.call22 fun avs u h => ?_
  unfold GAbs at h
  split at h
  · simp only [Option.some.injEq] at h; subst h
    exact ⟨[], 300, [], _, _, rfl, of_run (run22 _ _) rfl⟩
  · cases h
noncomputable def FM1 : Fns := (FM0.add 22 GAbs).add 50 GNaN
theorem FM1ok : FnsOk Tryd.prog FM1 := (FM0ok.add con22).add con50
theorem run51 (x : Nat) (u : Value) : runK Tryd.prog T FM1 300 Tryd.f51 [AF x, li 0] [] [] (fun r _ => resW r = some u) = (some (Value.bool (infB x)) = some u) := by kernel_rfl
def GInf : List ArgV → Option Value
  | [.val (.float .f64 x), .val (.int .i64 0)] => some (.bool (infB x))
  | _ => none
theorem con51 : Con Tryd.prog 51 GInf := by
  refine con_of_runW hm hT FM1ok Tryd.func51 Tryd.call51 fun avs u h => ?_
  unfold GInf at h
  split at h
  · simp only [Option.some.injEq] at h; subst h
    exact ⟨[false, true], 300, [], _, _, rfl, of_run (run51 _ _) rfl⟩
  · cases h
theorem run19 (x y m : Nat) (u : Value) : runK Tryd.prog T FM1 300 Tryd.f19 [AF x, AF y, AF m] [] [] (fun r _ => resW r = some u) = (fok .sub .f64 x y = true ∧ some (Value.bool (fle (absW (fbin .sub .f64 x y)) m)) = some u) := by kernel_rfl
def GWithin : List ArgV → Option (Prop × Value)
  | [.val (.float .f64 x), .val (.float .f64 y), .val (.float .f64 m)] => some (fok .sub .f64 x y = true, .bool (fle (absW (fbin .sub .f64 x y)) m))
  | _ => none
theorem con19 : ConP Tryd.prog 19 GWithin := by
  refine conP_of_runW hm hT FM1ok Tryd.func19 Tryd.call19 fun avs p u h hp => ?_
  unfold GWithin at h
  split at h
  · simp only [Option.some.injEq, Prod.mk.injEq] at h
    obtain ⟨rfl, rfl⟩ := h
    exact ⟨[], 300, [], _, _, rfl, of_run (run19 _ _ _ _) ⟨hp, rfl⟩⟩
  · cases h
noncomputable def FM : Fns := (FM1.add 51 GInf).addP 19 GWithin
theorem FMok : FnsOk Tryd.prog FM := (FM1ok.add con51).addP con19
end Go.Proofs.YthddkcoflnbjbaaDoor
