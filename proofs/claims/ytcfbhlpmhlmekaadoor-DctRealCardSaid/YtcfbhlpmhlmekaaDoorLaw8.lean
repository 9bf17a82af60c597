/-
  What is proved here: the law DctReal, its whole runs, and that it holds. A text to be imported.
-/
import Derived.Test.YtcfbhlpmhlmekaaDoorCon16
import Derived.Test.YtcfbhlpmhlmekaaDoorLaw3
namespace Go.Proofs.YtcfbhlpmhlmekaaDoor
open Sm Go Go.RowKit Fl Ieee
set_option maxRecDepth 1000000
set_option linter.unusedVariables false
set_option linter.unusedSimpArgs false
def eqF (f : Nat → Nat) : Nat → Nat → Bool
  | _, 0 => true
  | i, k + 1 => Op.floatEq .f64 (f i) (f i) && eqF f (i + 1) k
def bdW (f : Nat → Nat) : Nat := fbin .mul .f64 (sN (lstN f) 64) wBd
theorem run3u (f : Nat → Nat) (u : Value) : runK Tryd.prog T F3u 400 Tryd.f3 [.agg (flC f)] [] [.b true] (fun r _ => resW r = some u) =
  (True ∧ True ∧ (∃ k0, k0 < 64 ∧ okN9 (lstN f) k0 ∧ tmB (lstN f k0) = false) ∧ (!false) = true ∧ some (Value.bool true) = some u) := by kernel_rfl
theorem run3t (f : Nat → Nat) (u : Value) : runK Tryd.prog T F3t 400 Tryd.f3 [.agg (flC f)] [] [.b false] (fun r _ => resW r = some u) =
  ((∀ i : Nat, i < 64 → okR (lstN f) i) ∧ (∀ i : Nat, i < 64 → okWv (lstN f) i) ∧ (okN9 (lstN f) 64 ∧ fok .mul .f64 (sN (lstN f) 64) wBd = true) ∧ (!true) = false ∧
   (∀ y : Nat, y < 8 → ∀ x : Nat, x < 8 → okRr (lstN f) y x) ∧ (∀ p ∈ obN (lstN (SR (lstN f) 64 0)) (lstN (ZRr (lstN f) 64)) (bdW f), p) ∧
   (∀ y : Nat, y < 8 → ∀ x : Nat, x < 8 → okRw (lstN f) y x) ∧ (∀ p ∈ obN (lstN (SV (lstN f) 64 0)) (lstN (ZRw (lstN f) 64)) (bdW f), p) ∧
   some (Value.bool (bif (bif eqF f 0 64 then true else false) then true else false)) = some u) := by kernel_rfl
def BX : Rat := 100000000000000000000000000000000000000000000000000000000000000000000000000000000000000000000000000000
def GG : Rat := 10000000000000000000000000000000000000000000000000000000000000000000000000000000000000000000000000000000000000000000000000000000000000000000000000000000000000000000000000000000000000000000000000000000000000000000000000000
theorem tp_GG : ∀ c : Rat, c ≤ GG → c < tp .f64 := fun c h => by
  have h1 := pw_nat 1000
  have h2 : pw ((1000 : Nat) : Int) ≤ tp .f64 := by unfold tp; rw [top64]; exact pw_mono (by decide)
  have h3 : GG < ((2 ^ 1000 : Nat) : Rat) := by unfold GG; decide +kernel
  rw [← h1] at h3
  grind
theorem BX_GG : 1000000 * BX ≤ GG ∧ 1000000 ≤ BX := by unfold BX GG; decide +kernel
/-- The number of a float that is a constant and whole in 2^-80ths. -/
theorem rd_w100 : ∃ m p, FloatKind.f64.format.read w100 = .number false m p := ⟨5147557589468029, 280, by kernel_rfl⟩
theorem rd_nw100 : ∃ m p, FloatKind.f64.format.read nw100 = .number true m p := ⟨5147557589468029, 280, by kernel_rfl⟩
theorem n100 : fnum .f64 w100 ∧ fnum .f64 nw100 := by
  obtain ⟨m, p, h⟩ := rd_w100
  obtain ⟨m', p', h'⟩ := rd_nw100
  exact ⟨⟨_, m, p, h⟩, ⟨_, m', p', h'⟩⟩
theorem v100 : fv .f64 w100 ≤ BX ∧ -BX ≤ fv .f64 nw100 := by
  have h1 : FloatKind.f64.format.read w100 = .number false 5147557589468029 280 := by kernel_rfl
  have h2 : FloatKind.f64.format.read nw100 = .number true 5147557589468029 280 := by kernel_rfl
  have e : pw ((280 : Nat) : Int) = ((2 ^ 280 : Nat) : Rat) := pw_nat 280
  constructor
  · show Fl.dv (FloatKind.f64.format.read w100) ≤ BX
    rw [h1]
    have : Fl.dv (.number false 5147557589468029 280) = ((5147557589468029 : Nat) : Rat) * pw ((280 : Nat) : Int) := by simp [Fl.dv, Fl.sg]
    rw [this, e]
    unfold BX; decide +kernel
  · show -BX ≤ Fl.dv (FloatKind.f64.format.read nw100)
    rw [h2]
    have : Fl.dv (.number true 5147557589468029 280) = -1 * ((5147557589468029 : Nat) : Rat) * pw ((280 : Nat) : Int) := by simp [Fl.dv, Fl.sg]
    rw [this, e]
    unfold BX; decide +kernel
theorem tm_ok {y : Nat} (h : tmB y = true) : fnum .f64 y ∧ ab (fv .f64 y) ≤ BX := by
  unfold tmB at h
  cases h1 : leW y w100 with
  | false => rw [h1] at h; cases h
  | true =>
    rw [h1, cond_true] at h
    have hy : fnum .f64 y := by
      obtain ⟨m1, p1, r1⟩ := rd_w100
      obtain ⟨m2, p2, r2⟩ := rd_nw100
      cases hr : FloatKind.f64.format.read y with
      | number s m p => exact ⟨s, m, p, hr⟩
      | infinity s =>
        exfalso
        unfold leW Format.order at h1
        unfold geW Format.order at h
        rw [hr, r1] at h1
        rw [hr, r2] at h
        cases s <;> simp [Datum.order] at h1 h
      | nan s t =>
        exfalso
        unfold leW Format.order at h1
        rw [hr] at h1
        simp [Datum.order] at h1
    have a := (leW_iff hy n100.1).1 h1
    have b := (geW_iff hy n100.2).1 h
    have := v100
    exact ⟨hy, ab_le (by grind) (by grind)⟩
def TmB (y : Nat → Nat) : Prop := ∀ k, k < 64 → tmB (y k) = true
theorem LB {y : Nat → Nat} (h : TmB y) : 0 ≤ Lh y ∧ Lh y ≤ 64 * BX ∧ (∀ k, k < 64 → fv .f64 (y k) ≤ Lh y ∧ -Lh y ≤ fv .f64 (y k) ∧ aY y k ≤ Lh y) ∧ 10000 * Lh y + 10000 ≤ GG := by
  have p0 : ∀ k, 0 ≤ aY y k := fun k => (ab_bd _).1
  obtain ⟨g1, g2⟩ := BX_GG
  have a := RS_le (T := aY y) (D := fun _ => BX) 64 fun i hi => (tm_ok (h i hi)).2
  have b := RS_le (T := fun _ => (0 : Rat)) (D := aY y) 64 fun i _ => p0 i
  rw [RS_const, show ((64 : Nat) : Rat) = 64 from rfl] at a b
  have c : ∀ k, k < 64 → aY y k ≤ Lh y := fun k hk => RS_single 64 (fun i _ => p0 i) k hk
  unfold Lh at *
  refine ⟨by grind, by grind, fun k hk => ?_, by grind⟩
  have := ab_bd (fv .f64 (y k))
  have := c k hk
  unfold aY at *
  exact ⟨by grind, by grind, by grind⟩
theorem sN_eq (y : Nat → Nat) : ∀ k, sN y k = fsum (fun i => awayF (y i)) w1 k
  | 0 => rfl
  | k + 1 => by show fbin _ _ _ _ = fbin _ _ _ _; rw [sN_eq y k]
theorem sN_pre {y : Nat → Nat} {m : Nat} (hm : m ≤ 64) (h : ∀ k, k < m → tmB (y k) = true) : ∀ k, k < m → fok .add .f64 (sN y k) (awayF (y k)) = true := by
  obtain ⟨g1, g2⟩ := BX_GG
  have hmr : (m : Rat) ≤ 64 := Rat.natCast_le_natCast.2 hm
  have hm0 : (0 : Rat) ≤ m := Rat.natCast_nonneg
  have k1 : (m : Rat) * BX ≤ 64 * BX := Rat.mul_le_mul_of_nonneg_right hmr (by grind)
  have k2 : (m : Rat) * (0 + dl (70 * BX + 10)) ≤ 64 * (0 + dl (70 * BX + 10)) := Rat.mul_le_mul_of_nonneg_right hmr (by unfold dl; grind)
  have := fsum_ap (t := fun i => awayF (y i)) (T := fun i => ab (fv .f64 (y i))) (τ := 0) (M := BX) (B := 1) (S := 1) (e := 0) (c := 70 * BX + 10) (s := w1) (N := m) (fun i hi => away_ap (tm_ok (h i hi)).1) (fun i hi => ⟨(tm_ok (h i hi)).2, by have := (ab_bd (fv .f64 (y i))).1; grind⟩) w1_ap (by grind) (by grind) (by grind) (by grind) (by grind) (by unfold dl at k2 ⊢; grind) (tp_GG _ (by grind)) m (Nat.le_refl _)
  exact fun k hk => by rw [sN_eq]; exact this.1 k hk
theorem sN_all {y : Nat → Nat} (h : TmB y) : Ap (sN y 64) (1 + Lh y) (1 / 1000000000 * (1 + Lh y)) := by
  obtain ⟨h0, h1, h2, h3⟩ := LB h
  have p0 : ∀ k, 0 ≤ aY y k := fun k => (ab_bd _).1
  have := fsum_ap (t := fun i => awayF (y i)) (T := aY y) (τ := 0) (M := Lh y) (B := 1) (S := 1) (e := 0) (c := 70 * Lh y + 10) (s := w1) (N := 64) (fun i hi => away_ap (tm_ok (h i hi)).1) (fun i hi => ⟨(h2 i hi).2.2, by have := p0 i; grind⟩) w1_ap (by grind) (by grind) h0 (by grind) (by grind) (by rw [show ((64 : Nat) : Rat) = 64 from rfl]; unfold dl; grind) (tp_GG _ (by grind)) 64 (Nat.le_refl _)
  rw [show ((64 : Nat) : Rat) = 64 from rfl] at this
  rw [sN_eq]
  have e : RS (aY y) 64 = Lh y := rfl
  rw [e] at this
  exact this.2.le (by unfold dl; grind)
theorem wBd_ap : Ap wBd (1001 / 1000000000000) (1 / 1000000000000000000000000) := by
  have h := kst2 (x := wBd) (m := 4840538981736975) (n := 82) (q := 4840538981736975 / 4835703278458516698824704) (by kernel_rfl) (by decide +kernel)
  have a := (Ap.of h).mv (v' := 1001 / 1000000000000) (d := 1 / 1000000000000000000000000) (by decide +kernel) (by decide +kernel)
  exact a.le (by decide +kernel)
theorem bdW_ok {y : Nat → Nat} (h : TmB y) : fok .mul .f64 (sN y 64) wBd = true ∧ fnum .f64 (fbin .mul .f64 (sN y 64) wBd) ∧ 1 / 1000000000 * (1 + Lh y) ≤ fv .f64 (fbin .mul .f64 (sN y 64) wBd) := by
  obtain ⟨h0, h1, h2, h3⟩ := LB h
  have a := sN_all h
  generalize Lh y = L at *
  obtain ⟨k, b⟩ := a.mul wBd_ap (U := 1 + L) (V := 1001 / 1000000000000) (by grind) (by grind) (by grind) (by grind) (1 + L) (by grind) (tp_GG _ (by grind))
  refine ⟨k, b.num, ?_⟩
  have := b.lo
  unfold dl at this
  grind
/-! a sum of 64 products -/
def dw2 : Rat := 1 / 5000000000000000
theorem lin2 {wt f : Nat → Nat} {C : Nat → Rat} {S : Rat} (hw : ∀ k, k < 64 → Ap (wt k) (C k) dw2 ∧ C k ≤ 1 ∧ -1 ≤ C k) (hf : ∀ k, k < 64 → fnum .f64 (f k) ∧ fv .f64 (f k) ≤ S ∧ -S ≤ fv .f64 (f k)) (h0 : 0 ≤ S) (hS : 10000 * S + 10000 ≤ GG) :
    (∀ k, k < 64 → fok .mul .f64 (wt k) (f k) = true ∧ fok .add .f64 (fsum (fun k => fbin .mul .f64 (wt k) (f k)) 0 k) (fbin .mul .f64 (wt k) (f k)) = true) ∧ Ap (fsum (fun k => fbin .mul .f64 (wt k) (f k)) 0 64) (RS (fun k => C k * fv .f64 (f k)) 64) (1 / 1000000000000 * S + 1 / 1000000000000) ∧
    RS (fun k => C k * fv .f64 (f k)) 64 ≤ 64 * S ∧ -(64 * S) ≤ RS (fun k => C k * fv .f64 (f k)) 64 := by
  have hm : ∀ k, k < 64 → fok .mul .f64 (wt k) (f k) = true ∧ Ap (fbin .mul .f64 (wt k) (f k)) (C k * fv .f64 (f k)) (1 / 1000000000000000 * S + 1 / 10000000000000000000) := fun k hk => by
    obtain ⟨a, a1, a2⟩ := hw k hk
    obtain ⟨b, b1, b2⟩ := hf k hk
    obtain ⟨q1, q2⟩ := a.mul (Ap.self b) (U := 1) (V := S) a1 a2 b1 b2 (2 * S) (by unfold dw2; grind) (tp_GG _ (by grind))
    exact ⟨q1, q2.le (by unfold dl dw2; grind)⟩
  have hM : ∀ k, k < 64 → C k * fv .f64 (f k) ≤ S ∧ -S ≤ C k * fv .f64 (f k) := fun k hk => by
    obtain ⟨a, a1, a2⟩ := hw k hk
    obtain ⟨b, b1, b2⟩ := hf k hk
    have := rmul_le (a := C k) (b := fv .f64 (f k)) (A := 1) (B := S) (by grind) h0 a1 a2 b1 b2
    constructor <;> grind
  have hR := RS_abs (T := fun k => C k * fv .f64 (f k)) (D := fun _ => S) (n := 64) fun k hk => hM k hk
  rw [RS_const, show ((64 : Nat) : Rat) = 64 from rfl] at hR
  have := fsum_ap (t := fun k => fbin .mul .f64 (wt k) (f k)) (T := fun k => C k * fv .f64 (f k)) (τ := 1 / 1000000000000000 * S + 1 / 10000000000000000000) (M := S) (B := 0) (S := 0) (e := 0) (c := 70 * S + 1) (s := 0) (N := 64) (fun k hk => (hm k hk).2) hM (Ap.of zero_val) (by grind) (by grind) h0 (by grind) (by grind) (by rw [show ((64 : Nat) : Rat) = 64 from rfl]; unfold dl; grind) (tp_GG _ (by grind)) 64 (Nat.le_refl _)
  rw [show ((64 : Nat) : Rat) = 64 from rfl] at this
  refine ⟨fun k hk => ⟨(hm k hk).1, this.1 k hk⟩, ?_, by grind, by grind⟩
  exact (this.2.mv (v' := RS (fun k => C k * fv .f64 (f k)) 64) (d := 0) (by grind) (by grind)).le (by unfold dl; grind)
/-! the reference's waves -/
def vZ (j : Nat) : Int := (zof (cosW.getD j 0)).getD 0
def vW (j : Nat) : Rat := (vZ j : Rat) / 1208925819614629174706176
theorem vW_all : ∀ j, j < 64 → (zof (cosW.getD j 0)).isSome = true ∧ vW j ≤ 1 ∧ -1 ≤ vW j := by decide +kernel
theorem half_all : ∀ j, j < 64 → cR j - vW j / 2 ≤ 1 / 5000000000000000 ∧ -(1 / 5000000000000000) ≤ cR j - vW j / 2 := by decide +kernel
theorem wv_ap {u x : Nat} (hu : u < 8) (hx : x < 8) : Ap (wv (u : Nat) (x : Nat)) (vW (8 * u + x)) 0 := by
  obtain ⟨h1, _, _⟩ := vW_all (8 * u + x) (by omega)
  obtain ⟨z, hz⟩ := Option.isSome_iff_exists.1 h1
  rw [wv_eq]
  refine .of (kst hz ?_)
  unfold vW vZ
  rw [hz, Option.getD_some, Rat.div_def, Rat.mul_assoc, Rat.inv_mul_cancel _ (by decide), Rat.mul_one]
theorem ww_ok {a b c d : Nat} (ha : a < 8) (hb : b < 8) (hc : c < 8) (hd : d < 8) : fok .mul .f64 (wv (a : Nat) (b : Nat)) (wv (c : Nat) (d : Nat)) = true ∧ Ap (fbin .mul .f64 (wv (a : Nat) (b : Nat)) (wv (c : Nat) (d : Nat))) (vW (8 * a + b) * vW (8 * c + d)) dw2 ∧
    vW (8 * a + b) * vW (8 * c + d) ≤ 1 ∧ -1 ≤ vW (8 * a + b) * vW (8 * c + d) := by
  obtain ⟨_, a1, a2⟩ := vW_all (8 * a + b) (by omega)
  obtain ⟨_, b1, b2⟩ := vW_all (8 * c + d) (by omega)
  obtain ⟨q1, q2⟩ := (wv_ap ha hb).mul (wv_ap hc hd) a1 a2 b1 b2 1 (by grind) (tp_GG _ (by unfold GG; decide +kernel))
  have := rmul_le (a := vW (8 * a + b)) (b := vW (8 * c + d)) (A := 1) (B := 1) (by grind) (by grind) a1 a2 b1 b2
  exact ⟨q1, q2.le (by unfold dl dw2; grind), by grind, by grind⟩
theorem four_val : fnum .f64 four ∧ fv .f64 four = 4 := kst (z := 4835703278458516698824704) (by decide +kernel) (by decide +kernel)
theorem prod_half {a b p q : Rat} (h1 : a - p / 2 ≤ 1 / 5000000000000000) (h2 : -(1 / 5000000000000000) ≤ a - p / 2) (h3 : b - q / 2 ≤ 1 / 5000000000000000) (h4 : -(1 / 5000000000000000) ≤ b - q / 2) (b1 : b ≤ 1 / 2) (b2 : -(1 / 2) ≤ b) (p1 : p ≤ 1) (p2 : -1 ≤ p) :
    a * b - p * q / 4 ≤ 1 / 1000000000000000 ∧ -(1 / 1000000000000000) ≤ a * b - p * q / 4 := by
  have k1 := rmul_le (a := a - p / 2) (b := b) (A := 1 / 5000000000000000) (B := 1 / 2) (by grind) (by grind) h1 h2 b1 b2
  have k2 := rmul_le (a := p / 2) (b := b - q / 2) (A := 1 / 2) (B := 1 / 5000000000000000) (by grind) (by grind) (by grind) (by grind) h3 h4
  constructor <;> grind

/-! Rr -/
def ARr (i k : Nat) : Rat := vW (8 * (k % 8) + i % 8) * vW (8 * (k / 8) + i / 8)
theorem refRr {y : Nat → Nat} (h : TmB y) : ∀ b, b < 8 → ∀ a, a < 8 → okRr y b a ∧ Ap (zRr y (8 * b + a)) (RS (fun k => ARr (8 * b + a) k * fv .f64 (y k)) 64 / 4) (1 / 100000000000 * Lh y + 1 / 100000000000) := fun b hb a ha => by
  obtain ⟨h0, h1, h2, h3⟩ := LB h
  have hw : ∀ k, k < 64 → fok .mul .f64 (wv ((k % 8 : Nat) : Int) (a : Nat)) (wv ((k / 8 : Nat) : Int) (b : Nat)) = true ∧ Ap (aRr b a (k / 8) (k % 8)) (ARr (8 * b + a) k) dw2 ∧ ARr (8 * b + a) k ≤ 1 ∧ -1 ≤ ARr (8 * b + a) k := fun k hk => by
    have := ww_ok (a := k % 8) (b := a) (c := k / 8) (d := b) (by omega) ha (by omega) hb
    unfold ARr aRr
    rw [show (8 * b + a) % 8 = a by omega, show (8 * b + a) / 8 = b by omega]
    exact this
  obtain ⟨l1, l2, l3, l4⟩ := lin2 (wt := fun k => aRr b a (k / 8) (k % 8)) (f := y) (C := ARr (8 * b + a)) (S := Lh y) (fun k hk => (hw k hk).2) (fun k hk => ⟨(tm_ok (h k hk)).1, (h2 k hk).1, (h2 k hk).2.1⟩) h0 h3
  have es : ∀ n, n ≤ 64 → sRr y b a n = fsum (fun k => fbin .mul .f64 (aRr b a (k / 8) (k % 8)) (y k)) 0 n := fun n hn => by
    unfold sRr
    exact fsum_congr n fun k hk => by unfold tRr; rw [show 8 * (k / 8) + k % 8 = k by omega]
  obtain ⟨q, r⟩ := l2.quo (q := 4) four_val (by grind) (65 * Lh y + 1) (by grind) (by grind) (tp_GG _ (by grind))
  refine ⟨⟨fun v hv u hu => ?_, by rw [es 64 (Nat.le_refl _)]; exact q⟩, ?_⟩
  · have e1 : (8 * v + u) / 8 = v := by omega
    have e2 : (8 * v + u) % 8 = u := by omega
    have ea : aRr b a v u = aRr b a ((8 * v + u) / 8) ((8 * v + u) % 8) := by rw [e1, e2]
    have et : tRr y b a v u = fbin .mul .f64 (aRr b a ((8 * v + u) / 8) ((8 * v + u) % 8)) (y (8 * v + u)) := by unfold tRr; rw [← ea]
    obtain ⟨m1, m2⟩ := l1 (8 * v + u) (by omega)
    have m0 := (hw (8 * v + u) (by omega)).1
    rw [e1, e2] at m0
    refine ⟨m0, by rw [ea]; exact m1, ?_⟩
    rw [es _ (by omega), et]
    exact m2
  · unfold zRr
    rw [show (8 * b + a) / 8 = b by omega, show (8 * b + a) % 8 = a by omega, es 64 (Nat.le_refl _)]
    exact r.le (by unfold dl; grind)
theorem prgRr {y : Nat → Nat} (h : TmB y) : ∀ i, i < 64 → okR y i ∧ Ap (SR y 64 0 i) (RS (fun k => CM k i * fv .f64 (y k)) 64) (1 / 1000000000000 * Lh y + 1 / 1000000000000) := fun i hi => by
  obtain ⟨h0, h1, h2, h3⟩ := LB h
  obtain ⟨l1, l2, _, _⟩ := lin2 (wt := fun (k : Nat) => wcI k i) (f := y) (C := fun k => CM k i) (S := Lh y) (fun k hk => ⟨(wc_ok k i hk hi).2.le (by unfold dw dw2; grind), by have := CM_bd k i hk hi; grind, by have := CM_bd k i hk hi; grind⟩) (fun k hk => ⟨(tm_ok (h k hk)).1, (h2 k hk).1, (h2 k hk).2.1⟩) h0 h3
  refine ⟨fun k hk => ⟨(wc_ok k i hk hi).1, l1 k hk⟩, ?_⟩
  unfold SR
  rw [if_pos hi]
  exact l2
theorem difRr (y : Nat → Nat) {i : Nat} (hi : i < 64) : RS (fun k => CM k i * fv .f64 (y k)) 64 - RS (fun k => ARr i k * fv .f64 (y k)) 64 / 4 ≤ 1 / 1000000000000000 * Lh y ∧ -(1 / 1000000000000000 * Lh y) ≤ RS (fun k => CM k i * fv .f64 (y k)) 64 - RS (fun k => ARr i k * fv .f64 (y k)) 64 / 4 := by
  have := RS_abs (T := fun k => (CM k i - ARr i k / 4) * fv .f64 (y k)) (D := fun k => 1 / 1000000000000000 * aY y k) (n := 64) fun k hk => by
    have hd : CM k i - ARr i k / 4 ≤ 1 / 1000000000000000 ∧ -(1 / 1000000000000000) ≤ CM k i - ARr i k / 4 := by
      unfold CM ARr
      obtain ⟨p1, p2⟩ := half_all (8 * (k % 8) + i % 8) (by omega)
      obtain ⟨q1, q2⟩ := half_all (8 * (k / 8) + i / 8) (by omega)
      obtain ⟨_, r1, r2⟩ := cc_all (8 * (k / 8) + i / 8) (by omega)
      obtain ⟨_, s1, s2⟩ := vW_all (8 * (k % 8) + i % 8) (by omega)
      exact prod_half p1 p2 q1 q2 r1 r2 s1 s2
    obtain ⟨a1, a2, a3⟩ := ab_bd (fv .f64 (y k))
    have k := rmul_le (a := CM k i - ARr i k / 4) (b := fv .f64 (y k)) (A := 1 / 1000000000000000) (B := ab (fv .f64 (y k))) (by grind) a1 hd.1 hd.2 a2 a3
    unfold aY
    constructor <;> grind
  rw [RS_mul] at this
  have e : RS (fun k => CM k i * fv .f64 (y k)) 64 - RS (fun k => ARr i k * fv .f64 (y k)) 64 / 4 = RS (fun k => (CM k i - ARr i k / 4) * fv .f64 (y k)) 64 := by
    have e1 : RS (fun k => ARr i k * fv .f64 (y k)) 64 / 4 = RS (fun k => 1 / 4 * (ARr i k * fv .f64 (y k))) 64 := by rw [RS_mul]; grind
    rw [e1, ← RS_sub]
    exact RS_congr 64 fun k _ => by grind
  rw [e]
  exact this
theorem obRr {y : Nat → Nat} (h : TmB y) : ∀ p ∈ obN (lstN (SR y 64 0)) (lstN (ZRr y 64)) (fbin .mul .f64 (sN y 64) wBd), p := fun p hp => by
  unfold obN at hp
  obtain ⟨i, hi, hp⟩ := List.mem_flatMap.1 hp
  have hi : i < 64 := List.mem_range.1 hi
  obtain ⟨h0, h1, h2, h3⟩ := LB h
  obtain ⟨_, b1, b2⟩ := bdW_ok h
  have a := (prgRr h i hi).2
  have r := (refRr h (i / 8) (by omega) (i % 8) (by omega)).2
  rw [show 8 * (i / 8) + i % 8 = i by omega] at r
  obtain ⟨d1, d2⟩ := difRr y hi
  rw [lstN_eq _ _ hi, lstN_eq _ _ hi] at hp
  have ez : ZRr y 64 i = zRr y i := by
    have e0 : Nat.blt i 64 = true := by rw [blt_eq]; exact decide_eq_true hi
    unfold ZRr
    rw [e0, cond_true]
  rw [ez] at hp
  generalize Lh y = L at *
  generalize RS (fun k => CM k i * fv .f64 (y k)) 64 = P at *
  generalize RS (fun k => ARr i k * fv .f64 (y k)) 64 / 4 = R at *
  obtain ⟨k, f⟩ := within_okE a r b1 (5 / 10000000000 * (1 + L)) (by grind) (by grind) (tp_GG _ (by grind)) (by unfold dl; grind)
  simp only [List.mem_cons, List.not_mem_nil, or_false] at hp
  rcases hp with rfl | rfl
  · exact k
  · rw [f]; rfl

/-! Rw -/
def ARw (i k : Nat) : Rat := vW (8 * (i % 8) + k % 8) * vW (8 * (i / 8) + k / 8)
theorem refRw {y : Nat → Nat} (h : TmB y) : ∀ b, b < 8 → ∀ a, a < 8 → okRw y b a ∧ Ap (zRw y (8 * b + a)) (RS (fun k => ARw (8 * b + a) k * fv .f64 (y k)) 64 / 4) (1 / 100000000000 * Lh y + 1 / 100000000000) := fun b hb a ha => by
  obtain ⟨h0, h1, h2, h3⟩ := LB h
  have hw : ∀ k, k < 64 → fok .mul .f64 (wv (a : Nat) ((k % 8 : Nat) : Int)) (wv (b : Nat) ((k / 8 : Nat) : Int)) = true ∧ Ap (aRw b a (k / 8) (k % 8)) (ARw (8 * b + a) k) dw2 ∧ ARw (8 * b + a) k ≤ 1 ∧ -1 ≤ ARw (8 * b + a) k := fun k hk => by
    have := ww_ok (a := a) (b := k % 8) (c := b) (d := k / 8) ha (by omega) hb (by omega)
    unfold ARw aRw
    rw [show (8 * b + a) % 8 = a by omega, show (8 * b + a) / 8 = b by omega]
    exact this
  obtain ⟨l1, l2, l3, l4⟩ := lin2 (wt := fun k => aRw b a (k / 8) (k % 8)) (f := y) (C := ARw (8 * b + a)) (S := Lh y) (fun k hk => (hw k hk).2) (fun k hk => ⟨(tm_ok (h k hk)).1, (h2 k hk).1, (h2 k hk).2.1⟩) h0 h3
  have es : ∀ n, n ≤ 64 → sRw y b a n = fsum (fun k => fbin .mul .f64 (aRw b a (k / 8) (k % 8)) (y k)) 0 n := fun n hn => by
    unfold sRw
    exact fsum_congr n fun k hk => by unfold tRw; rw [show 8 * (k / 8) + k % 8 = k by omega]
  obtain ⟨q, r⟩ := l2.quo (q := 4) four_val (by grind) (65 * Lh y + 1) (by grind) (by grind) (tp_GG _ (by grind))
  refine ⟨⟨fun v hv u hu => ?_, by rw [es 64 (Nat.le_refl _)]; exact q⟩, ?_⟩
  · have e1 : (8 * v + u) / 8 = v := by omega
    have e2 : (8 * v + u) % 8 = u := by omega
    have ea : aRw b a v u = aRw b a ((8 * v + u) / 8) ((8 * v + u) % 8) := by rw [e1, e2]
    have et : tRw y b a v u = fbin .mul .f64 (aRw b a ((8 * v + u) / 8) ((8 * v + u) % 8)) (y (8 * v + u)) := by unfold tRw; rw [← ea]
    obtain ⟨m1, m2⟩ := l1 (8 * v + u) (by omega)
    have m0 := (hw (8 * v + u) (by omega)).1
    rw [e1, e2] at m0
    refine ⟨m0, by rw [ea]; exact m1, ?_⟩
    rw [es _ (by omega), et]
    exact m2
  · unfold zRw
    rw [show (8 * b + a) / 8 = b by omega, show (8 * b + a) % 8 = a by omega, es 64 (Nat.le_refl _)]
    exact r.le (by unfold dl; grind)
theorem prgRw {y : Nat → Nat} (h : TmB y) : ∀ i, i < 64 → okWv y i ∧ Ap (SV y 64 0 i) (RS (fun k => CM i k * fv .f64 (y k)) 64) (1 / 1000000000000 * Lh y + 1 / 1000000000000) := fun i hi => by
  obtain ⟨h0, h1, h2, h3⟩ := LB h
  obtain ⟨l1, l2, _, _⟩ := lin2 (wt := fun (k : Nat) => wcI i k) (f := y) (C := fun k => CM i k) (S := Lh y) (fun k hk => ⟨(wc_ok i k hi hk).2.le (by unfold dw dw2; grind), by have := CM_bd i k hi hk; grind, by have := CM_bd i k hi hk; grind⟩) (fun k hk => ⟨(tm_ok (h k hk)).1, (h2 k hk).1, (h2 k hk).2.1⟩) h0 h3
  refine ⟨fun k hk => ⟨(wc_ok i k hi hk).1, l1 k hk⟩, ?_⟩
  unfold SV
  rw [if_pos hi]
  exact l2
theorem difRw (y : Nat → Nat) {i : Nat} (hi : i < 64) : RS (fun k => CM i k * fv .f64 (y k)) 64 - RS (fun k => ARw i k * fv .f64 (y k)) 64 / 4 ≤ 1 / 1000000000000000 * Lh y ∧ -(1 / 1000000000000000 * Lh y) ≤ RS (fun k => CM i k * fv .f64 (y k)) 64 - RS (fun k => ARw i k * fv .f64 (y k)) 64 / 4 := by
  have := RS_abs (T := fun k => (CM i k - ARw i k / 4) * fv .f64 (y k)) (D := fun k => 1 / 1000000000000000 * aY y k) (n := 64) fun k hk => by
    have hd : CM i k - ARw i k / 4 ≤ 1 / 1000000000000000 ∧ -(1 / 1000000000000000) ≤ CM i k - ARw i k / 4 := by
      unfold CM ARw
      obtain ⟨p1, p2⟩ := half_all (8 * (i % 8) + k % 8) (by omega)
      obtain ⟨q1, q2⟩ := half_all (8 * (i / 8) + k / 8) (by omega)
      obtain ⟨_, r1, r2⟩ := cc_all (8 * (i / 8) + k / 8) (by omega)
      obtain ⟨_, s1, s2⟩ := vW_all (8 * (i % 8) + k % 8) (by omega)
      exact prod_half p1 p2 q1 q2 r1 r2 s1 s2
    obtain ⟨a1, a2, a3⟩ := ab_bd (fv .f64 (y k))
    have k := rmul_le (a := CM i k - ARw i k / 4) (b := fv .f64 (y k)) (A := 1 / 1000000000000000) (B := ab (fv .f64 (y k))) (by grind) a1 hd.1 hd.2 a2 a3
    unfold aY
    constructor <;> grind
  rw [RS_mul] at this
  have e : RS (fun k => CM i k * fv .f64 (y k)) 64 - RS (fun k => ARw i k * fv .f64 (y k)) 64 / 4 = RS (fun k => (CM i k - ARw i k / 4) * fv .f64 (y k)) 64 := by
    have e1 : RS (fun k => ARw i k * fv .f64 (y k)) 64 / 4 = RS (fun k => 1 / 4 * (ARw i k * fv .f64 (y k))) 64 := by rw [RS_mul]; grind
    rw [e1, ← RS_sub]
    exact RS_congr 64 fun k _ => by grind
  rw [e]
  exact this
theorem obRw {y : Nat → Nat} (h : TmB y) : ∀ p ∈ obN (lstN (SV y 64 0)) (lstN (ZRw y 64)) (fbin .mul .f64 (sN y 64) wBd), p := fun p hp => by
  unfold obN at hp
  obtain ⟨i, hi, hp⟩ := List.mem_flatMap.1 hp
  have hi : i < 64 := List.mem_range.1 hi
  obtain ⟨h0, h1, h2, h3⟩ := LB h
  obtain ⟨_, b1, b2⟩ := bdW_ok h
  have a := (prgRw h i hi).2
  have r := (refRw h (i / 8) (by omega) (i % 8) (by omega)).2
  rw [show 8 * (i / 8) + i % 8 = i by omega] at r
  obtain ⟨d1, d2⟩ := difRw y hi
  rw [lstN_eq _ _ hi, lstN_eq _ _ hi] at hp
  have ez : ZRw y 64 i = zRw y i := by
    have e0 : Nat.blt i 64 = true := by rw [blt_eq]; exact decide_eq_true hi
    unfold ZRw
    rw [e0, cond_true]
  rw [ez] at hp
  generalize Lh y = L at *
  generalize RS (fun k => CM i k * fv .f64 (y k)) 64 = P at *
  generalize RS (fun k => ARw i k * fv .f64 (y k)) 64 / 4 = R at *
  obtain ⟨k, f⟩ := within_okE a r b1 (5 / 10000000000 * (1 + L)) (by grind) (by grind) (tp_GG _ (by grind)) (by unfold dl; grind)
  simp only [List.mem_cons, List.not_mem_nil, or_false] at hp
  rcases hp with rfl | rfl
  · exact k
  · rw [f]; rfl

theorem floatEq_self {x : Nat} (h : fnum .f64 x) : Op.floatEq .f64 x x = true := by
  obtain ⟨s, m, p, hr⟩ := h
  have := (order_val (x := x) (y := x) ⟨s, m, p, hr⟩ ⟨s, m, p, hr⟩)
  unfold Op.floatEq
  rw [beq_iff_eq]
  exact this.2.1.2 rfl
theorem eqF_ok {f : Nat → Nat} : ∀ (k i : Nat), (∀ j, i ≤ j → j < i + k → fnum .f64 (f j)) → eqF f i k = true
  | 0, _, _ => rfl
  | k + 1, i, h => by
    unfold eqF
    rw [floatEq_self (h i (Nat.le_refl _) (by omega)), Bool.true_and]
    exact eqF_ok k (i + 1) fun j h1 h2 => h j (by omega) (by omega)
theorem least_bad (f : Nat → Nat) (n : Nat) : (∀ k, k < n → tmB (f k) = true) ∨ ∃ k0, k0 < n ∧ tmB (f k0) = false ∧ ∀ k, k < k0 → tmB (f k) = true := by
  induction n with
  | zero => exact .inl fun k hk => absurd hk (Nat.not_lt_zero k)
  | succ n ih =>
    rcases ih with h1 | ⟨k0, a, b, c⟩
    · cases e : tmB (f n) with
      | true =>
        refine .inl fun k hk => ?_
        rcases Nat.lt_or_eq_of_le (Nat.le_of_lt_succ hk) with h2 | h2
        · exact h1 k h2
        · rw [h2]; exact e
      | false => exact .inr ⟨n, by omega, e, h1⟩
    · exact .inr ⟨k0, by omega, b, c⟩
theorem lst_tm {f : Nat → Nat} (h : ∀ k, k < 64 → tmB (f k) = true) : TmB (lstN f) := fun k hk => by rw [lstN_eq f k hk]; exact h k hk
theorem law3 (f : Nat → Nat) (u : Value) (hu : some (Value.bool true) = some u) : ∃ F, FnsOk Tryd.prog F ∧ ∃ n orc, runK Tryd.prog T F n Tryd.f3 [.agg (flC f)] [] orc (fun r _ => resW r = some u) := by
  classical
  by_cases h : ∀ k, k < 64 → tmB (f k) = true
  · have ht := lst_tm h
    refine ⟨F3t, F3tok, 400, [.b false], of_run (run3t f u) ⟨fun i hi => (prgRr ht i hi).1, fun i hi => (prgRw ht i hi).1, ⟨fun k hk => ⟨ht k hk, sN_pre (Nat.le_refl _) ht k hk⟩, (bdW_ok ht).1⟩, rfl, fun y hy x hx => (refRr ht y hy x hx).1, obRr ht, fun y hy x hx => (refRw ht y hy x hx).1, obRw ht, ?_⟩⟩
    rw [eqF_ok 64 0 fun j _ hj => (tm_ok (h j (by omega))).1]
    exact hu
  · obtain ⟨k0, hk, hb, hp⟩ := (least_bad f 64).resolve_left h
    have hp' : ∀ k, k < k0 → tmB (lstN f k) = true := fun k h1 => by rw [lstN_eq f k (by omega)]; exact hp k h1
    exact ⟨F3u, F3uok, 400, [.b true], of_run (run3u f u) ⟨trivial, trivial, ⟨k0, hk, fun k h1 => ⟨hp' k h1, sN_pre (by omega) hp' k h1⟩, by rw [lstN_eq f k0 hk]; exact hb⟩, rfl, hu⟩⟩
def GDR : List ArgV → Option Value
  | [.val (.agg a)] => fltsK .f64 a.toList fun xs => if xs.length = 64 then some (.bool true) else none
  | _ => none
theorem con3 : Con Tryd.prog 3 GDR := by
  refine con_of_each hm hT Tryd.func3 Tryd.call3 fun avs u h => ?_
  unfold GDR at h
  split at h
  · rename_i a
    obtain ⟨xs, ha, h2⟩ := fltsK_spec _ _ _ h
    clear h
    split at h2
    · rename_i hl
      obtain ⟨a⟩ := a
      have ha' : a = xs.map (Value.float .f64) := ha
      subst ha'
      obtain ⟨F, hF, n, orc, hr⟩ := law3 (xs.getD · 0) u h2
      exact ⟨F, hF, [], n, orc, _, _, canonL xs hl, hr⟩
    · cases h2
  · cases h
end Go.Proofs.YtcfbhlpmhlmekaaDoor
