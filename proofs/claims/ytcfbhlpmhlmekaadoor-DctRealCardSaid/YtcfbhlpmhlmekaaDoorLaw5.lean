/-
  What is proved here: DctEnergy, with no program in sight but the floats: the waves stand upright on one another; sums of products are near. A text to be imported.
-/
import Derived.Test.YtcfbhlpmhlmekaaDoorCon13
import Derived.Test.YtcfbhlpmhlmekaaDoorLaw4
namespace Go.Proofs.YtcfbhlpmhlmekaaDoor
open Sm Go Go.RowKit Fl Ieee
set_option maxRecDepth 100000
set_option linter.unusedVariables false
theorem RS_zero {T : Nat → Rat} (n : Nat) (h : ∀ j, j < n → T j = 0) : RS T n = 0 := by
  rw [RS_congr (T' := fun _ => 0) n h, RS_const]
  grind
theorem RS_one {T : Nat → Rat} (i : Nat) : ∀ n, i < n → (∀ j, j < n → j ≠ i → T j = 0) → RS T n = T i
  | 0, h, _ => by omega
  | n + 1, h, hz => by
    show RS T n + T n = T i
    by_cases e : i = n
    · subst e
      rw [RS_zero i fun j hj => hz j (by omega) (by omega)]
      grind
    · rw [RS_one i n (by omega) fun j hj hne => hz j (by omega) hne, hz n (by omega) (by omega)]
      grind
theorem RS_prod (a b : Nat → Rat) (n : Nat) : RS a n * RS b n = RS (fun i => RS (fun j => a i * b j) n) n := by
  have h : RS (fun i => RS (fun j => a i * b j) n) n = RS (fun i => RS b n * a i) n := RS_congr n fun i _ => by rw [RS_mul]; grind
  rw [h, RS_mul]; grind
theorem sq_nn' (x : Rat) : 0 ≤ x * x := by
  by_cases h0 : 0 ≤ x
  · exact Rat.mul_nonneg h0 h0
  · have := Rat.mul_nonneg (a := -x) (b := -x) (by grind) (by grind)
    grind
def ab (r : Rat) : Rat := if 0 ≤ r then r else -r
theorem ab_bd (r : Rat) : 0 ≤ ab r ∧ r ≤ ab r ∧ -ab r ≤ r := by unfold ab; split <;> (refine ⟨?_, ?_, ?_⟩ <;> grind)
theorem ab_le {r b : Rat} (h1 : r ≤ b) (h2 : -b ≤ r) : ab r ≤ b := by unfold ab; split <;> grind
theorem ab_sq (r : Rat) : ab r * ab r = r * r := by unfold ab; split <;> grind
/-! ### words -/
theorem away_ap {x : Nat} (hn : fnum .f64 x) : Ap (awayF x) (ab (fv .f64 x)) 0 := by
  obtain ⟨h1, h2, h3, h4⟩ := order_val hn zero_val.1
  have hz : fv .f64 0 = 0 := zero_val.2
  unfold awayF
  cases hl : flt x 0 with
  | true =>
    have h : fv .f64 x < fv .f64 0 := h1.1 (beq_iff_eq.1 hl)
    obtain ⟨n1, n2⟩ := neg_val hn
    refine .of ⟨n1, ?_⟩
    show fv .f64 (Op.negFloat .f64 x) = _
    rw [n2]
    unfold ab
    rw [if_neg (by grind)]
  | false =>
    refine .of ⟨hn, ?_⟩
    have h : ¬ fv .f64 x < fv .f64 0 := fun h => by
      have := h1.2 h
      rw [flt, this] at hl
      cases hl
    unfold ab
    rw [if_pos (by grind)]
    rfl
theorem leW_iff {x y : Nat} (hx : fnum .f64 x) (hy : fnum .f64 y) : leW x y = true ↔ fv .f64 x ≤ fv .f64 y := le_iff hx hy
theorem geW_iff {x y : Nat} (hx : fnum .f64 x) (hy : fnum .f64 y) : geW x y = true ↔ fv .f64 y ≤ fv .f64 x := by
  obtain ⟨h1, h2, h3, h4⟩ := order_val hx hy
  unfold geW
  rw [Bool.or_eq_true, beq_iff_eq, beq_iff_eq, h3, h2]
  show (fv .f64 y < fv .f64 x ∨ fv .f64 x = fv .f64 y) ↔ _
  constructor
  · rintro (h | h) <;> grind
  · intro h; grind
theorem e6_val : fnum .f64 e6 ∧ fv .f64 e6 = 1000000 := kst (z := 1208925819614629174706176000000) (by decide +kernel) (by rw [show ((1208925819614629174706176000000 : Int) : Rat) = 1208925819614629174706176000000 from rfl]; grind)
theorem ne6_val : fnum .f64 ne6 ∧ fv .f64 ne6 = -1000000 := kst (z := -1208925819614629174706176000000) (by decide +kernel) (by rw [show ((-1208925819614629174706176000000 : Int) : Rat) = -1208925819614629174706176000000 from rfl]; grind)
theorem clE_ok (y : Nat) : fnum .f64 (clE y) ∧ fv .f64 (clE y) ≤ 1000000 ∧ -1000000 ≤ fv .f64 (clE y) := by
  have hz := zero_val
  have h0 : fnum .f64 0 ∧ fv .f64 0 ≤ 1000000 ∧ -1000000 ≤ fv .f64 0 := ⟨hz.1, by rw [hz.2]; grind, by rw [hz.2]; grind⟩
  unfold clE
  cases h1 : leW y e6 with
  | false => exact h0
  | true =>
    cases h2 : geW y ne6 with
    | false => exact h0
    | true =>
      show fnum .f64 y ∧ _
      have hy : fnum .f64 y := by
        obtain ⟨s1, m1, p1, r1⟩ := e6_val.1
        obtain ⟨s2, m2, p2, r2⟩ := ne6_val.1
        cases hr : FloatKind.f64.format.read y with
        | number s m p => exact ⟨s, m, p, hr⟩
        | infinity s =>
          exfalso
          unfold leW Format.order at h1
          unfold geW Format.order at h2
          rw [hr, r1] at h1
          rw [hr, r2] at h2
          cases s <;> simp [Datum.order] at h1 h2
        | nan s t =>
          exfalso
          unfold leW Format.order at h1
          rw [hr] at h1
          simp [Datum.order] at h1
      have a := (leW_iff hy e6_val.1).1 h1
      have b := (geW_iff hy ne6_val.1).1 h2
      rw [e6_val.2] at a
      rw [ne6_val.2] at b
      exact ⟨hy, a, b⟩
/-! ### the waves -/
def cZ (j : Nat) : Int := (zof (cc j)).getD 0
def cR (j : Nat) : Rat := (cZ j : Rat) / 1208925819614629174706176
theorem cc_all : ∀ j, j < 64 → (zof (cc j)).isSome = true ∧ cR j ≤ 1 / 2 ∧ -(1 / 2) ≤ cR j := by decide +kernel
theorem cc_ap {j : Nat} (h : j < 64) : Ap (cc j) (cR j) 0 := by
  obtain ⟨h1, _, _⟩ := cc_all j h
  obtain ⟨z, hz⟩ := Option.isSome_iff_exists.1 h1
  refine .of (kst hz ?_)
  unfold cR cZ
  rw [hz, Option.getD_some, Rat.div_def, Rat.mul_assoc, Rat.inv_mul_cancel _ (by decide), Rat.mul_one]
def CM (i k : Nat) : Rat := cR (8 * (i % 8) + k % 8) * cR (8 * (i / 8) + k / 8)
def G1 (u v : Nat) : Rat := RS (fun x => cR (8 * u + x) * cR (8 * v + x)) 8
def dlt (i j : Nat) : Rat := if i = j then 1 else 0
theorem gram8 : ∀ u, u < 8 → ∀ v, v < 8 → G1 u v - dlt u v ≤ 1 / 100000000000000 ∧ -(1 / 100000000000000) ≤ G1 u v - dlt u v := by decide +kernel
theorem gram64 (i j : Nat) (hi : i < 64) (hj : j < 64) : RS (fun k => CM i k * CM j k) 64 - dlt i j ≤ 3 / 100000000000000 ∧ -(3 / 100000000000000) ≤ RS (fun k => CM i k * CM j k) 64 - dlt i j := by
  have e : RS (fun k => CM i k * CM j k) 64 = G1 (i / 8) (j / 8) * G1 (i % 8) (j % 8) := by
    have h1 := RS_nest (fun k => CM i k * CM j k) 8 8
    rw [show 8 * 8 = 64 from rfl] at h1
    rw [← h1]
    unfold G1
    rw [RS_prod]
    refine RS_congr 8 fun a ha => RS_congr 8 fun b hb => ?_
    unfold CM
    rw [show (8 * a + b) % 8 = b from by omega, show (8 * a + b) / 8 = a from by omega]
    grind
  have ed : dlt i j = dlt (i / 8) (j / 8) * dlt (i % 8) (j % 8) := by
    unfold dlt
    by_cases h : i = j
    · subst h; simp
    · rw [if_neg h]
      by_cases h1 : i / 8 = j / 8
      · rw [if_neg (show ¬ i % 8 = j % 8 by omega)]; grind
      · rw [if_neg h1]; grind
  rw [e, ed]
  obtain ⟨a1, a2⟩ := gram8 (i / 8) (by omega) (j / 8) (by omega)
  obtain ⟨b1, b2⟩ := gram8 (i % 8) (by omega) (j % 8) (by omega)
  have d1 : 0 ≤ dlt (i / 8) (j / 8) ∧ dlt (i / 8) (j / 8) ≤ 1 := by unfold dlt; split <;> (constructor <;> grind)
  have d2 : 0 ≤ dlt (i % 8) (j % 8) ∧ dlt (i % 8) (j % 8) ≤ 1 := by unfold dlt; split <;> (constructor <;> grind)
  generalize G1 (i / 8) (j / 8) = g at *
  generalize G1 (i % 8) (j % 8) = h at *
  generalize dlt (i / 8) (j / 8) = p at *
  generalize dlt (i % 8) (j % 8) = q at *
  have k1 := rmul_le (a := g - p) (b := h) (A := 1 / 100000000000000) (B := 2) (by grind) (by grind) a1 a2 (by grind) (by grind)
  have k2 := rmul_le (a := p) (b := h - q) (A := 1) (B := 1 / 100000000000000) (by grind) (by grind) (by grind) (by grind) b1 b2
  constructor <;> grind
def kTiny : Rat := 1 / 1267650600228229401496703205376
theorem tp_30 : ∀ c : Rat, c ≤ 1000000000000000000000000000000 → c < tp .f64 := fun c h => by
  have h1 := pw_nat 1000
  have h2 : pw ((1000 : Nat) : Int) ≤ tp .f64 := by unfold tp; rw [top64]; exact pw_mono (by decide)
  have h3 : (1000000000000000000000000000000 : Rat) < ((2 ^ 1000 : Nat) : Rat) := by decide +kernel
  rw [← h1] at h3
  grind
theorem CM_bd (i k : Nat) (hi : i < 64) (hk : k < 64) : CM i k ≤ 1 / 4 ∧ -(1 / 4) ≤ CM i k := by
  obtain ⟨_, a1, a2⟩ := cc_all (8 * (i % 8) + k % 8) (by omega)
  obtain ⟨_, b1, b2⟩ := cc_all (8 * (i / 8) + k / 8) (by omega)
  have := rmul_le (a := cR (8 * (i % 8) + k % 8)) (b := cR (8 * (i / 8) + k / 8)) (A := 1 / 2) (B := 1 / 2) (by grind) (by grind) a1 a2 b1 b2
  unfold CM
  constructor <;> grind
def dw : Rat := 1 / 30000000000000000
theorem wc_ok (i k : Nat) (hi : i < 64) (hk : k < 64) : fok .mul .f64 (cc (pA i k)) (cc (pB i k)) = true ∧ Ap (wcI i k) (CM i k) dw := by
  obtain ⟨e1, e2⟩ := pA_eq i k hi hk
  obtain ⟨_, a1, a2⟩ := cc_all (8 * (i % 8) + k % 8) (by omega)
  obtain ⟨_, b1, b2⟩ := cc_all (8 * (i / 8) + k / 8) (by omega)
  obtain ⟨q1, q2⟩ := (cc_ap (j := 8 * (i % 8) + k % 8) (by omega)).mul (cc_ap (j := 8 * (i / 8) + k / 8) (by omega)) a1 a2 b1 b2 (1 / 4) (by grind) (tp_30 _ (by grind))
  unfold wcI
  rw [e1, e2]
  exact ⟨q1, q2.le (by unfold dl dw; grind)⟩
def eL (S e : Rat) : Rat := 17 * e + 2 / 10000000000000 * S + 1 / 1000000000000000000000000000
/-- A sum of 64 products of words near numbers. -/
theorem lin_ok {w f : Nat → Nat} {C F : Nat → Rat} {S e : Rat} (hw : ∀ k, k < 64 → Ap (w k) (C k) dw ∧ C k ≤ 1 / 4 ∧ -(1 / 4) ≤ C k) (hf : ∀ k, k < 64 → Ap (f k) (F k) e ∧ F k ≤ S ∧ -S ≤ F k) (h0 : 0 ≤ S) (hS : S ≤ 100000000000) (he : e ≤ 1 / 1000 * S + 1 / 10000000000000000000000000) :
    (∀ k, k < 64 → fok .mul .f64 (w k) (f k) = true ∧ fok .add .f64 (fsum (fun k => fbin .mul .f64 (w k) (f k)) 0 k) (fbin .mul .f64 (w k) (f k)) = true) ∧ Ap (fsum (fun k => fbin .mul .f64 (w k) (f k)) 0 64) (RS (fun k => C k * F k) 64) (eL S e) := by
  have e0 : 0 ≤ e := (hf 0 (by decide)).1.pos
  have hm : ∀ k, k < 64 → fok .mul .f64 (w k) (f k) = true ∧ Ap (fbin .mul .f64 (w k) (f k)) (C k * F k) (26 / 100 * e + 1 / 10000000000000000 * S + 1 / 1000000000000000000000000000000) := fun k hk => by
    obtain ⟨a, a1, a2⟩ := hw k hk
    obtain ⟨b, b1, b2⟩ := hf k hk
    obtain ⟨q1, q2⟩ := a.mul b (U := 1 / 4) (V := S) a1 a2 b1 b2 (26 / 100 * (S + e)) (by unfold dw; grind) (tp_30 _ (by grind))
    exact ⟨q1, q2.le (by unfold dl dw; grind)⟩
  have hM : ∀ k, k < 64 → C k * F k ≤ 1 / 4 * S ∧ -(1 / 4 * S) ≤ C k * F k := fun k hk => by
    obtain ⟨a, a1, a2⟩ := hw k hk
    obtain ⟨b, b1, b2⟩ := hf k hk
    exact rmul_le (by grind) h0 a1 a2 b1 b2
  have := fsum_ap (t := fun k => fbin .mul .f64 (w k) (f k)) (T := fun k => C k * F k) (τ := 26 / 100 * e + 1 / 10000000000000000 * S + 1 / 1000000000000000000000000000000) (M := 1 / 4 * S) (B := 0) (S := 0) (e := 0) (c := 17 * S + 17 * e + 1 / 1000000000000000000000) (s := 0) (N := 64) (fun k hk => (hm k hk).2) hM (Ap.of zero_val) (by grind) (by grind) (by grind) (by grind) (by grind) (by rw [show ((64 : Nat) : Rat) = 64 from rfl]; unfold dl; grind) (tp_30 _ (by grind)) 64 (Nat.le_refl _)
  rw [show ((64 : Nat) : Rat) = 64 from rfl] at this
  refine ⟨fun k hk => ⟨(hm k hk).1, this.1 k hk⟩, ?_⟩
  exact (this.2.mv (v' := RS (fun k => C k * F k) 64) (d := 0) (by grind) (by grind)).le (by unfold dl eL; grind)
end Go.Proofs.YtcfbhlpmhlmekaaDoor
