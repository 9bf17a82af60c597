/-
  What is proved here: numbers that the laws let in. the law of levels, with no program in sight but the floats. the law of levels, with no program in sight but the floats: its bounds hold. the contract of the law of levels. A text to be imported.
-/
import Derived.Test.YthddkcoflnbjbaaDoorLaw9
import Derived.Test.YthddkcoflnbjbaaDoorCon17
namespace Go.Proofs.YthddkcoflnbjbaaDoor
open Sm Go Go.RowKit Fl Ieee
set_option maxRecDepth 100000
set_option linter.unusedVariables false
theorem abs_back {x : Nat} (h : fnum .f64 (x % 2 ^ 63)) : fnum .f64 x := by
  obtain ⟨s, m, p, hr⟩ := h
  have hs : FloatKind.f64.format.signWeight = 2 ^ 63 := rfl
  refine ⟨decide (x / 2 ^ 63 % 2 = 1), m, p, ?_⟩
  unfold Format.read at hr ⊢
  rw [hs] at hr ⊢
  simp only at hr ⊢
  have hm : x % 2 ^ 63 % 2 ^ 63 = x % 2 ^ 63 := Nat.mod_mod _ _
  rw [hm] at hr
  split at hr
  · rename_i h1
    rw [if_pos h1]
    simp only [Datum.number.injEq] at hr ⊢
    exact ⟨by first | rfl | simp, hr.2⟩
  · rename_i h1
    rw [if_neg h1]
    split at hr
    · rename_i h2
      rw [if_pos h2]
      simp only [Datum.number.injEq] at hr ⊢
      exact ⟨by first | rfl | simp, hr.2⟩
    · split at hr <;> cases hr
theorem abs_sign {x : Nat} {s : Bool} (h : FloatKind.f64.format.read (x % 2 ^ 63) = .infinity s) : s = false := by
  have hs : FloatKind.f64.format.signWeight = 2 ^ 63 := rfl
  unfold Format.read at h
  rw [hs] at h
  simp only at h
  have hd : x % 2 ^ 63 / 2 ^ 63 % 2 = 0 := by omega
  rw [hd] at h
  split at h
  · cases h
  · split at h
    · cases h
    · split at h
      · simp only [Datum.infinity.injEq] at h
        rw [← h]; rfl
      · cases h
/-- A float whose size is at most a number's is a number. -/
theorem abs_le_num {y b : Nat} (hb : fnum .f64 b) (h : fle (absW y) b = true) : fnum .f64 y ∧ fv .f64 y ≤ fv .f64 b ∧ -fv .f64 b ≤ fv .f64 y := by
  have hb' := hb
  obtain ⟨sb, mb, pb, rb⟩ := hb
  have hx : fnum .f64 (absW y) := by
    cases hr : FloatKind.f64.format.read (absW y) with
    | number s m p => exact ⟨s, m, p, hr⟩
    | infinity s =>
      exfalso
      obtain rfl := abs_sign (x := y) (by rw [← absW_eq]; exact hr)
      unfold fle Format.order at h
      rw [hr, rb] at h
      simp [Datum.order] at h
    | nan s t =>
      exfalso
      unfold fle Format.order at h
      rw [hr] at h
      simp [Datum.order] at h
  have hy : fnum .f64 y := abs_back (by rw [← absW_eq]; exact hx)
  obtain ⟨n1, n2, n3⟩ := absW_num hy
  have hle := (fle_iff n1 hb').1 h
  exact ⟨hy, by grind, by grind⟩
end Go.Proofs.YthddkcoflnbjbaaDoor
namespace Go.Proofs.YthddkcoflnbjbaaDoor
open Sm Go Go.RowKit Fl Ieee
set_option maxRecDepth 100000
set_option linter.unusedVariables false
theorem big_val : fnum .f64 bigW ∧ fv .f64 bigW ≤ 10000000000000000000000000000000000000000000000000000000000000000000000000000000000000000000 := by
  have h := vB_ap (x := bigW) (by decide +kernel)
  have h2 : vB bigW ≤ 10000000000000000000000000000000000000000000000000000000000000000000000000000000000000000000 := by decide +kernel
  exact ⟨h.num, by have := h.hi; grind⟩
theorem cl_ok (y : Nat) : fnum .f64 (cl y) ∧ fv .f64 (cl y) ≤ fv .f64 bigW ∧ -fv .f64 bigW ≤ fv .f64 (cl y) := by
  unfold cl
  cases h : fle (absW y) bigW with
  | true => exact abs_le_num big_val.1 h
  | false =>
    have hz := zero_val
    have hb : 0 ≤ fv .f64 bigW := by
      have h := vB_ap (x := bigW) (by decide +kernel)
      have h2 : 0 ≤ vB bigW := by decide +kernel
      have := h.lo
      grind
    show fnum .f64 0 ∧ fv .f64 0 ≤ _ ∧ _ ≤ fv .f64 0
    rw [hz.2]
    exact ⟨hz.1, hb, by grind⟩
/-- Closed weights. -/
def Mc (u n : Nat) : Rat := match u with
  | 0 => (ra 0 + ra 0) / 4 / vB rt2
  | u + 1 => (ra (128 * (u + 1) * (2 * n + 1)) + ra (128 * (u + 1) * (2 * (15 - n) + 1))) / 4
theorem lvl0 : RS (Mc 0) 8 - vB (rootF w8) ≤ 1 / 100000000000000 ∧ vB (rootF w8) - RS (Mc 0) 8 ≤ 1 / 100000000000000 := by decide +kernel
theorem lvlu : ∀ u, u < 7 → RS (Mc (u + 1)) 8 ≤ 1 / 100000000000000 ∧ -(1 / 100000000000000) ≤ RS (Mc (u + 1)) 8 := by decide +kernel
theorem gram : ∀ n, n < 8 → ∀ m, m < 8 → RS (fun u => Mc u n * Mc u m) 8 - (if n = m then 1 else 0) ≤ 1 / 100000000000000 ∧ -(1 / 100000000000000) ≤ RS (fun u => Mc u n * Mc u m) 8 - (if n = m then 1 else 0) := by decide +kernel
theorem tC_lin (xv : Nat → Rat) : ∀ u, tC xv u = RS (fun n => xv n * Mc u n) 8
  | 0 => by
    unfold tC dC Mc
    have e : ∀ j, 128 * 0 * (2 * j + 1) = 0 := fun j => by simp
    simp only [RS, mir, e, Rat.div_def]
    generalize (vB rt2)⁻¹ = i
    generalize ra 0 = r
    simp
    grind
  | u + 1 => by
    unfold tC dC Mc
    simp only [RS, mir]
    simp
    grind
theorem RS_swap (T : Nat → Nat → Rat) (m : Nat) : ∀ n, RS (fun i => RS (T i) m) n = RS (fun j => RS (fun i => T i j) n) m
  | 0 => by
    have : RS (fun j => RS (fun i => T i j) 0) m = 0 := by
      have h : RS (fun _ => (0 : Rat)) m = (m : Rat) * 0 := RS_const 0 m
      rw [Rat.mul_zero] at h
      exact h
    rw [this]; rfl
  | n + 1 => by
    rw [RS, RS_swap T m n, ← RS_add]
    rfl
theorem RS_prod (a b : Nat → Rat) (n : Nat) : RS a n * RS b n = RS (fun i => RS (fun j => a i * b j) n) n := by
  have h : RS (fun i => RS (fun j => a i * b j) n) n = RS (fun i => RS b n * a i) n := RS_congr n fun i _ => by rw [RS_mul]; grind
  rw [h, RS_mul]; grind
theorem pars (xv : Nat → Rat) : RS (fun u => tC xv u * tC xv u) 8 = RS (fun n => RS (fun m => xv n * xv m * RS (fun u => Mc u n * Mc u m) 8) 8) 8 := by
  rw [RS_congr (T' := fun u => RS (fun n => RS (fun m => xv n * xv m * (Mc u n * Mc u m)) 8) 8) 8 fun u _ => by
    rw [tC_lin, RS_prod]
    exact RS_congr 8 fun i _ => RS_congr 8 fun j _ => by grind]
  rw [RS_swap]
  refine RS_congr 8 fun n _ => ?_
  rw [RS_swap]
  exact RS_congr 8 fun m _ => RS_mul _ _ 8
theorem pars_near {xv ax : Nat → Rat} (h1 : ∀ k, xv k ≤ ax k) (h2 : ∀ k, -ax k ≤ xv k) :
    RS (fun u => tC xv u * tC xv u) 8 - RS (fun n => xv n * xv n) 8 ≤ 1 / 100000000000000 * (RS ax 8 * RS ax 8) ∧ -(1 / 100000000000000 * (RS ax 8 * RS ax 8)) ≤ RS (fun u => tC xv u * tC xv u) 8 - RS (fun n => xv n * xv n) 8 := by
  have a0 : ∀ k, 0 ≤ ax k := fun k => by have := h1 k; have := h2 k; grind
  have e1 : RS (fun n => xv n * xv n) 8 = RS (fun n => RS (fun m => xv n * xv m * (if n = m then 1 else 0)) 8) 8 := RS_congr 8 fun n hn => by
    rw [RS_one n 8 hn fun j _ hne => by rw [if_neg (fun e => hne e.symm), Rat.mul_zero], if_pos rfl, Rat.mul_one]
  have e2 : RS ax 8 * RS ax 8 = RS (fun n => RS (fun m => ax n * ax m) 8) 8 := RS_prod ax ax 8
  have e3 : 1 / 100000000000000 * (RS ax 8 * RS ax 8) = RS (fun n => RS (fun m => 1 / 100000000000000 * (ax n * ax m)) 8) 8 := by
    rw [e2, ← RS_mul]
    exact RS_congr 8 fun n _ => (RS_mul _ _ 8).symm
  rw [pars, e1, ← RS_sub, e3]
  refine RS_abs fun n hn => ?_
  rw [← RS_sub]
  refine RS_abs fun m hm' => ?_
  obtain ⟨g1, g2⟩ := gram n hn m hm'
  have x1 := rmul_le (a := xv n) (b := xv m) (A := ax n) (B := ax m) (a0 n) (a0 m) (h1 n) (h2 n) (h1 m) (h2 m)
  have x0 := Rat.mul_nonneg (a0 n) (a0 m)
  generalize RS (fun u => Mc u n * Mc u m) 8 = g at *
  generalize (if n = m then (1 : Rat) else 0) = d at *
  have k := rmul_le (a := xv n * xv m) (b := g - d) (A := ax n * ax m) (B := 1 / 100000000000000) x0 (by grind) x1.1 x1.2 g1 g2
  constructor <;> grind
end Go.Proofs.YthddkcoflnbjbaaDoor
namespace Go.Proofs.YthddkcoflnbjbaaDoor
open Sm Go Go.RowKit Fl Ieee
set_option maxRecDepth 100000
set_option linter.unusedVariables false
def BB : Rat := 10000000000000000000000000000000000000000000000000000000000000000000000000000000000000000000
def GG : Rat := 10000000000000000000000000000000000000000000000000000000000000000000000000000000000000000000000000000000000000000000000000000000000000000000000000000000000000000000000000000000000000000000000000000000000000000000000000000
theorem tp_GG : ∀ c : Rat, c ≤ GG → c < tp .f64 := fun c h => by
  have h1 := pw_nat 1000
  have h2 : pw ((1000 : Nat) : Int) ≤ tp .f64 := by unfold tp; rw [top64]; exact pw_mono (by decide)
  have h3 : GG < ((2 ^ 1000 : Nat) : Rat) := by unfold GG; decide +kernel
  rw [← h1] at h3
  grind
theorem BB_GG : 10000 * (BB * BB) ≤ GG ∧ 1000000 ≤ BB := by unfold BB GG; decide +kernel
theorem BB_cos : BB ≤ (100000000000000000000000000000000000000000000000000000000000000000000000000000000000000000000000000000 : Rat) := by unfold BB; decide +kernel
def ab (r : Rat) : Rat := if 0 ≤ r then r else -r
theorem ab_bd (r : Rat) : 0 ≤ ab r ∧ r ≤ ab r ∧ -ab r ≤ r := by unfold ab; split <;> (refine ⟨?_, ?_, ?_⟩ <;> grind)
theorem ab_le {r b : Rat} (h1 : r ≤ b) (h2 : -b ≤ r) : ab r ≤ b := by unfold ab; split <;> grind
theorem ab_sq (r : Rat) : ab r * ab r = r * r := by unfold ab; split <;> grind
theorem ab_ap {y : Nat} (h : fnum .f64 y) : Ap (absW y) (ab (fv .f64 y)) 0 := by
  obtain ⟨n1, n2, n3⟩ := absW_num h
  refine .of ⟨n1, ?_⟩
  unfold ab
  rcases n3 with ⟨e, h0⟩ | ⟨e, h0⟩
  · rw [if_pos h0, e]
  · rw [e]; split <;> grind
/-- Words that are numbers of a size the laws let in. -/
def Tm8 (y : Nat → Nat) : Prop := ∀ k, fnum .f64 (y k) ∧ ab (fv .f64 (y k)) ≤ BB
theorem cl_tm (y : Nat) : fnum .f64 (cl y) ∧ ab (fv .f64 (cl y)) ≤ BB := by
  obtain ⟨h1, h2, h3⟩ := cl_ok y
  have hb := big_val.2
  refine ⟨h1, ab_le ?_ ?_⟩ <;> (unfold BB; grind)
theorem zero_tm : fnum .f64 0 ∧ ab (fv .f64 0) ≤ BB := by
  have hz := zero_val
  refine ⟨hz.1, ab_le ?_ ?_⟩ <;> (rw [hz.2]; unfold BB; decide +kernel)
theorem vv_tm (v : Nat) : Tm8 (vv v) := fun k => match k with
  | 0 => cl_tm v
  | 1 => cl_tm v
  | 2 => cl_tm v
  | 3 => cl_tm v
  | 4 => cl_tm v
  | 5 => cl_tm v
  | 6 => cl_tm v
  | 7 => cl_tm v
  | _ + 8 => zero_tm
theorem xx_tm (x : Nat → Nat) : Tm8 (xx x) := fun k => match k with
  | 0 => cl_tm _
  | 1 => cl_tm _
  | 2 => cl_tm _
  | 3 => cl_tm _
  | 4 => cl_tm _
  | 5 => cl_tm _
  | 6 => cl_tm _
  | 7 => cl_tm _
  | _ + 8 => zero_tm
theorem xx_cl (x : Nat → Nat) : ∀ k, k < 8 → xx x k = cl (x k)
  | 0, _ => rfl
  | 1, _ => rfl
  | 2, _ => rfl
  | 3, _ => rfl
  | 4, _ => rfl
  | 5, _ => rfl
  | 6, _ => rfl
  | 7, _ => rfl
  | n + 8, h => by omega
theorem vv_cl (v : Nat) : ∀ k, k < 8 → vv v k = cl v
  | 0, _ => rfl
  | 1, _ => rfl
  | 2, _ => rfl
  | 3, _ => rfl
  | 4, _ => rfl
  | 5, _ => rfl
  | 6, _ => rfl
  | 7, _ => rfl
  | n + 8, h => by omega
def aN (y : Nat → Nat) (k : Nat) : Rat := ab (fv .f64 (y k))
def S8 (y : Nat → Nat) : Rat := RS (aN y) 8
theorem mir_sum (a : Nat → Rat) : RS (fun j => a (mir j)) 16 = 2 * RS a 8 := by
  simp only [RS, mir]
  simp
  grind
theorem S8_bd {y : Nat → Nat} (h : Tm8 y) : 0 ≤ S8 y ∧ S8 y ≤ 8 * BB ∧ ∀ k, k < 8 → aN y k ≤ S8 y := by
  have p0 : ∀ k, 0 ≤ aN y k := fun k => (ab_bd _).1
  refine ⟨?_, ?_, fun k hk => ?_⟩
  · have := RS_le (T := fun _ => (0 : Rat)) (D := aN y) 8 fun i _ => p0 i
    rw [RS_const] at this
    unfold S8; grind
  · have := RS_le (T := aN y) (D := fun _ => BB) 8 fun i _ => (h i).2
    rw [RS_const] at this
    exact this
  · have q0 := p0 0; have q1 := p0 1; have q2 := p0 2; have q3 := p0 3; have q4 := p0 4; have q5 := p0 5; have q6 := p0 6; have q7 := p0 7
    unfold S8
    simp only [RS]
    match k, hk with
    | 0, _ => grind
    | 1, _ => grind
    | 2, _ => grind
    | 3, _ => grind
    | 4, _ => grind
    | 5, _ => grind
    | 6, _ => grind
    | 7, _ => grind
    | n + 8, h => omega
def eC (S : Rat) : Rat := 1 / 1000000000 * S + 1 / 1000000000
theorem cosN {y : Nat → Nat} (h : Tm8 y) : okCos y ∧ ∀ u, u < 8 → Ap (cosB y u) (tC (fun k => fv .f64 (y k)) u) (eC (S8 y)) := by
  obtain ⟨h1, h2⟩ := cos_near (x := y) (ax := aN y) (fun k _ => (h k).1) (fun k => (ab_bd _).2.1) (fun k => (ab_bd _).2.2) (fun k => by have := (h k).2; have := BB_cos; unfold aN; grind)
  refine ⟨h1, fun u hu => (h2 u hu).le ?_⟩
  rw [mir_sum]
  have := (S8_bd h).1
  unfold eC
  show _ * (2 * S8 y) + _ ≤ _
  grind
theorem Mc_bd : ∀ u, u < 8 → ∀ n, n < 8 → Mc u n ≤ 51 / 100 ∧ -(51 / 100) ≤ Mc u n := by decide +kernel
theorem tC_bd {y : Nat → Nat} (h : Tm8 y) {u : Nat} (hu : u < 8) : tC (fun k => fv .f64 (y k)) u ≤ 51 / 100 * S8 y ∧ -(51 / 100 * S8 y) ≤ tC (fun k => fv .f64 (y k)) u := by
  rw [tC_lin]
  have := RS_abs (T := fun n => fv .f64 (y n) * Mc u n) (D := fun n => 51 / 100 * aN y n) (n := 8) fun n hn => by
    obtain ⟨m1, m2⟩ := Mc_bd u hu n hn
    obtain ⟨a1, a2, a3⟩ := ab_bd (fv .f64 (y n))
    have k := rmul_le (a := fv .f64 (y n)) (b := Mc u n) (A := ab (fv .f64 (y n))) (B := 51 / 100) a1 (by grind) a2 a3 m1 m2
    unfold aN
    constructor <;> grind
  rw [RS_mul] at this
  exact this
theorem w8_ap : Ap w8 8 0 := .of (kst (z := 9671406556917033397649408) (by decide +kernel) (by decide +kernel))
theorem w1e8_ap : Ap w1e8 (1 / 100000000) (1 / 1000000000000000000) := by
  have h := vB_ap (x := w1e8) (by decide +kernel)
  have h1 : vB w1e8 - 1 / 100000000 ≤ 1 / 1000000000000000000 ∧ 1 / 100000000 - vB w1e8 ≤ 1 / 1000000000000000000 := by decide +kernel
  exact (h.mv h1.1 h1.2).le (by decide +kernel)
theorem w1e7_ap : Ap w1e7 (1 / 10000000) (1 / 1000000000000000000) := by
  have h := vB_ap (x := w1e7) (by decide +kernel)
  have h1 : vB w1e7 - 1 / 10000000 ≤ 1 / 1000000000000000000 ∧ 1 / 10000000 - vB w1e7 ≤ 1 / 1000000000000000000 := by decide +kernel
  exact (h.mv h1.1 h1.2).le (by decide +kernel)
theorem bnd_ok (v : Nat) : fok .mul .f64 w8 (absW (cl v)) = true ∧ fok .add .f64 kOne (m8 v) = true ∧ fok .mul .f64 w1e8 (m81 v) = true ∧ fnum .f64 (bnd v) ∧ 99 / 10000000000 * (1 + 8 * ab (fv .f64 (cl v))) ≤ fv .f64 (bnd v) := by
  obtain ⟨n1, n2⟩ := cl_tm v
  have ha := ab_ap n1
  obtain ⟨p0, _, _⟩ := ab_bd (fv .f64 (cl v))
  obtain ⟨g1, g2⟩ := BB_GG
  have gb : 1000000 * BB ≤ BB * BB := Rat.mul_le_mul_of_nonneg_right g2 (by grind)
  generalize ab (fv .f64 (cl v)) = A at *
  obtain ⟨k1, a1⟩ := w8_ap.mul ha (U := 8) (V := A) (by grind) (by grind) (by grind) (by grind) (8 * A) (by grind) (tp_GG _ (by grind))
  have a1' : Ap (m8 v) (8 * A) (dl (8 * A)) := a1.le (by grind)
  obtain ⟨k2, a2⟩ := one_ap.add a1' (9 * A + 2) (by unfold dl; grind) (by unfold dl; grind) (tp_GG _ (by grind))
  have a2' : Ap (m81 v) (1 + 8 * A) (1 / 100000000000000 * A + 1 / 100000000000000) := a2.le (by unfold dl; grind)
  obtain ⟨k3, a3⟩ := w1e8_ap.mul a2' (U := 1 / 100000000) (V := 1 + 8 * A) (by grind) (by grind) (by grind) (by grind) (9 * A + 2) (by grind) (tp_GG _ (by grind))
  refine ⟨k1, k2, k3, a3.num, ?_⟩
  have := a3.lo
  have e : fv .f64 (bnd v) = fv .f64 (fbin .mul .f64 w1e8 (m81 v)) := rfl
  rw [e]
  unfold dl at this
  grind
theorem tC_vv (v u : Nat) : tC (fun k => fv .f64 (vv v k)) u = fv .f64 (cl v) * RS (Mc u) 8 := by
  rw [tC_lin, ← RS_mul]
  exact RS_congr 8 fun k hk => by rw [vv_cl v k hk]
theorem S8_vv (v : Nat) : S8 (vv v) = 8 * ab (fv .f64 (cl v)) := by
  unfold S8
  rw [RS_congr (T' := fun _ => ab (fv .f64 (cl v))) 8 fun k hk => by unfold aN; rw [vv_cl v k hk]]
  rw [RS_const]
  rfl
theorem root_ok : rtO w8 ∧ Ap (rootF w8) (vB (rootF w8)) 0 ∧ vB (rootF w8) ≤ 3 ∧ 0 ≤ vB (rootF w8) := ⟨by unfold rtO; decide +kernel, vB_ap (by decide +kernel), by decide +kernel, by decide +kernel⟩
theorem want_ap (v : Nat) : fok .mul .f64 (cl v) (rootF w8) = true ∧ Ap (want0 v) (fv .f64 (cl v) * vB (rootF w8)) (dl (3 * ab (fv .f64 (cl v)))) := by
  obtain ⟨n1, n2⟩ := cl_tm v
  obtain ⟨p0, p1, p2⟩ := ab_bd (fv .f64 (cl v))
  obtain ⟨g1, g2⟩ := BB_GG
  have gb : 1000000 * BB ≤ BB * BB := Rat.mul_le_mul_of_nonneg_right g2 (by grind)
  obtain ⟨_, r1, r2, r3⟩ := root_ok
  generalize ab (fv .f64 (cl v)) = A at *
  obtain ⟨k, a⟩ := (Ap.self n1).mul r1 (U := A) (V := 3) p1 p2 r2 (by grind) (3 * A) (by grind) (tp_GG _ (by grind))
  exact ⟨k, a.le (by grind)⟩
/-- One level. -/
theorem lvl_ok (v : Nat) {u : Nat} (hu : u < 8) {want : Nat} (hw : (u = 0 ∧ want = want0 v) ∨ (0 < u ∧ want = 0)) : fok .sub .f64 (cosB (vv v) u) want = true ∧ (!fle (absW (fbin .sub .f64 (cosB (vv v) u) want)) (bnd v)) = false := by
  obtain ⟨_, hc⟩ := cosN (vv_tm v)
  have c := hc u hu
  rw [tC_vv, S8_vv] at c
  obtain ⟨_, _, _, b1, b2⟩ := bnd_ok v
  obtain ⟨_, w1⟩ := want_ap v
  obtain ⟨n1, n2⟩ := cl_tm v
  obtain ⟨p0, p1, p2⟩ := ab_bd (fv .f64 (cl v))
  obtain ⟨g1, g2⟩ := BB_GG
  have gb : 1000000 * BB ≤ BB * BB := Rat.mul_le_mul_of_nonneg_right g2 (by grind)
  have fin : ∀ {w : Rat} {e : Rat}, Ap want w e → e ≤ dl (3 * ab (fv .f64 (cl v))) → RS (Mc u) 8 * fv .f64 (cl v) - w ≤ 1 / 100000000000000 * ab (fv .f64 (cl v)) → w - RS (Mc u) 8 * fv .f64 (cl v) ≤ 1 / 100000000000000 * ab (fv .f64 (cl v)) → fok .sub .f64 (cosB (vv v) u) want = true ∧ (!fle (absW (fbin .sub .f64 (cosB (vv v) u) want)) (bnd v)) = false := fun {w e} hap he d1 d2 => by
    generalize ab (fv .f64 (cl v)) = A at *
    obtain ⟨k, f⟩ := within_ok (B := 0) c hap b1 (98 / 10000000000 * (1 + 8 * A)) (by unfold eC; unfold dl at he; grind) (by unfold eC; unfold dl at he; grind) (tp_GG _ (by grind)) (by unfold dl; grind)
    exact ⟨k, by rw [f]; rfl⟩
  rcases hw with ⟨rfl, rfl⟩ | ⟨h0, rfl⟩
  · obtain ⟨l1, l2⟩ := lvl0
    refine fin w1 Rat.le_refl ?_ ?_
    · have := rmul_le (a := fv .f64 (cl v)) (b := RS (Mc 0) 8 - vB (rootF w8)) (A := ab (fv .f64 (cl v))) (B := 1 / 100000000000000) p0 (by grind) p1 p2 l1 (by grind)
      grind
    · have := rmul_le (a := fv .f64 (cl v)) (b := RS (Mc 0) 8 - vB (rootF w8)) (A := ab (fv .f64 (cl v))) (B := 1 / 100000000000000) p0 (by grind) p1 p2 l1 (by grind)
      grind
  · obtain ⟨u, rfl⟩ : ∃ j, u = j + 1 := ⟨u - 1, by omega⟩
    obtain ⟨l1, l2⟩ := lvlu u (by omega)
    have := rmul_le (a := fv .f64 (cl v)) (b := RS (Mc (u + 1)) 8) (A := ab (fv .f64 (cl v))) (B := 1 / 100000000000000) p0 (by grind) p1 p2 l1 l2
    refine fin (e := 0) (Ap.of zero_val) (by unfold dl; grind) ?_ ?_ <;> grind
/-! ### the sums -/
theorem sA_eq (x : Nat → Nat) : ∀ k, sA x k = fsum (fun i => absW (cl (x i))) 0 k
  | 0 => rfl
  | k + 1 => by show fbin _ _ _ _ = fbin _ _ _ _; rw [sA_eq x k]
theorem sQ_eq (y : Nat → Nat) : ∀ k, sQ y k = fsum (fun i => fbin .mul .f64 (y i) (y i)) 0 k
  | 0 => rfl
  | k + 1 => by show fbin _ _ _ _ = fbin _ _ _ _; rw [sQ_eq y k]
theorem S_GG {y : Nat → Nat} (h : Tm8 y) : 0 ≤ S8 y ∧ 0 ≤ S8 y * S8 y ∧ 100 * (S8 y * S8 y) + 1000 * S8 y + 1000 ≤ GG := by
  obtain ⟨h0, h1, _⟩ := S8_bd h
  obtain ⟨g1, g2⟩ := BB_GG
  have gb : 1000000 * BB ≤ BB * BB := Rat.mul_le_mul_of_nonneg_right g2 (by grind)
  have k := rmul_le (a := S8 y) (b := S8 y) (A := 8 * BB) (B := 8 * BB) (by grind) (by grind) h1 (by grind) h1 (by grind)
  exact ⟨h0, Rat.mul_nonneg h0 h0, by grind⟩
theorem sA_ok (x : Nat → Nat) : (∀ i, i < 8 → fok .add .f64 (sA x i) (absW (cl (x i))) = true) ∧ Ap (sA x 8) (S8 (xx x)) (8 * dl (10 * S8 (xx x) + 1)) := by
  obtain ⟨h0, hq, hG⟩ := S_GG (xx_tm x)
  have hb := (S8_bd (xx_tm x)).2.2
  have hAp : ∀ i, i < 8 → Ap (absW (cl (x i))) (aN (xx x) i) 0 := fun i hi => by
    unfold aN
    rw [xx_cl x i hi]
    exact ab_ap (cl_tm _).1
  have p0 : ∀ k, 0 ≤ aN (xx x) k := fun k => (ab_bd _).1
  have hE : S8 (xx x) = 0 + RS (aN (xx x)) 8 := by unfold S8; grind
  generalize hS : S8 (xx x) = S at *
  have := fsum_ap (t := fun i => absW (cl (x i))) (T := aN (xx x)) (τ := 0) (M := S) (B := 0) (S := 0) (e := 0) (c := 10 * S + 1) (s := 0) (N := 8) hAp (fun i hi => ⟨hb i hi, by have := p0 i; grind⟩) (Ap.of zero_val) (by grind) (by grind) h0 (by grind) (by grind) (by rw [show ((8 : Nat) : Rat) = 8 from rfl]; unfold dl; grind) (tp_GG _ (by grind)) 8 (Nat.le_refl _)
  rw [show ((8 : Nat) : Rat) = 8 from rfl, ← hE] at this
  refine ⟨fun i hi => by rw [sA_eq]; exact this.1 i hi, ?_⟩
  rw [sA_eq]
  exact this.2.le (by grind)
theorem sq_nn2 (x : Rat) : 0 ≤ x * x := sq_nn' x
/-- A sum of squares of floats near numbers. -/
theorem sQ_ok {y : Nat → Nat} {T : Nat → Rat} {S e : Rat} (h0 : 0 ≤ S) (hG : 100 * (S * S) + 1000 * S + 1000 ≤ GG) (he : e ≤ 1 / 1000000000 * S + 1 / 1000000000) (ha : ∀ i, i < 8 → Ap (y i) (T i) e) (hT : ∀ i, i < 8 → T i ≤ S ∧ -S ≤ T i) :
    (∀ i, i < 8 → fok .mul .f64 (y i) (y i) = true ∧ fok .add .f64 (sQ y i) (fbin .mul .f64 (y i) (y i)) = true) ∧ Ap (sQ y 8) (RS (fun i => T i * T i) 8) (8 * ((S + e) * e + S * e + dl ((S + e) * (S + e)) + dl (10 * (S * S) + 10 * S + 10))) := by
  have e0 : 0 ≤ e := (ha 0 (by decide)).pos
  have q0 := sq_nn2 S
  have b1 := rmul_le (a := S + e) (b := S + e) (A := 11 / 10 * S + 1 / 10) (B := 11 / 10 * S + 1 / 10) (by grind) (by grind) (by grind) (by grind) (by grind) (by grind)
  have b2 := rmul_le (a := e) (b := S + e) (A := 1 / 1000000000 * S + 1 / 1000000000) (B := 11 / 10 * S + 1 / 10) (by grind) (by grind) (by grind) (by grind) (by grind) (by grind)
  have b3 := rmul_le (a := S) (b := e) (A := S) (B := 1 / 1000000000 * S + 1 / 1000000000) (by grind) (by grind) (by grind) (by grind) (by grind) (by grind)
  have hm : ∀ i, i < 8 → fok .mul .f64 (y i) (y i) = true ∧ Ap (fbin .mul .f64 (y i) (y i)) (T i * T i) ((S + e) * e + S * e + dl ((S + e) * (S + e))) := fun i hi => by
    obtain ⟨t1, t2⟩ := hT i hi
    exact (ha i hi).mul (ha i hi) (U := S) (V := S) t1 t2 t1 t2 ((S + e) * (S + e)) Rat.le_refl (tp_GG _ (by grind))
  have hM : ∀ i, i < 8 → T i * T i ≤ S * S ∧ -(S * S) ≤ T i * T i := fun i hi => by
    obtain ⟨t1, t2⟩ := hT i hi
    exact rmul_le h0 h0 t1 t2 t1 t2
  have e1 : 0 ≤ (S + e) * e + S * e + dl ((S + e) * (S + e)) := by
    have := Rat.mul_nonneg (show 0 ≤ S + e by grind) e0
    have := Rat.mul_nonneg h0 e0
    have := Rat.mul_nonneg (show 0 ≤ S + e by grind) (show 0 ≤ S + e by grind)
    unfold dl
    grind
  have := fsum_ap (t := fun i => fbin .mul .f64 (y i) (y i)) (T := fun i => T i * T i) (τ := (S + e) * e + S * e + dl ((S + e) * (S + e))) (M := S * S) (B := 0) (S := 0) (e := 0) (c := 10 * (S * S) + 10 * S + 10) (s := 0) (N := 8) (fun i hi => (hm i hi).2) hM (Ap.of zero_val) (by grind) (by grind) q0 e1 (by grind) (by rw [show ((8 : Nat) : Rat) = 8 from rfl]; unfold dl; grind) (tp_GG _ (by grind)) 8 (Nat.le_refl _)
  rw [show ((8 : Nat) : Rat) = 8 from rfl] at this
  refine ⟨fun i hi => ⟨(hm i hi).1, by rw [sQ_eq]; exact this.1 i hi⟩, ?_⟩
  rw [sQ_eq]
  exact (this.2.mv (v' := RS (fun i => T i * T i) 8) (d := 0) (by grind) (by grind)).le (by grind)
theorem sQx_ok (x : Nat → Nat) : (∀ i, i < 8 → fok .mul .f64 (cl (x i)) (cl (x i)) = true ∧ fok .add .f64 (sQ (clx x) i) (fbin .mul .f64 (cl (x i)) (cl (x i))) = true) ∧ Ap (sQ (clx x) 8) (RS (fun i => fv .f64 (xx x i) * fv .f64 (xx x i)) 8) (1 / 1000000000000 * (S8 (xx x) * S8 (xx x)) + 1 / 1000000000000 * S8 (xx x) + 1 / 1000000000000) := by
  obtain ⟨h0, hq, hG⟩ := S_GG (xx_tm x)
  have hb := (S8_bd (xx_tm x)).2.2
  obtain ⟨a, b⟩ := sQ_ok (y := clx x) (T := fun i => fv .f64 (xx x i)) (e := 0) h0 hG (by grind) (fun i hi => by
      show Ap (clx x i) (fv .f64 (xx x i)) 0
      rw [xx_cl x i hi]
      exact Ap.self (cl_tm _).1) (fun i hi => by
      have := hb i hi
      have := ab_bd (fv .f64 (xx x i))
      unfold aN at *
      constructor <;> grind)
  refine ⟨a, b.le ?_⟩
  generalize S8 (xx x) = S at *
  unfold dl
  grind
theorem sQc_ok (x : Nat → Nat) : (∀ i, i < 8 → fok .mul .f64 (cosB (xx x) i) (cosB (xx x) i) = true ∧ fok .add .f64 (sQ (cosB (xx x)) i) (fbin .mul .f64 (cosB (xx x) i) (cosB (xx x) i)) = true) ∧ Ap (sQ (cosB (xx x)) 8) (RS (fun u => tC (fun k => fv .f64 (xx x k)) u * tC (fun k => fv .f64 (xx x k)) u) 8) (2 / 100000000 * (S8 (xx x) * S8 (xx x)) + 2 / 100000000 * S8 (xx x) + 2 / 100000000) := by
  obtain ⟨h0, hq, hG⟩ := S_GG (xx_tm x)
  obtain ⟨a, b⟩ := sQ_ok (y := cosB (xx x)) (T := tC (fun k => fv .f64 (xx x k))) (e := eC (S8 (xx x))) h0 hG (by unfold eC; grind) (cosN (xx_tm x)).2 (fun i hi => by
      have := tC_bd (xx_tm x) hi
      constructor <;> grind)
  refine ⟨a, b.le ?_⟩
  generalize S8 (xx x) = S at *
  unfold dl eC
  grind
/-- The bound of the last comparison. -/
theorem bnd2_ok (x : Nat → Nat) : fok .add .f64 kOne (sA x 8) = true ∧ fok .mul .f64 w1e7 (s1 x) = true ∧ fok .mul .f64 (fbin .mul .f64 w1e7 (s1 x)) (s1 x) = true ∧ fnum .f64 (bnd2 x) ∧ 9 / 100000000 * (S8 (xx x) * S8 (xx x) + 2 * S8 (xx x) + 1) ≤ fv .f64 (bnd2 x) := by
  obtain ⟨h0, hq, hG⟩ := S_GG (xx_tm x)
  have a := (sA_ok x).2
  generalize S8 (xx x) = S at *
  have a' := a.le (e' := 1 / 100000000000 * S + 1 / 100000000000) (by unfold dl; grind)
  obtain ⟨k1, b⟩ := one_ap.add a' (2 * S + 2) (by grind) (by grind) (tp_GG _ (by grind))
  have b' : Ap (s1 x) (1 + S) (1 / 10000000000 * S + 1 / 10000000000) := b.le (by unfold dl; grind)
  obtain ⟨k2, c⟩ := w1e7_ap.mul b' (U := 1 / 10000000) (V := 1 + S) (by grind) (by grind) (by grind) (by grind) (S + 1) (by grind) (tp_GG _ (by grind))
  have c' := c.le (e' := 1 / 1000000000000000 * S + 1 / 1000000000000000) (by unfold dl; grind)
  have e1 : (1 / 10000000 : Rat) * (1 + S) = 1 / 10000000 * S + 1 / 10000000 := by grind
  rw [e1] at c'
  obtain ⟨k3, d⟩ := c'.mul b' (U := 1 / 10000000 * S + 1 / 10000000) (V := 1 + S) (by grind) (by grind) (by grind) (by grind) (10 * (S * S) + 10 * S + 10) (by grind) (tp_GG _ (by grind))
  refine ⟨k1, k2, k3, d.num, ?_⟩
  have := d.lo
  have e : fv .f64 (bnd2 x) = fv .f64 (fbin .mul .f64 (fbin .mul .f64 w1e7 (s1 x)) (s1 x)) := rfl
  rw [e]
  unfold dl at this
  grind
theorem last_ok (x : Nat → Nat) : fok .sub .f64 (sQ (cosB (xx x)) 8) (sQ (clx x) 8) = true ∧ fle (absW (fbin .sub .f64 (sQ (cosB (xx x)) 8) (sQ (clx x) 8))) (bnd2 x) = true := by
  obtain ⟨h0, hq, hG⟩ := S_GG (xx_tm x)
  have a := (sQc_ok x).2
  have b := (sQx_ok x).2
  obtain ⟨_, _, _, n, m⟩ := bnd2_ok x
  obtain ⟨p1, p2⟩ := pars_near (xv := fun k => fv .f64 (xx x k)) (ax := aN (xx x)) (fun k => (ab_bd _).2.1) (fun k => (ab_bd _).2.2)
  have hS : RS (aN (xx x)) 8 = S8 (xx x) := rfl
  rw [hS] at p1 p2
  generalize S8 (xx x) = S at *
  generalize RS (fun u => tC (fun k => fv .f64 (xx x k)) u * tC (fun k => fv .f64 (xx x k)) u) 8 = P at *
  generalize RS (fun i => fv .f64 (xx x i) * fv .f64 (xx x i)) 8 = Q at *
  exact within_ok (B := 0) a b n (5 / 100000000 * (S * S) + 5 / 100000000 * S + 5 / 100000000) (by grind) (by grind) (tp_GG _ (by grind)) (by unfold dl; grind)
end Go.Proofs.YthddkcoflnbjbaaDoor
namespace Go.Proofs.YthddkcoflnbjbaaDoor
open Sm Go Go.RowKit Fl Ieee
set_option maxRecDepth 1000000
set_option linter.unusedVariables false
def GLevel : List ArgV → Option Value
  | [.val (.float .f64 _), .val (.agg a)] => fltsK .f64 a.toList fun xs => if xs.length = 8 then some (.bool true) else none
  | _ => none
theorem ok1_of {x : Nat → Nat} {k : Nat} (hk : k < 8) {r : Prop} (h : r) : ok1 x k r := by
  obtain ⟨a, b⟩ := sQx_ok x
  exact ⟨(sA_ok x).1 k hk, (a k hk).1, (a k hk).2, h⟩
theorem ok2_of {v : Nat} {x : Nat → Nat} {k : Nat} (hk : k < 8) {want : Nat} (hw : (k = 0 ∧ want = want0 v) ∨ (0 < k ∧ want = 0)) {r : Prop} (h : r) : ok2 v x k want r := by
  obtain ⟨b1, b2, b3, _⟩ := bnd_ok v
  obtain ⟨l1, l2⟩ := lvl_ok v hk hw
  obtain ⟨a, b⟩ := sQc_ok x
  exact ⟨b1, b2, b3, l1, l2, (a k hk).1, (a k hk).2, h⟩
theorem con8 : Con Tryd.prog 8 GLevel := by
  refine con_of_runW hm hT FLok Tryd.func8 Tryd.call8 fun avs u h => ?_
  unfold GLevel at h
  split at h
  · rename_i v a
    obtain ⟨xs, ha, h⟩ := fltsK_spec _ _ _ h
    split at h
    · rename_i hl
      have hu : some (Value.bool true) = some u := h
      obtain ⟨a⟩ := a
      have ha' : a = xs.map (Value.float .f64) := ha
      subst ha'
      match xs, hl with
      | [x0, x1, x2, x3, x4, x5, x6, x7], _ =>
        obtain ⟨q1, q2, q3, _, _⟩ := bnd2_ok ([x0, x1, x2, x3, x4, x5, x6, x7].getD · 0)
        obtain ⟨l1, l2⟩ := last_ok ([x0, x1, x2, x3, x4, x5, x6, x7].getD · 0)
        refine ⟨[false, false], 2000, [.m, .m, .m, .m, .m, .m, .m, .m, .m, .b false, .b false, .b false, .b false, .b false, .b false, .b false, .b false], _, _, rfl, of_run (run8 v ([x0, x1, x2, x3, x4, x5, x6, x7].getD · 0) u) ?_⟩
        refine ok1_of (show 0 < 8 by decide) (ok1_of (show 1 < 8 by decide) (ok1_of (show 2 < 8 by decide) (ok1_of (show 3 < 8 by decide) (ok1_of (show 4 < 8 by decide) (ok1_of (show 5 < 8 by decide) (ok1_of (show 6 < 8 by decide) (ok1_of (show 7 < 8 by decide) (⟨(cosN (vv_tm v)).1, (cosN (xx_tm _)).1, root_ok.1, (want_ap v).1, ok2_of (show 0 < 8 by decide) (.inl ⟨rfl, rfl⟩) (ok2_of (show 1 < 8 by decide) (.inr ⟨by decide, rfl⟩) (ok2_of (show 2 < 8 by decide) (.inr ⟨by decide, rfl⟩) (ok2_of (show 3 < 8 by decide) (.inr ⟨by decide, rfl⟩) (ok2_of (show 4 < 8 by decide) (.inr ⟨by decide, rfl⟩) (ok2_of (show 5 < 8 by decide) (.inr ⟨by decide, rfl⟩) (ok2_of (show 6 < 8 by decide) (.inr ⟨by decide, rfl⟩) (ok2_of (show 7 < 8 by decide) (.inr ⟨by decide, rfl⟩) (⟨q1, q2, q1, q3, l1, by rw [l2]; exact hu⟩))))))))⟩))))))))
    · cases h
  · cases h
end Go.Proofs.YthddkcoflnbjbaaDoor
