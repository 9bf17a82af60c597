/-
  What is proved here: the real sample of TopReal is near what its cosines say, and near the whole number's. A text to be imported.
-/
import Derived.Test.YtgpbpgbokfdbeaaLaw0
import Derived.Test.YtgpbpgbokfdbeaaCon6
import Derived.Test.YtgpbpgbokfdbeaaSimY
namespace Go.Proofs.Ytgpbpgbokfdbeaa
open Sm Go Go.RowKit Fl Ieee
set_option maxRecDepth 100000
set_option linter.unusedVariables false
def tZ (j : Nat) : Int := (zof (cosT.getD j 0)).getD 0
def tR (j : Nat) : Rat := (tZ j : Rat) / 1208925819614629174706176
theorem cT_all : ∀ c, c < 8 → ∀ u, u < 8 → (zof (cosT.getD ((2 * c + 1) * u) 0)).isSome = true ∧ tR ((2 * c + 1) * u) ≤ 1 ∧ -1 ≤ tR ((2 * c + 1) * u) := by decide +kernel
theorem cT_ap {j : Nat} (h1 : (zof (cosT.getD j 0)).isSome = true) : Ap (cosT.getD j 0) (tR j) 0 := by
  obtain ⟨z, hz⟩ := Option.isSome_iff_exists.1 h1
  refine .of (kst hz ?_)
  unfold tR tZ
  rw [hz, Option.getD_some, Rat.div_def, Rat.mul_assoc, Rat.inv_mul_cancel _ (by decide), Rat.mul_one]
def rt : Rat := (((zof wrt).getD 0 : Int) : Rat) / 1208925819614629174706176
theorem rt_ok : (zof wrt).isSome = true ∧ 7 / 10 ≤ rt ∧ rt ≤ 71 / 100 := by decide +kernel
theorem rt_ap : Ap wrt rt 0 := by
  obtain ⟨z, hz⟩ := Option.isSome_iff_exists.1 rt_ok.1
  refine .of (kst hz ?_)
  unfold rt
  rw [hz, Option.getD_some, Rat.div_def, Rat.mul_assoc, Rat.inv_mul_cancel _ (by decide), Rat.mul_one]
theorem tp_big : (200000 : Rat) < tp .f64 := by have := tp_ge .f64; grind
theorem v4 : fnum .f64 w4 ∧ fv .f64 w4 = 4 := kst (z := 4835703278458516698824704) (by decide +kernel) (by rw [show ((4835703278458516698824704 : Int) : Rat) = 4835703278458516698824704 from rfl]; grind)
/-- A wave of the law. -/
def rtI (u : Nat) : Rat := if u = 0 then rt else 1
def D (u c : Nat) : Rat := tR ((2 * c + 1) * u) * rtI u
theorem D_all : ∀ u, u < 8 → ∀ c, c < 8 → D u c ≤ 1 ∧ -1 ≤ D u c ∧ (wF (8 * u + c) : Rat) - 524288 * D u c ≤ 51 / 100 ∧ -(51 / 100) ≤ (wF (8 * u + c) : Rat) - 524288 * D u c := by decide +kernel
theorem cI_ap {c u : Nat} (hc : c < 8) (hu : u < 8) : Ap (cI c u) (tR ((2 * c + 1) * u)) 0 ∧ tR ((2 * c + 1) * u) ≤ 1 ∧ -1 ≤ tR ((2 * c + 1) * u) := by
  obtain ⟨k1, k2⟩ := kI_eq hc hu
  obtain ⟨b0, b1, b2⟩ := cT_all c hc u hu
  refine ⟨?_, b1, b2⟩
  unfold cI
  rw [k1, Int.toNat_natCast]
  exact cT_ap b0
/-- A factor that is there or not. -/
theorem opt_ap {x : Nat} {X e : Rat} (h : Ap x X e) (h1 : X ≤ 1) (h2 : -1 ≤ X) (he : e ≤ 1 / 1000000000000) (u : Nat) :
    fok .mul .f64 x wrt = true ∧ Ap (bif (u : Int) == 0 then fbin .mul .f64 x wrt else x) (X * rtI u) (e + 1 / 1000000000000000) ∧ X * rtI u ≤ 1 ∧ -1 ≤ X * rtI u := by
  have ht := tp_big
  obtain ⟨_, r1, r2⟩ := rt_ok
  have e0 := h.pos
  obtain ⟨k, a⟩ := h.mul rt_ap (U := 1) (V := 71 / 100) h1 h2 r2 (by grind) 1 (by grind) (by grind)
  have p := rmul_le (a := X) (b := rt) (A := 1) (B := 71 / 100) (by grind) (by grind) h1 h2 r2 (by grind)
  refine ⟨k, ?_⟩
  by_cases hu : u = 0
  · subst hu
    unfold rtI
    rw [if_pos rfl]
    exact ⟨a.le (by unfold dl; grind), by grind, by grind⟩
  · have : ((u : Int) == 0) = false := by simpa using hu
    unfold rtI
    rw [if_neg hu, this]
    exact ⟨(h.mv (v' := X * 1) (d := 0) (by grind) (by grind)).le (by grind), by grind, by grind⟩
theorem w_ap {r c v u : Nat} (hr : r < 8) (hc : c < 8) (hv : v < 8) (hu : u < 8) :
    fok .mul .f64 (cI c u) (cI r v) = true ∧ fok .quo .f64 (p0W r c v u) w4 = true ∧ fok .mul .f64 (p1W r c v u) wrt = true ∧ fok .mul .f64 (p3W r c v u) wrt = true ∧ Ap (wW r c v u) (D u c * D v r / 4) (1 / 100000000000000) := by
  have ht := tp_big
  obtain ⟨a, a1, a2⟩ := cI_ap hc hu
  obtain ⟨b, b1, b2⟩ := cI_ap hr hv
  obtain ⟨k1, q1⟩ := a.mul b a1 a2 b1 b2 1 (by grind) (by grind)
  have p := rmul_le (A := 1) (B := 1) (by grind) (by grind) a1 a2 b1 b2
  have q1' : Ap (p0W r c v u) (tR ((2 * c + 1) * u) * tR ((2 * r + 1) * v)) (1 / 1000000000000000) := q1.le (by unfold dl; grind)
  obtain ⟨k2, q2⟩ := q1'.quo v4 (by grind) 2 (by grind) (by grind) (by grind)
  have q2' : Ap (p1W r c v u) (tR ((2 * c + 1) * u) * tR ((2 * r + 1) * v) / 4) (2 / 1000000000000000) := q2.le (by unfold dl; grind)
  obtain ⟨k3, q3, g1, g2⟩ := opt_ap q2' (by grind) (by grind) (by grind) u
  have q3' : Ap (p3W r c v u) _ _ := q3
  obtain ⟨k4, q4, g3, g4⟩ := opt_ap q3' g1 g2 (by grind) v
  refine ⟨k1, k2, k3, k4, ?_⟩
  have q4' : Ap (wW r c v u) _ _ := q4
  unfold D
  exact (q4'.mv (v' := tR ((2 * c + 1) * u) * rtI u * (tR ((2 * r + 1) * v) * rtI v) / 4) (d := 0) (by grind) (by grind)).le (by grind)
/-- A whole number as a float. -/
theorem i2f_ap {n : Int} (h1 : -9007199254740992 ≤ n) (h2 : n ≤ 9007199254740992) : fnum .f64 (i2f n) ∧ fv .f64 (i2f n) = (n : Rat) := by
  have q1 : (n : Rat) ≤ ((9007199254740992 : Int) : Rat) := Rat.intCast_le_intCast.2 h2
  have q2 : ((-9007199254740992 : Int) : Rat) ≤ (n : Rat) := Rat.intCast_le_intCast.2 h1
  have hb : (9007199254740993 : Rat) < tp .f64 := by
    have h := pw_nat 60
    rw [show (2 ^ 60 : Nat) = 1152921504606846976 from rfl, Rat.natCast_ofNat] at h
    have : pw ((60 : Nat) : Int) ≤ tp .f64 := by unfold tp; rw [top64]; exact pw_mono (by decide)
    grind
  have n1 : ((9007199254740992 : Int) : Rat) = 9007199254740992 := rfl
  have n2 : ((-9007199254740992 : Int) : Rat) = -9007199254740992 := rfl
  rw [n1] at q1
  rw [n2] at q2
  have r := fint (k := .f64) n (by grind) (by grind)
  exact ⟨r.num, r.exact (rep_int (by decide) (by rw [show FloatKind.f64.format.fractionBits + 1 = 53 from rfl]; omega) (by rw [show FloatKind.f64.format.fractionBits + 1 = 53 from rfl]; omega))⟩

/-! ### the chain of sums -/
theorem zero_val : fnum .f64 0 ∧ fv .f64 0 = 0 := by
  have e : FloatKind.f64.format.read 0 = .number false 0 FloatKind.f64.format.leastPlace := by kernel_rfl
  refine ⟨⟨_, _, _, e⟩, ?_⟩
  show dv (FloatKind.f64.format.read 0) = 0
  rw [e]
  simp [dv]
def TT (f : Nat → Int) (r c j : Nat) : Rat := D (j % 8) c * D (j / 8) r * (f j : Rat)
theorem D_le {u c : Nat} (hu : u < 8) (hc : c < 8) : D u c ≤ 1 ∧ -1 ≤ D u c := ⟨(D_all u hu c hc).1, (D_all u hu c hc).2.1⟩
theorem f_rat {f : Nat → Int} (hf : ∀ i, i < 64 → -2048 ≤ f i ∧ f i ≤ 2048) {j : Nat} (hj : j < 64) : (f j : Rat) ≤ 2048 ∧ -2048 ≤ (f j : Rat) := by
  obtain ⟨f1, f2⟩ := hf j hj
  have g1 : (f j : Rat) ≤ ((2048 : Int) : Rat) := Rat.intCast_le_intCast.2 f2
  have g2 : ((-2048 : Int) : Rat) ≤ (f j : Rat) := Rat.intCast_le_intCast.2 f1
  exact ⟨g1, g2⟩
theorem term_ap {f : Nat → Int} (hf : ∀ i, i < 64 → -2048 ≤ f i ∧ f i ≤ 2048) {r c j : Nat} (hr : r < 8) (hc : c < 8) (hj : j < 64) :
    fok .mul .f64 (wW r c (j / 8) (j % 8)) (i2f (f j)) = true ∧ Ap (tI f r c j) (TT f r c j / 4) (1 / 1000000000) ∧ TT f r c j ≤ 2048 ∧ -2048 ≤ TT f r c j := by
  have ht := tp_big
  obtain ⟨_, _, _, _, a⟩ := w_ap hr hc (v := j / 8) (u := j % 8) (by omega) (by omega)
  obtain ⟨b1, b2⟩ := D_le (u := j % 8) (c := c) (by omega) hc
  obtain ⟨b3, b4⟩ := D_le (u := j / 8) (c := r) (by omega) hr
  obtain ⟨g1, g2⟩ := f_rat hf hj
  obtain ⟨f1, f2⟩ := hf j hj
  have p := rmul_le (A := 1) (B := 1) (by grind) (by grind) b1 b2 b3 b4
  have hi := Ap.of (i2f_ap (n := f j) (by omega) (by omega))
  have p2 := rmul_le (a := D (j % 8) c * D (j / 8) r) (b := (f j : Rat)) (A := 1) (B := 2048) (by grind) (by grind) (by grind) (by grind) g1 g2
  obtain ⟨k2, a2⟩ := a.mul hi (U := 1) (V := 2048) (by grind) (by grind) g1 g2 2049 (by grind) (by grind)
  have e : tI f r c j = fbin .mul .f64 (wW r c (j / 8) (j % 8)) (i2f (f j)) := by
    unfold tI tW
    rw [(plI_eq (v := j / 8) (u := j % 8) (by omega) (by omega)).1, show 8 * (j / 8) + j % 8 = j from by omega]
  refine ⟨k2, ?_, by unfold TT; grind, by unfold TT; grind⟩
  rw [e]
  unfold TT
  exact (a2.mv (v' := D (j % 8) c * D (j / 8) r * (f j : Rat) / 4) (d := 0) (by grind) (by grind)).le (by unfold dl; grind)
theorem sum_ap {f : Nat → Int} (hf : ∀ i, i < 64 → -2048 ≤ f i ∧ f i ≤ 2048) {r c : Nat} (hr : r < 8) (hc : c < 8) :
    (∀ i, i < 64 → fok .add .f64 (sumR f r c i) (tI f r c i) = true) ∧ Ap (sumR f r c 64) (RS (TT f r c) 64 / 4) (1 / 1000000) := by
  have ht := tp_big
  have h64 : ((64 : Nat) : Rat) = 64 := rfl
  obtain ⟨h1, h2⟩ := fsum_ap (t := tI f r c) (T := fun j => TT f r c j / 4) (s := 0) (S := 0) (e := 0) (N := 64) (τ := 1 / 1000000000) (M := 512) (B := 0) (c := 40000) (fun i hi => (term_ap hf hr hc hi).2.1) (fun i hi => by
    have := (term_ap hf hr hc hi).2.2
    constructor <;> grind) (Ap.of zero_val) (by grind) (by grind) (by grind) (by grind) (by grind)
    (by rw [h64]; unfold dl; grind) (by grind) 64 (by omega)
  refine ⟨h1, ?_⟩
  have e : RS (fun j => TT f r c j / 4) 64 = RS (TT f r c) 64 / 4 := by
    have := RS_mul (1 / 4) (TT f r c) 64
    rw [show RS (TT f r c) 64 / 4 = 1 / 4 * RS (TT f r c) 64 from by grind, ← this]
    exact RS_congr 64 fun j _ => by grind
  rw [e] at h2
  have := h2.mv (v' := RS (TT f r c) 64 / 4) (d := 0) (by grind) (by grind)
  refine this.le ?_
  rw [h64]
  unfold dl
  grind
theorem real_ok {f : Nat → Int} (hf : ∀ i, i < 64 → -2048 ≤ f i ∧ f i ≤ 2048) {r c : Nat} (hr : r < 8) (hc : c < 8) : okReal f r c := fun v hv u hu => by
  obtain ⟨k1, k2, k3, k4, _⟩ := w_ap hr hc hv hu
  have k5 := (term_ap hf hr hc (j := 8 * v + u) (by omega)).1
  rw [show (8 * v + u) / 8 = v from by omega, show (8 * v + u) % 8 = u from by omega] at k5
  exact ⟨k1, k2, k3, k4, k5, (sum_ap hf hr hc).1 (8 * v + u) (by omega)⟩
end Go.Proofs.Ytgpbpgbokfdbeaa
