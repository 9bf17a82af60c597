/-
  What is proved here: a number whose powers turn round the circle in 4096 steps, very nearly. turning numbers of 4096 parts and their laws.
-/
import Derived.Test.YthddkcoflnbjbaaDoorQSimZ
namespace Go.Proofs.YthddkcoflnbjbaaDoor
open Sm
set_option maxRecDepth 100000
set_option linter.unusedVariables false
def wP : Int := 1461499917803638860677717216363700348572254541205
def wQ : Int := 2241914553888348410651421743954041794688034218
def wS : Int := 1461501637330902918203684832716283019655932542976
def cxI (v : Int × Int) : Cx := ⟨(v.1 : Rat) / (wS : Rat), (v.2 : Rat) / (wS : Rat)⟩
def wz : Cx := cxI (wP, -wQ)
def pow (a : Cx) : Nat → Cx
  | 0 => Cx.one
  | n + 1 => Cx.mul (pow a n) a
theorem pow_add (a : Cx) (m : Nat) : ∀ n, pow a (m + n) = Cx.mul (pow a m) (pow a n)
  | 0 => by rw [Nat.add_zero, pow, Cx.mul_one]
  | n + 1 => by rw [← Nat.add_assoc, pow, pow, pow_add a m n, Cx.mul_assoc]
theorem sq_nn (x : Rat) : 0 ≤ x * x := by
  by_cases h0 : 0 ≤ x
  · exact Rat.mul_nonneg h0 h0
  · have := Rat.mul_nonneg (a := -x) (b := -x) (by grind) (by grind)
    grind
theorem nrm_nn (a : Cx) : 0 ≤ Cx.nrm a := by
  have := sq_nn a.re
  have := sq_nn a.im
  unfold Cx.nrm
  grind
theorem nrm_w : Cx.nrm wz ≤ 1 := by
  show (wP : Rat) / (wS : Rat) * ((wP : Rat) / (wS : Rat)) + ((-wQ : Int) : Rat) / (wS : Rat) * (((-wQ : Int) : Rat) / (wS : Rat)) ≤ 1
  unfold wP wQ wS
  decide +kernel
theorem nrm_pow : ∀ n, Cx.nrm (pow wz n) ≤ 1
  | 0 => by simp only [pow, Cx.one, Cx.nrm]; grind
  | n + 1 => by
    rw [pow, Cx.nrm_mul]
    have h1 := nrm_pow n
    have h2 := nrm_w
    have h3 := Rat.mul_le_mul_of_nonneg_left h2 (nrm_nn (pow wz n))
    grind
theorem pow_wi (n : Nat) : Cx.Wi (pow wz n) 1 := .of_nrm (nrm_pow n)
def mulI (v u : Int × Int) : Int × Int := ((v.1 * u.1 - v.2 * u.2) / wS, (v.1 * u.2 + v.2 * u.1) / wS)
theorem wS_pos : (0 : Rat) < (wS : Rat) := by unfold wS; decide +kernel
def uS : Rat := 1 / (wS : Rat)
theorem uS_pos : 0 < uS := by unfold uS wS; decide +kernel
theorem div_cut (x : Int) : (x : Rat) / (wS : Rat) / (wS : Rat) - ((x / wS : Int) : Rat) / (wS : Rat) ≤ uS ∧ ((x / wS : Int) : Rat) / (wS : Rat) ≤ (x : Rat) / (wS : Rat) / (wS : Rat) := by
  have h0 : (0 : Int) < wS := by decide
  have h1 : x / wS * wS ≤ x := Int.ediv_mul_le x (by omega)
  have h2 : x < (x / wS + 1) * wS := Int.lt_ediv_add_one_mul_self x h0
  have h1' : ((x / wS : Int) : Rat) * (wS : Rat) ≤ (x : Rat) := by rw [← Rat.intCast_mul]; exact Rat.intCast_le_intCast.2 h1
  have h2' : (x : Rat) < (((x / wS : Int) : Rat) + 1) * (wS : Rat) := by
    have : (((x / wS : Int) : Rat) + 1) = ((x / wS + 1 : Int) : Rat) := by rw [Rat.intCast_add]; rfl
    rw [this, ← Rat.intCast_mul]; exact Rat.intCast_lt_intCast.2 h2
  have hi : 0 ≤ (wS : Rat)⁻¹ := Rat.le_of_lt (Rat.inv_pos.2 wS_pos)
  have hm : (wS : Rat) * (wS : Rat)⁻¹ = 1 := Rat.mul_inv_cancel _ (fun h => by have := wS_pos; grind)
  have c1 := Rat.mul_le_mul_of_nonneg_right h1' hi
  have c2 := Rat.mul_le_mul_of_nonneg_right (Rat.le_of_lt h2') hi
  rw [Rat.mul_assoc, hm, Rat.mul_one] at c1 c2
  have a1 : ((x / wS : Int) : Rat) ≤ (x : Rat) * (wS : Rat)⁻¹ := c1
  have a2 : (x : Rat) * (wS : Rat)⁻¹ ≤ ((x / wS : Int) : Rat) + 1 := c2
  have b1 := Rat.mul_le_mul_of_nonneg_right a1 hi
  have b2 := Rat.mul_le_mul_of_nonneg_right a2 hi
  unfold uS
  simp only [Rat.div_def] at *
  generalize (wS : Rat)⁻¹ = r at *
  constructor <;> grind
theorem cxI_mul (v u : Int × Int) : Cx.Wi (Cx.sub (Cx.mul (cxI v) (cxI u)) (cxI (mulI v u))) uS := by
  obtain ⟨a1, a2⟩ := div_cut (v.1 * u.1 - v.2 * u.2)
  obtain ⟨b1, b2⟩ := div_cut (v.1 * u.2 + v.2 * u.1)
  have hp := uS_pos
  have e1 : (Cx.mul (cxI v) (cxI u)).re = ((v.1 * u.1 - v.2 * u.2 : Int) : Rat) / (wS : Rat) / (wS : Rat) := by
    simp only [Cx.mul, cxI, Rat.div_def, Rat.intCast_sub, Rat.intCast_mul]; grind
  have e2 : (Cx.mul (cxI v) (cxI u)).im = ((v.1 * u.2 + v.2 * u.1 : Int) : Rat) / (wS : Rat) / (wS : Rat) := by
    simp only [Cx.mul, cxI, Rat.div_def, Rat.intCast_add, Rat.intCast_mul]; grind
  have f1 : (cxI (mulI v u)).re = (((v.1 * u.1 - v.2 * u.2) / wS : Int) : Rat) / (wS : Rat) := rfl
  have f2 : (cxI (mulI v u)).im = (((v.1 * u.2 + v.2 * u.1) / wS : Int) : Rat) / (wS : Rat) := rfl
  exact ⟨by simp only [Cx.sub]; rw [e1, f1]; grind, by simp only [Cx.sub]; rw [e1, f1]; grind, by simp only [Cx.sub]; rw [e2, f2]; grind, by simp only [Cx.sub]; rw [e2, f2]; grind⟩
def pw2 : Nat → Nat → Int × Int
  | 0, _ => (wS, 0)
  | d + 1, l => if l % 2 = 1 then mulI (mulI (pw2 d (l / 2)) (pw2 d (l / 2))) (wP, -wQ) else mulI (pw2 d (l / 2)) (pw2 d (l / 2))
def eP : Nat → Rat
  | 0 => 0
  | d + 1 => 12 * eP d + 3 * uS
theorem eP_nn : ∀ d, 0 ≤ eP d
  | 0 => by unfold eP; grind
  | d + 1 => by have := eP_nn d; have := uS_pos; unfold eP; grind
theorem sub_tri {a b c : Cx} {d e : Rat} (h1 : Cx.Wi (Cx.sub a b) d) (h2 : Cx.Wi (Cx.sub b c) e) : Cx.Wi (Cx.sub a c) (d + e) := by
  obtain ⟨a1, a2, a3, a4⟩ := h1
  obtain ⟨b1, b2, b3, b4⟩ := h2
  simp only [Cx.sub] at *
  exact ⟨by grind, by grind, by grind, by grind⟩
theorem mul_near {a b a' b' : Cx} {d e : Rat} (ha : Cx.Wi a 1) (hb : Cx.Wi b 1) (h1 : Cx.Wi (Cx.sub a a') d) (h2 : Cx.Wi (Cx.sub b b') e) : Cx.Wi (Cx.sub (Cx.mul a b) (Cx.mul a' b')) (2 * d + 2 * e + 2 * (d * e)) := by
  have h3 := (ha.mul h2).add ((h1.mul hb).add (h1.mul h2))
  have e1 : Cx.sub (Cx.mul a b) (Cx.mul a' b') = Cx.sub (Cx.add (Cx.mul a (Cx.sub b b')) (Cx.mul (Cx.sub a a') b)) (Cx.mul (Cx.sub a a') (Cx.sub b b')) :=
    Cx.ext' (by simp only [Cx.sub, Cx.add, Cx.mul]; grind) (by simp only [Cx.sub, Cx.add, Cx.mul]; grind)
  rw [e1]
  refine (((ha.mul h2).add (h1.mul hb)).sub (h1.mul h2)).le ?_
  grind
theorem pw2_near : ∀ d, d ≤ 13 → ∀ l, l < 2 ^ d → Cx.Wi (Cx.sub (pow wz l) (cxI (pw2 d l))) (eP d) ∧ eP d ≤ 1
  | 0, _, l, h => by
    obtain rfl : l = 0 := by simp at h; exact h
    have : cxI (pw2 0 0) = Cx.one := Cx.ext' (by show (wS : Rat) / (wS : Rat) = 1; unfold wS; decide +kernel) (by show ((0 : Int) : Rat) / (wS : Rat) = 0; unfold wS; decide +kernel)
    rw [this, pow]
    refine ⟨⟨?_, ?_, ?_, ?_⟩, ?_⟩ <;> simp only [Cx.sub, Cx.one, eP] <;> grind
  | d + 1, hd, l, h => by
    have h2 : l / 2 < 2 ^ d := by rw [Nat.pow_succ] at h; omega
    obtain ⟨hv, he⟩ := pw2_near d (by omega) (l / 2) h2
    have h0 := eP_nn d
    have hu := uS_pos
    have hw := pow_wi (l / 2)
    have q1 := sub_tri (mul_near hw hw hv hv) (cxI_mul (pw2 d (l / 2)) (pw2 d (l / 2)))
    have e2 : eP d * eP d ≤ eP d := by have := Rat.mul_le_mul_of_nonneg_left he h0; grind
    have q2 : Cx.Wi (Cx.sub (pow wz (l / 2 + l / 2)) (cxI (mulI (pw2 d (l / 2)) (pw2 d (l / 2))))) (6 * eP d + uS) := by
      rw [pow_add]
      exact q1.le (by grind)
    have hle : eP (d + 1) ≤ 1 := by
      have : ∀ d, d ≤ 13 → eP d ≤ 1 := by decide +kernel
      exact this _ hd
    refine ⟨?_, hle⟩
    unfold pw2
    split
    · rename_i ho
      have el : l = (l / 2 + l / 2) + 1 := by omega
      rw [el, show ((l / 2 + l / 2) + 1) / 2 = l / 2 by omega, pow]
      have z0 : Cx.Wi (Cx.sub wz wz) 0 := ⟨by simp only [Cx.sub]; grind, by simp only [Cx.sub]; grind, by simp only [Cx.sub]; grind, by simp only [Cx.sub]; grind⟩
      have q3 := mul_near (pow_wi _) (by have := pow_wi 1; rw [pow, pow, Cx.one_mul] at this; exact this) q2 z0
      have q4 := sub_tri q3 (cxI_mul (mulI (pw2 d (l / 2)) (pw2 d (l / 2))) (wP, -wQ))
      refine q4.le ?_
      show _ ≤ 12 * eP d + 3 * uS
      grind
    · rename_i ho
      have el : l = l / 2 + l / 2 := by omega
      rw [el, show (l / 2 + l / 2) / 2 = l / 2 by omega]
      refine q2.le ?_
      show _ ≤ 12 * eP d + 3 * uS
      grind
end Go.Proofs.YthddkcoflnbjbaaDoor
namespace Go.Proofs.YthddkcoflnbjbaaDoor
open Sm
set_option maxRecDepth 100000
set_option linter.unusedVariables false
def io : Rat := 1 / 1267650600228229401496703205376
theorem io_pos : 0 < io := by unfold io; decide +kernel
def half1 : Rat := io / 16
def cC : Int := 1125899906842624
theorem div_uS (x : Rat) : x / (wS : Rat) = x * uS := by unfold uS; rw [Rat.div_def, Rat.div_def, Rat.one_mul]
theorem wS_one : (wS : Rat) * uS = 1 := by unfold uS wS; decide +kernel
theorem to_rat {a b c : Int} (h : a - b ≤ c) : (a : Rat) * uS - (b : Rat) * uS ≤ (c : Rat) * uS := by
  have h2 : (a : Rat) - (b : Rat) ≤ (c : Rat) := by rw [← Rat.intCast_sub]; exact Rat.intCast_le_intCast.2 h
  have := Rat.mul_le_mul_of_nonneg_right h2 (Rat.le_of_lt uS_pos)
  grind
theorem cC_le : (cC : Rat) * uS + eP 13 ≤ half1 := by decide +kernel
theorem near_of {z : Cx} {v : Int × Int} {r i c : Int} {e : Rat} (h : Cx.Wi (Cx.sub z (cxI v)) e) (h1 : v.1 - r ≤ c) (h2 : r - v.1 ≤ c) (h3 : v.2 - i ≤ c) (h4 : i - v.2 ≤ c) : Cx.Wi (Cx.sub z (cxI (r, i))) ((c : Rat) * uS + e) := by
  obtain ⟨a1, a2, a3, a4⟩ := h
  have b1 := to_rat h1
  have b2 := to_rat h2
  have b3 := to_rat h3
  have b4 := to_rat h4
  simp only [cxI, div_uS, Cx.sub] at *
  exact ⟨by grind, by grind, by grind, by grind⟩
theorem near_pow (l : Nat) (hl : l < 2 ^ 13) (r i : Int) (h : (pw2 13 l).1 - r ≤ cC ∧ r - (pw2 13 l).1 ≤ cC ∧ (pw2 13 l).2 - i ≤ cC ∧ i - (pw2 13 l).2 ≤ cC) : Cx.Wi (Cx.sub (pow wz l) (cxI (r, i))) half1 :=
  (near_of (pw2_near 13 (Nat.le_refl _) l hl).1 h.1 h.2.1 h.2.2.1 h.2.2.2).le cC_le
theorem cxI_of {r i : Int} {a b : Rat} (h1 : (r : Rat) * uS = a) (h2 : (i : Rat) * uS = b) : cxI (r, i) = ⟨a, b⟩ := Cx.ext' (by show (r : Rat) / (wS : Rat) = a; rw [div_uS, h1]) (by show (i : Rat) / (wS : Rat) = b; rw [div_uS, h2])
theorem wS_neg : ((-wS : Int) : Rat) * uS = -1 := by rw [Rat.intCast_neg, Rat.neg_mul, wS_one]
theorem zS : ((0 : Int) : Rat) * uS = 0 := by rw [Rat.intCast_zero, Rat.zero_mul]
theorem p4096 : Cx.Wi (Cx.sub (pow wz 4096) Cx.one) half1 := by
  have h := near_pow 4096 (by decide) wS 0 (by decide +kernel)
  rwa [cxI_of wS_one zS] at h
theorem p2048 : Cx.Wi (Cx.add (pow wz 2048) Cx.one) half1 := by
  have h := near_pow 2048 (by decide) (-wS) 0 (by decide +kernel)
  rw [cxI_of wS_neg zS] at h
  generalize pow wz 2048 = z at *
  obtain ⟨a1, a2, a3, a4⟩ := h
  simp only [Cx.sub, Cx.add, Cx.one] at *
  exact ⟨by grind, by grind, by grind, by grind⟩
def mi : Cx := ⟨0, -1⟩
theorem p1024 : Cx.Wi (Cx.sub (pow wz 1024) mi) half1 := by
  have h := near_pow 1024 (by decide) 0 (-wS) (by decide +kernel)
  rwa [cxI_of zS wS_neg] at h
def U4 (k : Int) : Cx := pow wz (k % 4096).toNat
theorem U4_nrm (k : Int) : Cx.nrm (U4 k) ≤ 1 := nrm_pow _
theorem U4_wi (k : Int) : Cx.Wi (U4 k) 1 := pow_wi _
theorem U4_zero : U4 0 = Cx.one := rfl
theorem U4_per (k m : Int) : U4 (k + 4096 * m) = U4 k := by unfold U4; rw [Int.add_mul_emod_self_left]
theorem wi_self (a : Cx) {e : Rat} (h : 0 ≤ e) : Cx.Wi (Cx.sub a a) e := ⟨by simp only [Cx.sub]; grind, by simp only [Cx.sub]; grind, by simp only [Cx.sub]; grind, by simp only [Cx.sub]; grind⟩
theorem U4_add (a b : Int) : Cx.Wi (Cx.sub (U4 (a + b)) (Cx.mul (U4 a) (U4 b))) io := by
  have hi := io_pos
  unfold U4
  have ha := Int.emod_nonneg a (show (4096 : Int) ≠ 0 by decide)
  have hb := Int.emod_nonneg b (show (4096 : Int) ≠ 0 by decide)
  have ha2 := Int.emod_lt_of_pos a (show (0 : Int) < 4096 by decide)
  have hb2 := Int.emod_lt_of_pos b (show (0 : Int) < 4096 by decide)
  rw [← pow_add]
  by_cases h : a % 4096 + b % 4096 < 4096
  · have e : ((a + b) % 4096).toNat = (a % 4096).toNat + (b % 4096).toNat := by omega
    rw [e]
    exact wi_self _ (by grind)
  · have e : (a % 4096).toNat + (b % 4096).toNat = ((a + b) % 4096).toNat + 4096 := by omega
    rw [e, pow_add]
    have h1 := (pow_wi ((a + b) % 4096).toNat).mul p4096
    generalize pow wz 4096 = z at *
    have e1 : Cx.sub (pow wz ((a + b) % 4096).toNat) (Cx.mul (pow wz ((a + b) % 4096).toNat) z) = Cx.sub Cx.zero (Cx.mul (pow wz ((a + b) % 4096).toNat) (Cx.sub z Cx.one)) :=
      Cx.ext' (by simp only [Cx.sub, Cx.mul, Cx.one, Cx.zero]; grind) (by simp only [Cx.sub, Cx.mul, Cx.one, Cx.zero]; grind)
    rw [e1]
    obtain ⟨b1, b2, b3, b4⟩ := h1
    unfold half1 at *
    simp only [Cx.sub, Cx.zero] at *
    exact ⟨by grind, by grind, by grind, by grind⟩
theorem U4_half (a : Int) : Cx.Wi (Cx.add (U4 (a + 2048)) (U4 a)) io := by
  have hi := io_pos
  unfold U4
  have ha := Int.emod_nonneg a (show (4096 : Int) ≠ 0 by decide)
  have ha2 := Int.emod_lt_of_pos a (show (0 : Int) < 4096 by decide)
  have key : ∀ n : Nat, Cx.Wi (Cx.add (pow wz (n + 2048)) (pow wz n)) io := fun n => by
    rw [pow_add]
    have h1 := (pow_wi n).mul p2048
    generalize pow wz 2048 = z at *
    have e1 : Cx.add (Cx.mul (pow wz n) z) (pow wz n) = Cx.mul (pow wz n) (Cx.add z Cx.one) :=
      Cx.ext' (by simp only [Cx.add, Cx.mul, Cx.one]; grind) (by simp only [Cx.add, Cx.mul, Cx.one]; grind)
    rw [e1]
    refine h1.le ?_
    unfold half1
    grind
  by_cases h : a % 4096 < 2048
  · have e : ((a + 2048) % 4096).toNat = (a % 4096).toNat + 2048 := by omega
    rw [e]
    exact key _
  · have e : (a % 4096).toNat = ((a + 2048) % 4096).toNat + 2048 := by omega
    rw [e, Cx.add_comm]
    exact key _
/-! lengths -/
def dw : Rat := 1 - Cx.nrm wz
theorem dw_bd : 0 ≤ dw ∧ 4096 * dw ≤ half1 := by
  refine ⟨by have := nrm_w; unfold dw; grind, ?_⟩
  show 4096 * (1 - ((wP : Rat) / (wS : Rat) * ((wP : Rat) / (wS : Rat)) + ((-wQ : Int) : Rat) / (wS : Rat) * (((-wQ : Int) : Rat) / (wS : Rat)))) ≤ half1
  unfold wP wQ wS
  decide +kernel
theorem nrm_ge : ∀ n : Nat, 1 - n * dw ≤ Cx.nrm (pow wz n)
  | 0 => by simp only [pow, Cx.one, Cx.nrm]; grind
  | n + 1 => by
    rw [pow, Cx.nrm_mul]
    have h1 := nrm_ge n
    have hd := dw_bd.1
    have hn := nrm_pow n
    have e : Cx.nrm wz = 1 - dw := by unfold dw; grind
    rw [e]
    have h2 := Rat.mul_le_mul_of_nonneg_right hn hd
    have e3 : ((n + 1 : Nat) : Rat) = (n : Rat) + 1 := by rw [Rat.natCast_add]; rfl
    rw [e3]
    grind
theorem U4_len (k : Int) : 1 - half1 ≤ Cx.nrm (U4 k) := by
  have h := nrm_ge (k % 4096).toNat
  have ha := Int.emod_nonneg k (show (4096 : Int) ≠ 0 by decide)
  have ha2 := Int.emod_lt_of_pos k (show (0 : Int) < 4096 by decide)
  have hn : (((k % 4096).toNat : Nat) : Rat) ≤ 4096 := by
    have : (k % 4096).toNat ≤ 4096 := by omega
    exact Rat.natCast_le_natCast.2 this
  obtain ⟨d1, d2⟩ := dw_bd
  have := Rat.mul_le_mul_of_nonneg_right hn d1
  show 1 - half1 ≤ Cx.nrm (pow wz _)
  grind
theorem U4_conj (a : Int) : Cx.Wi (Cx.sub (U4 (-a)) (Cx.conj (U4 a))) (3 * io) := by
  have hi := io_pos
  have h1 := U4_add (-a) a
  rw [show -a + a = 0 by omega, U4_zero] at h1
  have hc : Cx.Wi (Cx.conj (U4 a)) 1 := by
    obtain ⟨b1, b2, b3, b4⟩ := U4_wi a
    exact ⟨b1, b2, by simp only [Cx.conj]; grind, by simp only [Cx.conj]; grind⟩
  have h2 := h1.mul hc
  have h3 := U4_len a
  have h4 := U4_nrm a
  have h5 : Cx.Wi (⟨1 - Cx.nrm (U4 a), 0⟩ : Cx) half1 := ⟨by show 1 - Cx.nrm (U4 a) ≤ half1; grind, by show -half1 ≤ 1 - Cx.nrm (U4 a); unfold half1 at *; grind, by show (0 : Rat) ≤ half1; unfold half1; grind, by show -half1 ≤ (0 : Rat); unfold half1; grind⟩
  have h6 := (U4_wi (-a)).mul h5
  have e : Cx.sub (U4 (-a)) (Cx.conj (U4 a)) = Cx.sub (Cx.mul (U4 (-a)) ⟨1 - Cx.nrm (U4 a), 0⟩) (Cx.mul (Cx.sub Cx.one (Cx.mul (U4 (-a)) (U4 a))) (Cx.conj (U4 a))) :=
    Cx.ext' (by simp only [Cx.sub, Cx.mul, Cx.conj, Cx.one, Cx.nrm]; grind) (by simp only [Cx.sub, Cx.mul, Cx.conj, Cx.one, Cx.nrm]; grind)
  rw [e]
  refine (h6.sub h2).le ?_
  unfold half1
  grind
end Go.Proofs.YthddkcoflnbjbaaDoor
