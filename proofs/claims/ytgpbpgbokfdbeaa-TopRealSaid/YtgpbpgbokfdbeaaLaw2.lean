/-
  What is proved here: the samples of TopReal are near the real ones. A text to be imported.
-/
import Derived.Test.YtgpbpgbokfdbeaaLaw1
namespace Go.Proofs.Ytgpbpgbokfdbeaa
open Sm Go Go.RowKit Fl Ieee
set_option maxRecDepth 100000
set_option linter.unusedVariables false
theorem S_cast (g : Nat → Int) : ∀ n, ((S n g : Int) : Rat) = RS (fun i => (g i : Rat)) n
  | 0 => rfl
  | n + 1 => by rw [S, RS, Rat.intCast_add, S_cast g n]
def WT (f : Nat → Int) (y x j : Nat) : Int := wF (8 * (j / 8) + y) * wF (8 * (j % 8) + x) * f j
theorem inv_cast {f : Nat → Int} (hf : ∀ i, i < 64 → -2048 ≤ f i ∧ f i ≤ 2048) {y x : Nat} : ((invS f y x : Int) : Rat) = RS (fun j => (WT f y x j : Rat)) 64 := by
  have e := RS_nest (fun j => (WT f y x j : Rat)) 8 8
  rw [show (64 : Nat) = 8 * 8 from rfl, ← e]
  unfold invS dbl
  rw [S_cast]
  refine RS_congr 8 fun i hi => ?_
  rw [S_cast]
  refine RS_congr 8 fun j hj => ?_
  have := hf (8 * i + j) (by omega)
  have hc : clipI (f (8 * i + j)) (-32767) 32767 = f (8 * i + j) := by
    unfold clipI mn mx
    rw [if_neg (by omega), if_neg (by omega)]
  show ((wF (8 * i + y) * wF (8 * j + x) * clipI (f (8 * i + j)) (-32767) 32767 : Int) : Rat) = _
  unfold WT
  rw [hc, show (8 * i + j) / 8 = i from by omega, show (8 * i + j) % 8 = j from by omega]
theorem w_term {f : Nat → Int} (hf : ∀ i, i < 64 → -2048 ≤ f i ∧ f i ≤ 2048) {y x j : Nat} (hy : y < 8) (hx : x < 8) (hj : j < 64) :
    (WT f y x j : Rat) - 274877906944 * TT f y x j ≤ 1105920000 ∧ -1105920000 ≤ (WT f y x j : Rat) - 274877906944 * TT f y x j := by
  obtain ⟨c1, c2, a1, a2⟩ := D_all (j / 8) (by omega) y hy
  obtain ⟨d1, d2, b1, b2⟩ := D_all (j % 8) (by omega) x hx
  obtain ⟨f1, f2⟩ := hf j hj
  have g1 : (f j : Rat) ≤ 2048 := by
    have : (f j : Rat) ≤ ((2048 : Int) : Rat) := Rat.intCast_le_intCast.2 f2
    exact this
  have g2 : -2048 ≤ (f j : Rat) := by
    have : ((-2048 : Int) : Rat) ≤ (f j : Rat) := Rat.intCast_le_intCast.2 f1
    exact this
  unfold WT TT
  rw [Rat.intCast_mul, Rat.intCast_mul]
  generalize (wF (8 * (j / 8) + y) : Rat) = w at *
  generalize (wF (8 * (j % 8) + x) : Rat) = w' at *
  generalize D (j / 8) y = c at *
  generalize D (j % 8) x = c' at *
  generalize (f j : Rat) = g at *
  have p1 := rmul_le (a := w) (b := w' - 524288 * c') (A := 524289) (B := 51 / 100) (by grind) (by grind) (by grind) (by grind) (by grind) (by grind)
  have p2 := rmul_le (a := 524288 * c') (b := w - 524288 * c) (A := 524288) (B := 51 / 100) (by grind) (by grind) (by grind) (by grind) (by grind) (by grind)
  have e : w * w' - 274877906944 * (c' * c) = w * (w' - 524288 * c') + 524288 * c' * (w - 524288 * c) := by grind
  have p3 := rmul_le (a := w * w' - 274877906944 * (c' * c)) (b := g) (A := 540000) (B := 2048) (by grind) (by grind) (by grind) (by grind) g1 g2
  have e2 : w * w' * g - 274877906944 * (c' * c * g) = (w * w' - 274877906944 * (c' * c)) * g := by grind
  constructor <;> grind
theorem inv_near {f : Nat → Int} (hf : ∀ i, i < 64 → -2048 ≤ f i ∧ f i ≤ 2048) {y x : Nat} (hy : y < 8) (hx : x < 8) :
    (invS f y x : Rat) - 274877906944 * RS (TT f y x) 64 ≤ 70778880000 ∧ -70778880000 ≤ (invS f y x : Rat) - 274877906944 * RS (TT f y x) 64 := by
  rw [inv_cast hf, ← RS_mul, ← RS_sub]
  have h := RS_abs (T := fun i => (WT f y x i : Rat) - 274877906944 * TT f y x i) (D := fun _ => 1105920000) (n := 64) fun i hi => w_term hf hy hx hi
  rw [RS_const] at h
  have h64 : ((64 : Nat) : Rat) = 64 := rfl
  rw [h64] at h
  constructor <;> grind
/-- The whole number's sample. -/
theorem samp_cases (s : Int) (h1 : -1000000000000000000 ≤ s) (h2 : s ≤ 1000000000000000000) : ∃ R : Int, R * 1099511627776 ≤ s + 549755813888 ∧ s + 549755813888 < (R + 1) * 1099511627776 ∧ ((sampS s = 0 ∧ R + 128 ≤ 0) ∨ (sampS s = 255 ∧ 255 ≤ R + 128) ∨ (sampS s = R + 128 ∧ 0 ≤ R + 128 ∧ R + 128 ≤ 255)) := by
  refine ⟨roundS s, ?_⟩
  have hR : roundS s = (s + 549755813888) / 1099511627776 := by
    unfold roundS
    rw [Int.fdiv_eq_ediv_of_nonneg _ (by omega)]
  have hw : W (roundS s + 128) = roundS s + 128 := w64 (by omega) (by omega)
  have hs : sampS s = clipI (roundS s + 128) 0 255 := by
    unfold sampS
    rw [hw]
    exact wu8 (by unfold clipI mn mx; (repeat' split) <;> omega) (by unfold clipI mn mx; (repeat' split) <;> omega)
  rw [hs]
  refine ⟨by omega, by omega, ?_⟩
  unfold clipI mn mx
  (repeat' split) <;> omega
theorem v128 : fnum .f64 k128 ∧ fv .f64 k128 = 128 := kst (z := 154742504910672534362390528) (by decide +kernel) (by rw [show ((154742504910672534362390528 : Int) : Rat) = 154742504910672534362390528 from rfl]; grind)
theorem v255 : fnum .f64 c255 ∧ fv .f64 c255 = 255 := kst (z := 308276084001730439550074880) (by decide +kernel) (by rw [show ((308276084001730439550074880 : Int) : Rat) = 308276084001730439550074880 from rfl]; grind)
/-- A number, clamped. -/
def clR (x : Rat) : Rat := if x < 0 then 0 else if 255 < x then 255 else x
theorem clR_bd (x : Rat) : 0 ≤ clR x ∧ clR x ≤ 255 := by unfold clR; (repeat' split) <;> (constructor <;> grind)
theorem clR_near {x y d : Rat} (h0 : 0 ≤ d) (h1 : x - y ≤ d) (h2 : -d ≤ x - y) : clR x - clR y ≤ d ∧ -d ≤ clR x - clR y := by unfold clR; (repeat' split) <;> (constructor <;> grind)
theorem flt_iff {x y : Nat} (hx : fnum .f64 x) (hy : fnum .f64 y) : flt x y = true ↔ fv .f64 x < fv .f64 y := by
  obtain ⟨h1, h2, h3, h4⟩ := order_val hx hy
  constructor
  · intro h; exact h1.1 (beq_iff_eq.1 h)
  · intro h; exact beq_iff_eq.2 (h1.2 h)
theorem fgt_iff {x y : Nat} (hx : fnum .f64 x) (hy : fnum .f64 y) : fgt x y = true ↔ fv .f64 y < fv .f64 x := gt_iff hx hy
theorem clamp_val {x : Nat} (hx : fnum .f64 x) : fnum .f64 (clampW x) ∧ fv .f64 (clampW x) = clR (fv .f64 x) := by
  have hz := zero_val
  have h5 := v255
  unfold clampW clR
  cases h1 : flt x 0 with
  | true =>
    have := (flt_iff hx hz.1).1 h1
    rw [hz.2] at this
    rw [if_pos this]
    exact hz
  | false =>
    have n1 : ¬ fv .f64 x < 0 := fun h => by
      have := (flt_iff hx hz.1).2 (by rw [hz.2]; exact h)
      rw [h1] at this; cases this
    rw [if_neg n1]
    cases h2 : fgt x c255 with
    | true =>
      have := (fgt_iff hx h5.1).1 h2
      rw [h5.2] at this
      rw [if_pos this]
      exact h5
    | false =>
      have n2 : ¬ 255 < fv .f64 x := fun h => by
        have := (fgt_iff hx h5.1).2 (by rw [h5.2]; exact h)
        rw [h2] at this; cases this
      rw [if_neg n2]
      exact ⟨hx, rfl⟩
theorem clamp_ap {x : Nat} {v e : Rat} (h : Ap x v e) : Ap (clampW x) (clR v) e := by
  obtain ⟨n, hv⟩ := clamp_val h.num
  have h1 := h.hi
  have h2 := h.lo
  obtain ⟨k1, k2⟩ := clR_near (x := fv .f64 x) (y := v) h.pos (by grind) (by grind)
  exact ⟨n, by rw [hv]; grind, by rw [hv]; grind⟩
/-- A byte near a float. -/
theorem apart_ok {n : Int} {x m : Nat} {v e d : Rat} (hn1 : 0 ≤ n) (hn2 : n ≤ 255) (hx : Ap x v e) (hv1 : 0 ≤ v) (hv2 : v ≤ 255) (he : e ≤ 1) (h1 : (n : Rat) - v ≤ d) (h2 : -d ≤ (n : Rat) - v) (hd : d ≤ 300) (hm : fnum .f64 m) (hb : d + e + 1 / 1000000000 ≤ fv .f64 m) :
    fok .sub .f64 (i2f n) x = true ∧ fgt (ap n x) m = false := by
  have ht := tp_big
  have hi := Ap.of (i2f_ap (n := n) (by omega) (by omega))
  have e0 := hx.pos
  obtain ⟨k, a⟩ := hi.sub hx 302 (by grind) (by grind) (by grind)
  refine ⟨k, ?_⟩
  have a1 := a.hi
  have a2 := a.lo
  have key : ∀ z, fnum .f64 z → fv .f64 z ≤ d + e + 1 / 1000000000 → fgt z m = false := fun z hz hl => by
    cases h : fgt z m with
    | false => rfl
    | true =>
      have := (fgt_iff hz hm).1 h
      grind
  have hd2 : dl 302 ≤ 1 / 1000000000 := by unfold dl; grind
  unfold ap awayF
  cases hl : flt (fsub (i2f n) x) 0 with
  | true =>
    obtain ⟨n1, n2⟩ := neg_val a.num
    exact key _ n1 (by show fv .f64 (Op.negFloat .f64 (fbin .sub .f64 (i2f n) x)) ≤ _; rw [n2]; grind)
  | false => exact key _ a.num (by show fv .f64 (fbin .sub .f64 (i2f n) x) ≤ _; grind)
/-- A real sample. -/
def RSm (f : Nat → Int) (r c : Nat) : Rat := RS (TT f r c) 64 / 4 + 128
theorem SA_ap {f : Nat → Int} (hf : ∀ i, i < 64 → -2048 ≤ lsI f i ∧ lsI f i ≤ 2048) {i : Nat} (hi : i < 64) :
    fok .add .f64 (sumR (lsI f) (i / 8) (i % 8) 64) k128 = true ∧ Ap (SA f i) (clR (RSm (lsI f) (i / 8) (i % 8))) (2 / 1000000) := by
  have ht := tp_big
  obtain ⟨e1, e2, _⟩ := rc_eq i hi
  have a := (sum_ap hf (r := i / 8) (c := i % 8) (by omega) (by omega)).2
  have hR := RS_abs (T := TT (lsI f) (i / 8) (i % 8)) (D := fun _ => 2048) (n := 64) fun j hj => (term_ap hf (r := i / 8) (c := i % 8) (by omega) (by omega) hj).2.2
  rw [RS_const, show ((64 : Nat) : Rat) = 64 from rfl] at hR
  obtain ⟨k, b⟩ := a.add (Ap.of v128) 40000 (by grind) (by grind) (by grind)
  refine ⟨k, ?_⟩
  unfold SA sum0
  rw [e1, e2]
  exact clamp_ap (b.le (by unfold dl; grind))
/-- The whole number's sample is near the real one. -/
theorem samp_near {f : Nat → Int} (hf : ∀ i, i < 64 → -2048 ≤ lsI f i ∧ lsI f i ≤ 2048) {i : Nat} (hi : i < 64) :
    0 ≤ pxv f i ∧ pxv f i ≤ 255 ∧ (pxv f i : Rat) - clR (RSm (lsI f) (i / 8) (i % 8)) ≤ 57 / 100 ∧ -(57 / 100) ≤ (pxv f i : Rat) - clR (RSm (lsI f) (i / 8) (i % 8)) := by
  obtain ⟨i1, i2⟩ := inv_near hf (y := i / 8) (x := i % 8) (by omega) (by omega)
  obtain ⟨R, r1, r2, r3⟩ := samp_cases (invS (lsI f) (i / 8) (i % 8)) (invS_bound _ _ _).1 (invS_bound _ _ _).2
  have hp : pxv f i = sampS (invS (lsI f) (i / 8) (i % 8)) := prog_inv (lsI f) i
  rw [← hp] at r3
  have r1' : (R : Rat) * 1099511627776 ≤ (invS (lsI f) (i / 8) (i % 8) : Rat) + 549755813888 := by
    have := Rat.intCast_le_intCast.2 r1
    rw [Rat.intCast_mul, Rat.intCast_add] at this
    exact this
  have r2' : (invS (lsI f) (i / 8) (i % 8) : Rat) + 549755813888 < ((R : Rat) + 1) * 1099511627776 := by
    have := Rat.intCast_lt_intCast.2 r2
    rw [Rat.intCast_mul, Rat.intCast_add, Rat.intCast_add] at this
    exact this
  unfold RSm
  generalize (invS (lsI f) (i / 8) (i % 8) : Rat) = I at *
  generalize RS (TT (lsI f) (i / 8) (i % 8)) 64 = Z at *
  refine ⟨by omega, by omega, ?_⟩
  have hc : (pxv f i : Rat) = clR ((R : Rat) + 128) := by
    unfold clR
    rcases r3 with ⟨h1, h2⟩ | ⟨h1, h2⟩ | ⟨h1, h2, h3⟩
    · have q : ((R + 128 : Int) : Rat) ≤ ((0 : Int) : Rat) := Rat.intCast_le_intCast.2 h2
      rw [Rat.intCast_add] at q
      have q' : (R : Rat) + 128 ≤ 0 := q
      rw [h1]
      show (0 : Rat) = _
      split
      · rfl
      · split <;> grind
    · have q : ((255 : Int) : Rat) ≤ ((R + 128 : Int) : Rat) := Rat.intCast_le_intCast.2 h2
      rw [Rat.intCast_add] at q
      have q' : 255 ≤ (R : Rat) + 128 := q
      rw [h1]
      show (255 : Rat) = _
      split
      · grind
      · split <;> grind
    · have q : ((0 : Int) : Rat) ≤ ((R + 128 : Int) : Rat) := Rat.intCast_le_intCast.2 h2
      have p : ((R + 128 : Int) : Rat) ≤ ((255 : Int) : Rat) := Rat.intCast_le_intCast.2 h3
      rw [Rat.intCast_add] at q p
      have q' : 0 ≤ (R : Rat) + 128 := q
      have p' : (R : Rat) + 128 ≤ 255 := p
      rw [h1, Rat.intCast_add]
      show (R : Rat) + 128 = _
      rw [if_neg (by grind), if_neg (by grind)]
  rw [hc]
  exact clR_near (by grind) (by grind) (by grind)
end Go.Proofs.Ytgpbpgbokfdbeaa
