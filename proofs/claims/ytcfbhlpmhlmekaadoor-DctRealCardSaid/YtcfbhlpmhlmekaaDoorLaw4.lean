/-
  What is proved here: each sample of DctNear is within 1 of the real one, with a word for each operation on the way. A text to be imported.
-/
import Derived.Test.YtcfbhlpmhlmekaaDoorLaw3
namespace Go.Proofs.YtcfbhlpmhlmekaaDoor
open Sm Go Go.RowKit Fl Ieee
set_option maxRecDepth 100000
set_option linter.unusedVariables false
def fgt (x y : Nat) : Bool := FloatKind.f64.format.order x y == some .gt
def c4 : Nat := 4616189618054758400
def c128 : Nat := 4638707616191610880
def c255 : Nat := 4643176031446892544
def c1 : Nat := 4607182418800017408
theorem v4 : fnum .f64 c4 ∧ fv .f64 c4 = 4 := kst (z := 4835703278458516698824704) (by decide +kernel) (by rw [show ((4835703278458516698824704 : Int) : Rat) = 4835703278458516698824704 from rfl]; grind)
theorem v128 : fnum .f64 c128 ∧ fv .f64 c128 = 128 := kst (z := 154742504910672534362390528) (by decide +kernel) (by rw [show ((154742504910672534362390528 : Int) : Rat) = 154742504910672534362390528 from rfl]; grind)
theorem v255 : fnum .f64 c255 ∧ fv .f64 c255 = 255 := kst (z := 308276084001730439550074880) (by decide +kernel) (by rw [show ((308276084001730439550074880 : Int) : Rat) = 308276084001730439550074880 from rfl]; grind)
theorem v1 : fnum .f64 c1 ∧ fv .f64 c1 = 1 := kst (z := 1208925819614629174706176) (by decide +kernel) (by rw [show ((1208925819614629174706176 : Int) : Rat) = 1208925819614629174706176 from rfl]; grind)
def plusN (s : Nat) : Nat := fbin .add .f64 (fbin .quo .f64 s c4) c128
def clampN (s : Nat) : Nat := fmin .f64 (fmax .f64 (plusN s) 0) c255
/-- The whole number's sample. -/
theorem samp_cases (s : Int) (h1 : -1000000000000000000 ≤ s) (h2 : s ≤ 1000000000000000000) : ∃ R : Int, R * 1099511627776 ≤ s + 549755813888 ∧ s + 549755813888 < (R + 1) * 1099511627776 ∧ ((sampS s = 0 ∧ R + 128 ≤ 0) ∨ (sampS s = 255 ∧ 255 ≤ R + 128) ∨ (sampS s = R + 128 ∧ 0 ≤ R + 128 ∧ R + 128 ≤ 255)) := by
  refine ⟨roundS s, ?_⟩
  have hR : roundS s = (s + 549755813888) / 1099511627776 := by
    unfold roundS
    rw [Int.fdiv_eq_ediv_of_nonneg _ (by omega)]
  have hw : W (roundS s + 128) = roundS s + 128 := w64 (by omega) (by omega)
  have hs : sampS s = clipI (roundS s + 128) 0 255 := by
    unfold sampS
    rw [hw]
    exact wu8 (by unfold clipI mn mx; (repeat' split) <;> omega) (by unfold clipI mn mx; (repeat' split) <;> omega)
  rw [hs]
  refine ⟨by omega, by omega, ?_⟩
  unfold clipI mn mx
  (repeat' split) <;> omega
theorem away_le {x : Nat} (hn : fnum .f64 x) (h1 : fv .f64 x ≤ 1) (h2 : -1 ≤ fv .f64 x) : fgt (awayF x) c1 = false := by
  have key : ∀ z, fnum .f64 z → fv .f64 z ≤ 1 → fgt z c1 = false := fun z hz hl => by
    cases h : fgt z c1 with
    | false => rfl
    | true =>
      have := (gt_iff hz v1.1).1 h
      rw [v1.2] at this
      grind
  unfold awayF
  cases hl : flt x 0 with
  | true =>
    obtain ⟨n1, n2⟩ := neg_val hn
    exact key _ n1 (by show fv .f64 (Op.negFloat .f64 x) ≤ 1; rw [n2]; grind)
  | false => exact key _ hn h1
theorem near_ok {f : Nat → Int} (hf : ∀ i, i < 64 → -2048 ≤ f i ∧ f i ≤ 2048) {y x : Nat} (hy : y < 8) (hx : x < 8) {a : Int} (ha : a = sampS (invS f y x)) :
    fok .quo .f64 (s3N f (y : Nat) (x : Nat) 8) c4 = true ∧ fok .add .f64 (fbin .quo .f64 (s3N f (y : Nat) (x : Nat) 8) c4) c128 = true ∧ ford .f64 (plusN (s3N f (y : Nat) (x : Nat) 8)) 0 = true ∧ ford .f64 (fmax .f64 (plusN (s3N f (y : Nat) (x : Nat) 8)) 0) c255 = true ∧
    fok .sub .f64 (i2f a) (clampN (s3N f (y : Nat) (x : Nat) 8)) = true ∧ fgt (awayF (fbin .sub .f64 (i2f a) (clampN (s3N f (y : Nat) (x : Nat) 8)))) c1 = false := by
  have ht := tp_big
  have hs3 := s3_eq f y x 8
  rw [show 8 * 8 = 64 from rfl] at hs3
  rw [hs3]
  have hS := (sum_ap hf hy hx).2
  obtain ⟨i1, i2⟩ := inv_near hf hy hx
  have hR := RS_abs (T := TT f y x) (D := fun _ => 2048) (n := 64) fun i hi => (term_ap hf hy hx hi).2.2.2
  rw [RS_const, show ((64 : Nat) : Rat) = 64 from rfl] at hR
  generalize fsum (tF f y x) 0 64 = s at *
  generalize RS (TT f y x) 64 = Z at *
  obtain ⟨R, r1, r2, r3⟩ := samp_cases (invS f y x) (invS_bound f y x).1 (invS_bound f y x).2
  rw [← ha] at r3
  have r1' : (R : Rat) * 1099511627776 ≤ (invS f y x : Rat) + 549755813888 := by
    have := Rat.intCast_le_intCast.2 r1
    rw [Rat.intCast_mul, Rat.intCast_add] at this
    exact this
  have r2' : (invS f y x : Rat) + 549755813888 < ((R : Rat) + 1) * 1099511627776 := by
    have := Rat.intCast_lt_intCast.2 r2
    rw [Rat.intCast_mul, Rat.intCast_add, Rat.intCast_add] at this
    exact this
  generalize (invS f y x : Rat) = I at *
  obtain ⟨k1, q1⟩ := hS.quo v4 (by grind) 131073 (by grind) (by grind) (by grind)
  have hd1 : dl 131073 ≤ 1 / 1000000 := by unfold dl; grind
  obtain ⟨k2, q2⟩ := q1.add (Ap.of v128) 40000 (by grind) (by grind) (by grind)
  have hd2 : dl 40000 ≤ 1 / 1000000 := by unfold dl; grind
  have hd3 : dl 256 ≤ 1 / 1000000 := by unfold dl; grind
  have p1 := q2.hi
  have p2 := q2.lo
  have np := q2.num
  obtain ⟨nm, hm⟩ := fmax_val np zero_val.1
  obtain ⟨nc, hc⟩ := fmin_val nm v255.1
  rw [zero_val.2] at hm
  rw [v255.2] at hc
  have hcl : clampN s = fmin .f64 (fmax .f64 (fbin .add .f64 (fbin .quo .f64 s c4) c128) 0) c255 := rfl
  have hpl : plusN s = fbin .add .f64 (fbin .quo .f64 s c4) c128 := rfl
  rw [hcl, hpl]
  generalize fbin .add .f64 (fbin .quo .f64 s c4) c128 = p at *
  generalize fmax .f64 p 0 = m at *
  generalize fmin .f64 m c255 = c at *
  have ha0 : 0 ≤ a ∧ a ≤ 255 := by omega
  obtain ⟨na, va⟩ := i2f_ap (n := a) (by omega) (by omega)
  have ca : (0 : Rat) ≤ (a : Rat) ∧ (a : Rat) ≤ 255 := by
    have h1 : ((0 : Int) : Rat) ≤ (a : Rat) := Rat.intCast_le_intCast.2 ha0.1
    have h2 : (a : Rat) ≤ ((255 : Int) : Rat) := Rat.intCast_le_intCast.2 ha0.2
    exact ⟨h1, h2⟩
  have cr : ((a : Rat) = 0 ∧ (R : Rat) + 128 ≤ 0) ∨ ((a : Rat) = 255 ∧ 255 ≤ (R : Rat) + 128) ∨ (a : Rat) = (R : Rat) + 128 := by
    rcases r3 with ⟨e1, e2⟩ | ⟨e1, e2⟩ | ⟨e1, _⟩
    · left
      have h2 := Rat.intCast_le_intCast.2 e2
      rw [Rat.intCast_add] at h2
      exact ⟨by rw [e1]; rfl, h2⟩
    · right; left
      have h2 := Rat.intCast_le_intCast.2 e2
      rw [Rat.intCast_add] at h2
      exact ⟨by rw [e1]; rfl, h2⟩
    · right; right
      rw [e1, Rat.intCast_add]
      rfl
  have hS4 : Z / 4 * 4 = Z := Rat.div_mul_cancel (by grind)
  have b0 : 0 ≤ fv .f64 c ∧ fv .f64 c ≤ 255 := by
    rcases hm with ⟨m1, m2⟩ | ⟨m1, m2⟩ <;> rcases hc with ⟨c1, c2⟩ | ⟨c1, c2⟩ <;> constructor <;> grind
  have key : (a : Rat) - fv .f64 c ≤ 6 / 10 ∧ -(6 / 10) ≤ (a : Rat) - fv .f64 c := by
    rcases hm with ⟨m1, m2⟩ | ⟨m1, m2⟩ <;> rcases hc with ⟨c1, c2⟩ | ⟨c1, c2⟩ <;> rcases cr with ⟨e1, e2⟩ | ⟨e1, e2⟩ | e1 <;> constructor <;> grind
  obtain ⟨k3, q3⟩ := (Ap.of ⟨na, va⟩).sub (Ap.self nc) 256 (by grind) (by grind) (by grind)
  have o1 := q3.hi
  have o2 := q3.lo
  exact ⟨k1, k2, ford_ok np zero_val.1, ford_ok nm v255.1, k3, away_le q3.num (by grind) (by grind)⟩
end Go.Proofs.YtcfbhlpmhlmekaaDoor
