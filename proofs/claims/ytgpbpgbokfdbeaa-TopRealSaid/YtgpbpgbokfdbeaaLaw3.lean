/-
  What is proved here: what each round of TopReal asks holds. A text to be imported.
-/
import Derived.Test.YtgpbpgbokfdbeaaLaw2
namespace Go.Proofs.Ytgpbpgbokfdbeaa
open Sm Go Go.RowKit Fl Ieee
set_option maxRecDepth 100000
set_option linter.unusedVariables false
def kv (x : Nat) : Rat := (((zof x).getD 0 : Int) : Rat) / 1208925819614629174706176
theorem kv_ap {x : Nat} (h : (zof x).isSome = true) : Ap x (kv x) 0 := by
  obtain ⟨z, hz⟩ := Option.isSome_iff_exists.1 h
  refine .of (kst hz ?_)
  unfold kv
  rw [hz, Option.getD_some, Rat.div_def, Rat.mul_assoc, Rat.inv_mul_cancel _ (by decide), Rat.mul_one]
theorem kR_ap : Ap kR (kv kR) 0 ∧ 140199 / 100000 ≤ kv kR ∧ kv kR ≤ 140201 / 100000 := ⟨kv_ap (by decide +kernel), by decide +kernel, by decide +kernel⟩
theorem kB_ap : Ap kB (kv kB) 0 ∧ 177199 / 100000 ≤ kv kB ∧ kv kB ≤ 177201 / 100000 := ⟨kv_ap (by decide +kernel), by decide +kernel, by decide +kernel⟩
theorem kG1_ap : Ap kG1 (kv kG1) 0 ∧ 34413 / 100000 ≤ kv kG1 ∧ kv kG1 ≤ 34414 / 100000 := ⟨kv_ap (by decide +kernel), by decide +kernel, by decide +kernel⟩
theorem kG2_ap : Ap kG2 (kv kG2) 0 ∧ 71413 / 100000 ≤ kv kG2 ∧ kv kG2 ≤ 71414 / 100000 := ⟨kv_ap (by decide +kernel), by decide +kernel, by decide +kernel⟩
theorem m1_num : fnum .f64 m1 ∧ 1000000999 / 1000000000 ≤ fv .f64 m1 := by
  have h := kv_ap (x := m1) (by decide +kernel)
  have h2 : 1000000999 / 1000000000 ≤ kv m1 := by decide +kernel
  exact ⟨h.num, by have := h.lo; grind⟩
theorem m4_num : fnum .f64 m4 ∧ 4 ≤ fv .f64 m4 := by
  have h := kv_ap (x := m4) (by decide +kernel)
  have h2 : 4 ≤ kv m4 := by decide +kernel
  exact ⟨h.num, by have := h.lo; grind⟩
/-- A part of a colour. -/
theorem part_ap {k C : Nat} {c κ : Rat} (hk : Ap k κ 0) (k1 : 0 ≤ κ) (k2 : κ ≤ 2) (hC : Ap C c (2 / 1000000)) (c1 : 0 ≤ c) (c2 : c ≤ 255) :
    fok .sub .f64 C k128 = true ∧ fok .mul .f64 k (fsub C k128) = true ∧ Ap (fmu k (fsub C k128)) (κ * (c - 128)) (5 / 1000000) ∧ κ * (c - 128) ≤ 256 ∧ -256 ≤ κ * (c - 128) := by
  have ht := tp_big
  obtain ⟨q1, a⟩ := hC.sub (Ap.of v128) 300 (by grind) (by grind) (by grind)
  have a' : Ap (fsub C k128) (c - 128) (21 / 10000000) := a.le (by unfold dl; grind)
  obtain ⟨q2, b⟩ := hk.mul a' (U := 2) (V := 128) (by grind) (by grind) (by grind) (by grind) 300 (by grind) (by grind)
  have p := rmul_le (a := κ) (b := c - 128) (A := 2) (B := 128) (by grind) (by grind) k2 (by grind) (by grind) (by grind)
  exact ⟨q1, q2, b.le (by unfold dl; grind), by grind, by grind⟩
theorem Wsm {n : Int} (h1 : -1000000000000 ≤ n) (h2 : n ≤ 1000000000000) : W n = n := w64 (by omega) (by omega)
theorem yS_eq {c : Int} (h1 : 0 ≤ c) (h2 : c ≤ 255) : yS c = c - 128 := by
  unfold yS
  rw [Wsm (n := c) (by omega) (by omega), Wsm (by omega) (by omega)]
theorem u8c_eq (n : Int) : u8c n = clipC n ∧ 0 ≤ clipC n ∧ clipC n ≤ 255 := by
  have h : 0 ≤ clipC n ∧ clipC n ≤ 255 := by unfold clipC; (repeat' split) <;> omega
  exact ⟨wu8 h.1 h.2, h.1, h.2⟩
theorem clip_cast (n : Int) : ((clipC n : Int) : Rat) = clR (n : Rat) := by
  unfold clipC clR
  by_cases h1 : n < 0
  · have : (n : Rat) < ((0 : Int) : Rat) := Rat.intCast_lt_intCast.2 h1
    have h1' : (n : Rat) < 0 := this
    rw [if_pos h1, if_pos h1']; rfl
  · have h1' : ¬ (n : Rat) < 0 := fun h => h1 (Rat.intCast_lt_intCast.1 (show (n : Rat) < ((0 : Int) : Rat) from h))
    rw [if_neg h1, if_neg h1']
    by_cases h2 : n > 255
    · have : ((255 : Int) : Rat) < (n : Rat) := Rat.intCast_lt_intCast.2 h2
      have h2' : 255 < (n : Rat) := this
      rw [if_pos h2, if_pos h2']; rfl
    · have h2' : ¬ 255 < (n : Rat) := fun h => h2 (Rat.intCast_lt_intCast.1 (show ((255 : Int) : Rat) < (n : Rat) from h))
      rw [if_neg h2, if_neg h2']
/-- A rounded part, as a number. -/
theorem shr_cast {n : Int} : 65536 * ((n / 65536 : Int) : Rat) ≤ (n : Rat) ∧ (n : Rat) < 65536 * ((n / 65536 : Int) : Rat) + 65536 := by
  have h1 : 65536 * (n / 65536) ≤ n := by omega
  have h2 : n < 65536 * (n / 65536) + 65536 := by omega
  have q1 := Rat.intCast_le_intCast.2 h1
  have q2 := Rat.intCast_lt_intCast.2 h2
  rw [Rat.intCast_mul] at q1
  rw [Rat.intCast_add, Rat.intCast_mul] at q2
  exact ⟨q1, q2⟩
theorem lin_cast (k c m : Int) : ((k * (c - 128) + m : Int) : Rat) = (k : Rat) * ((c : Rat) - 128) + (m : Rat) := by
  rw [Rat.intCast_add, Rat.intCast_mul, Rat.intCast_sub]; rfl
theorem red_eq {y c : Int} (y1 : 0 ≤ y) (y2 : y ≤ 255) (h1 : 0 ≤ c) (h2 : c ≤ 255) : redI y c = clipC (y + (91881 * (c - 128) + 32768) / 65536) := by
  unfold redI
  rw [yS_eq h1 h2, (u8c_eq _).1, Wsm (n := 91881 * (c - 128)) (by omega) (by omega), Wsm (n := 91881 * (c - 128) + 32768) (by omega) (by omega), Int.fdiv_eq_ediv_of_nonneg _ (by omega), Wsm (n := y) (by omega) (by omega), Wsm (by omega) (by omega)]
theorem blu_eq {y b : Int} (y1 : 0 ≤ y) (y2 : y ≤ 255) (h1 : 0 ≤ b) (h2 : b ≤ 255) : bluI y b = clipC (y + (116130 * (b - 128) + 32768) / 65536) := by
  unfold bluI
  rw [yS_eq h1 h2, (u8c_eq _).1, Wsm (n := 116130 * (b - 128)) (by omega) (by omega), Wsm (n := 116130 * (b - 128) + 32768) (by omega) (by omega), Int.fdiv_eq_ediv_of_nonneg _ (by omega), Wsm (n := y) (by omega) (by omega), Wsm (by omega) (by omega)]
theorem grn_eq {y b c : Int} (y1 : 0 ≤ y) (y2 : y ≤ 255) (b1 : 0 ≤ b) (b2 : b ≤ 255) (h1 : 0 ≤ c) (h2 : c ≤ 255) : grnI y b c = clipC (y - (22553 * (b - 128) + 46802 * (c - 128) + 32767) / 65536) := by
  unfold grnI
  rw [yS_eq h1 h2, yS_eq b1 b2, (u8c_eq _).1, Wsm (n := 22553 * (b - 128)) (by omega) (by omega), Wsm (n := 46802 * (c - 128)) (by omega) (by omega), Wsm (n := 22553 * (b - 128) + 46802 * (c - 128)) (by omega) (by omega), Wsm (n := 22553 * (b - 128) + 46802 * (c - 128) + 32767) (by omega) (by omega), Int.fdiv_eq_ediv_of_nonneg _ (by omega), Wsm (n := y) (by omega) (by omega), Wsm (by omega) (by omega)]
/-- A byte, a word and the number that both are near. -/
structure Nr (n : Int) (A : Nat) (a : Rat) : Prop where
  n0 : 0 ≤ n
  n1 : n ≤ 255
  ap : Ap A a (2 / 1000000)
  a0 : 0 ≤ a
  a1 : a ≤ 255
  hi : (n : Rat) - a ≤ 57 / 100
  lo : -(57 / 100) ≤ (n : Rat) - a
theorem Nr.rat {n : Int} {A : Nat} {a : Rat} (h : Nr n A a) : 0 ≤ (n : Rat) ∧ (n : Rat) ≤ 255 := by
  have q : ((0 : Int) : Rat) ≤ (n : Rat) := Rat.intCast_le_intCast.2 h.n0
  have p : (n : Rat) ≤ ((255 : Int) : Rat) := Rat.intCast_le_intCast.2 h.n1
  exact ⟨q, p⟩
/-- A colour of one part. -/
theorem one_ok {y c : Int} {A C k : Nat} {a cc κ K : Rat} {Ki : Int} (hy : Nr y A a) (hc : Nr c C cc) (hk : Ap k κ 0) (k0 : 0 ≤ κ) (k2 : κ ≤ 2) (hK : (Ki : Rat) = K) (d1 : K - 65536 * κ ≤ 2) (d2 : -2 ≤ K - 65536 * κ) :
    fok .mul .f64 k (fsub C k128) = true ∧ fok .add .f64 A (fmu k (fsub C k128)) = true ∧
    fok .sub .f64 (i2f (clipC (y + (Ki * (c - 128) + 32768) / 65536))) (clampW (fad A (fmu k (fsub C k128)))) = true ∧ fgt (ap (clipC (y + (Ki * (c - 128) + 32768) / 65536)) (clampW (fad A (fmu k (fsub C k128))))) m4 = false := by
  have ht := tp_big
  obtain ⟨q1, q2, b, b1, b2⟩ := part_ap hk k0 k2 hc.ap hc.a0 hc.a1
  obtain ⟨q3, e⟩ := hy.ap.add b 600 (by have := hy.a1; grind) (by have := hy.a0; grind) (by grind)
  have e' : Ap (fad A (fmu k (fsub C k128))) (a + κ * (cc - 128)) (1 / 100000) := e.le (by unfold dl; grind)
  have f := clamp_ap e'
  obtain ⟨v0, v1⟩ := clR_bd (a + κ * (cc - 128))
  obtain ⟨_, u0, u1⟩ := u8c_eq (y + (Ki * (c - 128) + 32768) / 65536)
  obtain ⟨s1, s2⟩ := shr_cast (n := Ki * (c - 128) + 32768)
  rw [lin_cast, hK, show ((32768 : Int) : Rat) = 32768 from rfl] at s1 s2
  obtain ⟨g0, g1⟩ := hc.rat
  have w1 := rmul_le (a := K - 65536 * κ) (b := (c : Rat) - 128) (A := 2) (B := 128) (by grind) (by grind) d1 d2 (by grind) (by grind)
  have w2 := rmul_le (a := κ) (b := (c : Rat) - cc) (A := 2) (B := 57 / 100) (by grind) (by grind) k2 (by grind) hc.hi hc.lo
  have h1 := hy.hi
  have h2 := hy.lo
  have hcast : ((clipC (y + (Ki * (c - 128) + 32768) / 65536) : Int) : Rat) = clR ((y : Rat) + (((Ki * (c - 128) + 32768) / 65536 : Int) : Rat)) := by rw [clip_cast, Rat.intCast_add]
  generalize (((Ki * (c - 128) + 32768) / 65536 : Int) : Rat) = q at *
  obtain ⟨n1, n2⟩ := clR_near (x := (y : Rat) + q) (y := a + κ * (cc - 128)) (d := 3) (by grind) (by grind) (by grind)
  obtain ⟨r1, r2⟩ := apart_ok u0 u1 f v0 v1 (by grind) (d := 3) (by rw [hcast]; exact n1) (by rw [hcast]; exact n2) (by grind) m4_num.1 (by have := m4_num.2; grind)
  exact ⟨q2, q3, r1, r2⟩
theorem red_ok {y c : Int} {A C : Nat} {a cc : Rat} (hy : Nr y A a) (hc : Nr c C cc) : fok .mul .f64 kR (fsub C k128) = true ∧ fok .add .f64 A (fmu kR (fsub C k128)) = true ∧ fok .sub .f64 (i2f (redI y c)) (clampW (xR A C)) = true ∧ fgt (ap (redI y c) (clampW (xR A C))) m4 = false := by
  obtain ⟨h1, h2, h3⟩ := kR_ap
  rw [red_eq hy.n0 hy.n1 hc.n0 hc.n1]
  exact one_ok hy hc h1 (by grind) (by grind) (K := 91881) rfl (by grind) (by grind)
theorem blu_ok {y c : Int} {A C : Nat} {a cc : Rat} (hy : Nr y A a) (hc : Nr c C cc) : fok .mul .f64 kB (fsub C k128) = true ∧ fok .add .f64 A (fmu kB (fsub C k128)) = true ∧ fok .sub .f64 (i2f (bluI y c)) (clampW (xB A C)) = true ∧ fgt (ap (bluI y c) (clampW (xB A C))) m4 = false := by
  obtain ⟨h1, h2, h3⟩ := kB_ap
  rw [blu_eq hy.n0 hy.n1 hc.n0 hc.n1]
  exact one_ok hy hc h1 (by grind) (by grind) (K := 116130) rfl (by grind) (by grind)
theorem grn_ok {y b c : Int} {A B C : Nat} {a bb cc : Rat} (hy : Nr y A a) (hb : Nr b B bb) (hc : Nr c C cc) :
    fok .mul .f64 kG1 (fsub B k128) = true ∧ fok .sub .f64 A (fmu kG1 (fsub B k128)) = true ∧ fok .mul .f64 kG2 (fsub C k128) = true ∧ fok .sub .f64 (fsub A (fmu kG1 (fsub B k128))) (fmu kG2 (fsub C k128)) = true ∧
    fok .sub .f64 (i2f (grnI y b c)) (clampW (xG A B C)) = true ∧ fgt (ap (grnI y b c) (clampW (xG A B C))) m4 = false := by
  have ht := tp_big
  obtain ⟨z1, z2, z3⟩ := kG1_ap
  obtain ⟨y1, y2, y3⟩ := kG2_ap
  rw [grn_eq hy.n0 hy.n1 hb.n0 hb.n1 hc.n0 hc.n1]
  obtain ⟨_, p2, pa, pb1, pb2⟩ := part_ap z1 (by grind) (by grind) hb.ap hb.a0 hb.a1
  obtain ⟨_, q2, qa, qb1, qb2⟩ := part_ap y1 (by grind) (by grind) hc.ap hc.a0 hc.a1
  generalize kv kG1 = κ at *
  generalize kv kG2 = μ at *
  obtain ⟨k3, e⟩ := hy.ap.sub pa 600 (by have := hy.a1; grind) (by have := hy.a0; grind) (by grind)
  have e' : Ap (fsub A (fmu kG1 (fsub B k128))) (a - κ * (bb - 128)) (8 / 1000000) := e.le (by unfold dl; grind)
  obtain ⟨k4, g⟩ := e'.sub qa 1000 (by have := hy.a1; grind) (by have := hy.a0; grind) (by grind)
  have g' : Ap (xG A B C) (a - κ * (bb - 128) - μ * (cc - 128)) (2 / 100000) := g.le (by unfold dl; grind)
  have f := clamp_ap g'
  obtain ⟨v0, v1⟩ := clR_bd (a - κ * (bb - 128) - μ * (cc - 128))
  obtain ⟨_, u0, u1⟩ := u8c_eq (y - (22553 * (b - 128) + 46802 * (c - 128) + 32767) / 65536)
  obtain ⟨s1, s2⟩ := shr_cast (n := 22553 * (b - 128) + 46802 * (c - 128) + 32767)
  have hl : ((22553 * (b - 128) + 46802 * (c - 128) + 32767 : Int) : Rat) = 22553 * ((b : Rat) - 128) + 46802 * ((c : Rat) - 128) + 32767 := by
    rw [Rat.intCast_add, Rat.intCast_add, Rat.intCast_mul, Rat.intCast_mul, Rat.intCast_sub, Rat.intCast_sub]; rfl
  rw [hl] at s1 s2
  obtain ⟨g0, g1⟩ := hc.rat
  obtain ⟨j0, j1⟩ := hb.rat
  have w1 := rmul_le (a := 22553 - 65536 * κ) (b := (b : Rat) - 128) (A := 2) (B := 128) (by grind) (by grind) (by grind) (by grind) (by grind) (by grind)
  have w2 := rmul_le (a := 46802 - 65536 * μ) (b := (c : Rat) - 128) (A := 2) (B := 128) (by grind) (by grind) (by grind) (by grind) (by grind) (by grind)
  have w3 := rmul_le (a := κ) (b := (b : Rat) - bb) (A := 1) (B := 57 / 100) (by grind) (by grind) (by grind) (by grind) hb.hi hb.lo
  have w4 := rmul_le (a := μ) (b := (c : Rat) - cc) (A := 1) (B := 57 / 100) (by grind) (by grind) (by grind) (by grind) hc.hi hc.lo
  have h1 := hy.hi
  have h2 := hy.lo
  have hcast : ((clipC (y - (22553 * (b - 128) + 46802 * (c - 128) + 32767) / 65536) : Int) : Rat) = clR ((y : Rat) - (((22553 * (b - 128) + 46802 * (c - 128) + 32767) / 65536 : Int) : Rat)) := by rw [clip_cast, Rat.intCast_sub]
  generalize (((22553 * (b - 128) + 46802 * (c - 128) + 32767) / 65536 : Int) : Rat) = q at *
  obtain ⟨n1, n2⟩ := clR_near (x := (y : Rat) - q) (y := a - κ * (bb - 128) - μ * (cc - 128)) (d := 3) (by grind) (by grind) (by grind)
  obtain ⟨r1, r2⟩ := apart_ok u0 u1 f v0 v1 (by grind) (d := 3) (by rw [hcast]; exact n1) (by rw [hcast]; exact n2) (by grind) m4_num.1 (by have := m4_num.2; grind)
  exact ⟨p2, k3, q2, k4, r1, r2⟩
/-- A sample near the real one. -/
theorem nr_ok {f : Nat → Int} (hf : ∀ i, i < 64 → -2048 ≤ lsI f i ∧ lsI f i ≤ 2048) {i : Nat} (hi : i < 64) : Nr (pxv f i) (SA f i) (clR (RSm (lsI f) (i / 8) (i % 8))) := by
  obtain ⟨a, b, c, d⟩ := samp_near hf hi
  obtain ⟨v0, v1⟩ := clR_bd (RSm (lsI f) (i / 8) (i % 8))
  exact ⟨a, b, (SA_ap hf hi).2, v0, v1, c, d⟩
theorem nr_one {n : Int} {A : Nat} {a : Rat} (h : Nr n A a) : fok .sub .f64 (i2f n) A = true ∧ fgt (ap n A) m1 = false :=
  apart_ok h.n0 h.n1 h.ap h.a0 h.a1 (by grind) (d := 57 / 100) h.hi h.lo (by grind) m1_num.1 (by have := m1_num.2; grind)
theorem Nr.sub {n : Int} {A : Nat} {a : Rat} (h : Nr n A a) : fok .sub .f64 A k128 = true := (part_ap kR_ap.1 (by have := kR_ap.2; grind) (by have := kR_ap.2; grind) h.ap h.a0 h.a1).1
theorem round_ok {f g h : Nat → Int} (hf : ∀ i, i < 64 → -2048 ≤ lsI f i ∧ lsI f i ≤ 2048) (hg : ∀ i, i < 64 → -2048 ≤ lsI g i ∧ lsI g i ≤ 2048) (hh : ∀ i, i < 64 → -2048 ≤ lsI h i ∧ lsI h i ≤ 2048) {i : Nat} (hi : i < 64) :
    okRd f g h (pxv f) (pxv g) (pxv h) i := by
  have nf := nr_ok hf hi
  have ng := nr_ok hg hi
  have nh := nr_ok hh hi
  obtain ⟨r1, r2, r3, r4⟩ := red_ok nf nh
  obtain ⟨b1, b2, b3, b4⟩ := blu_ok nf ng
  obtain ⟨g1, g2, g3, g4, g5, g6⟩ := grn_ok nf ng nh
  exact ⟨real_ok hf (by omega) (by omega), real_ok hg (by omega) (by omega), real_ok hh (by omega) (by omega), (SA_ap hf hi).1, (SA_ap hg hi).1, (SA_ap hh hi).1, nr_one nf, nr_one ng, nr_one nh,
    ⟨nh.sub, r1, r2, ng.sub, g1, g2, nh.sub, g3, g4, ng.sub, b1, b2, trivial⟩, ⟨r3, r4⟩, ⟨g5, g6⟩, ⟨b3, b4⟩⟩
end Go.Proofs.Ytgpbpgbokfdbeaa
