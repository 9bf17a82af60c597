/-
  What is proved here: sums of turning numbers over a whole circle; there and back; the squares; lists moved on; mirror images: with no program in sight. there and back, the squares, lists moved on, mirror images: in floats.
-/
import Derived.Test.YthddkcoflnbjbaaDoorQLaw13
import Derived.Test.YthddkcoflnbjbaaDoorQCon20
namespace Go.Proofs.YthddkcoflnbjbaaDoor
open Sm Go Go.RowKit Fl Ieee
set_option maxRecDepth 100000
set_option linter.unusedVariables false
theorem dft_wi {way : Int} {x : Nat → Cx} {m : Nat → Rat} (hx : ∀ j, Cx.Wi (x j) (m j)) (p : Nat) (k : Int) : Cx.Wi (dft way x p k) (2 * RS m (2 ^ p)) := by
  have h := Cx.sum_wi (T := fun i => Cx.mul (x i) (U4 (way * i * k * exs p))) (D := fun i => 2 * m i) (2 ^ p) fun i _ => ((hx _).mul (U4_wi _)).le (by grind)
  rw [RS_mul] at h
  exact h
end Go.Proofs.YthddkcoflnbjbaaDoor
namespace Go.Proofs.YthddkcoflnbjbaaDoor
open Sm Go Go.RowKit Fl Ieee
set_option maxRecDepth 100000
set_option linter.unusedVariables false
def HH : Rat := 10000000000000000000000000000000000000000000000000000000000000000000000000000000000000000000000000000000000
theorem rep0 : rep FloatKind.f64.format (0 : Rat) := rep_nat (k := .f64) (c := 0) (by decide)
theorem tp_pos : (0 : Rat) < tp .f64 := by have := tp_ge .f64; grind
theorem mul_zero_w {x z : Nat} (hx : fnum .f64 x) (hz : fnum .f64 z ∧ fv .f64 z = 0) : fok .mul .f64 x z = true ∧ fnum .f64 (fbin .mul .f64 x z) ∧ fv .f64 (fbin .mul .f64 x z) = 0 := by
  have ht := tp_pos
  have e : fv .f64 x * fv .f64 z = 0 := by rw [hz.2, Rat.mul_zero]
  obtain ⟨k, r⟩ := fbin_mul hx hz.1 (by rw [e]; exact ht) (by rw [e]; grind)
  rw [e] at r
  exact ⟨k, r.num, r.exact rep0⟩
theorem quo_zero_w {z y : Nat} (hz : fnum .f64 z ∧ fv .f64 z = 0) (hy : fnum .f64 y) (h0 : fv .f64 y ≠ 0) : fok .quo .f64 z y = true ∧ fnum .f64 (fbin .quo .f64 z y) ∧ fv .f64 (fbin .quo .f64 z y) = 0 := by
  have ht := tp_pos
  have e : fv .f64 z / fv .f64 y = 0 := by rw [hz.2, Rat.div_def, Rat.zero_mul]
  obtain ⟨k, r⟩ := fbin_quo hz.1 hy h0 (by rw [e]; exact ht) (by rw [e]; grind)
  rw [e] at r
  exact ⟨k, r.num, r.exact rep0⟩
theorem nanW_num {x : Nat} (h : fnum .f64 x) : nanW x = false := by
  obtain ⟨s, m, p, hr⟩ := h
  unfold nanW FloatKind.decode
  rw [hr]
  rfl
theorem geqW_of {x y : Nat} (hx : fnum .f64 x) (hy : fnum .f64 y) (h : fv .f64 y ≤ fv .f64 x) : geqW x y = true := by
  obtain ⟨o1, o2, o3, o4⟩ := order_val hx hy
  unfold geqW
  by_cases e : fv .f64 x = fv .f64 y
  · rw [o2.2 e]; rfl
  · have : FloatKind.f64.format.order x y = some .gt := o3.2 (by
      refine Rat.not_le.1 fun hle => e ?_
      exact Rat.le_antisymm hle h)
    rw [this]; rfl
theorem i2f_n {n : Nat} (h1 : 1 ≤ n) (h2 : n ≤ 4096) : fnum .f64 (i2f n) ∧ fv .f64 (i2f n) = (n : Rat) := by
  have := i2f_ap (n := (n : Int)) (by omega) (by omega)
  rw [Rat.intCast_natCast] at this
  exact this
theorem cq_near {n : Nat} (h1 : 1 ≤ n) (h2 : n ≤ 4096) {y : Nat × Nat} {z : Cx} {d C : Rat} (hy : CAp y (Cx.smul (n : Rat) z) d) (hz : Cx.Wi z C) (hC : 5000 * (C + d) ≤ GG) :
    cqOk y.1 y.2 (i2f n) 0 ∧ CAp (bkP n y) z (d + 3 * dl (5000 * (C + d))) := by
  obtain ⟨n1, n2⟩ := i2f_n h1 h2
  have q1 : (1 : Rat) ≤ (n : Rat) := Rat.natCast_le_natCast.2 h1
  have q2 : (n : Rat) ≤ 4096 := Rat.natCast_le_natCast.2 h2
  have hv0 : fv .f64 (i2f n) ≠ 0 := by rw [n2]; exact Rat.ne_of_gt (by grind)
  have C0 := hz.pos
  have d0 := hy.re.pos
  have hz0 := zero_val
  obtain ⟨m1, m2, m3⟩ := absW_num n1
  rw [absW_eq] at m1 m2 m3
  have mz : magW 0 = 0 := by decide
  have g0 : geqW (magW (i2f n)) (magW 0) = true := by
    rw [mz]
    refine geqW_of m1 hz0.1 ?_
    rw [hz0.2]; exact m2
  obtain ⟨a1, a2, a3⟩ := quo_zero_w hz0 n1 hv0
  obtain ⟨b1, b2, b3⟩ := mul_zero_w a2 hz0
  -- the divisor
  have ad : fok .add .f64 (i2f n) (fbin .mul .f64 (cqR (i2f n) 0) 0) = true ∧ fnum .f64 (cqD (i2f n) 0) ∧ fv .f64 (cqD (i2f n) 0) = (n : Rat) := by
    have e : fv .f64 (i2f n) + fv .f64 (fbin .mul .f64 (cqR (i2f n) 0) 0) = (n : Rat) := by
      show fv .f64 (i2f n) + fv .f64 (fbin .mul .f64 (fbin .quo .f64 0 (i2f n)) 0) = _
      rw [b3, n2]; grind
    have ht := tp_ge .f64
    obtain ⟨k, r⟩ := fbin_add n1 b2 (by show fv .f64 (i2f n) + fv .f64 (fbin .mul .f64 (cqR (i2f n) 0) 0) < _; rw [e]; grind) (by show _ < fv .f64 (i2f n) + fv .f64 (fbin .mul .f64 (cqR (i2f n) 0) 0); rw [e]; grind)
    have r' : Rnd FloatKind.f64.format (cqD (i2f n) 0) (n : Rat) := by rw [← e]; exact r
    exact ⟨k, r'.num, r'.exact (rep_nat (k := .f64) (by omega))⟩
  obtain ⟨c1, c2, c3⟩ := ad
  -- bounds of n z
  have w1 := rmul_le (a := (n : Rat)) (b := z.re) (A := 4096) (B := C) (by grind) C0 q2 (by grind) hz.r1 hz.r2
  have w2 := rmul_le (a := (n : Rat)) (b := z.im) (A := 4096) (B := C) (by grind) C0 q2 (by grind) hz.i1 hz.i2
  have part : ∀ {a b : Nat} {u : Rat}, Ap a ((n : Rat) * u) d → fnum .f64 b → (n : Rat) * u ≤ 4096 * C → -(4096 * C) ≤ (n : Rat) * u → ∀ op : BinOp, (op = .add ∨ op = .sub) →
      fok .mul .f64 b (cqR (i2f n) 0) = true ∧ fok op .f64 a (fbin .mul .f64 b (cqR (i2f n) 0)) = true ∧ fok .quo .f64 (fbin op .f64 a (fbin .mul .f64 b (cqR (i2f n) 0))) (cqD (i2f n) 0) = true ∧
      Ap (fbin .quo .f64 (fbin op .f64 a (fbin .mul .f64 b (cqR (i2f n) 0))) (cqD (i2f n) 0)) u (d + 3 * dl (5000 * (C + d))) := fun {a b u} ha hb u1 u2 op hop => by
    obtain ⟨k1, k2, k3⟩ := mul_zero_w hb (z := cqR (i2f n) 0) ⟨a2, a3⟩
    have hd : dl (4500 * (C + d)) ≤ dl (5000 * (C + d)) := by unfold dl; grind
    have hd2 : dl (5000 * (C + d)) ≤ 1 / 1000000000000 * (C + d) + 1 / 1000000000000000000000000000000 := by unfold dl; grind
    have hd0 : 0 ≤ dl (5000 * (C + d)) := by unfold dl; grind
    have sum : fok op .f64 a (fbin .mul .f64 b (cqR (i2f n) 0)) = true ∧ Ap (fbin op .f64 a (fbin .mul .f64 b (cqR (i2f n) 0))) ((n : Rat) * u) (d + dl (5000 * (C + d))) := by
      have hzz : Ap (fbin .mul .f64 b (cqR (i2f n) 0)) 0 0 := .of ⟨k2, k3⟩
      rcases hop with rfl | rfl
      · obtain ⟨s1, s2⟩ := ha.add hzz (4500 * (C + d)) (by grind) (by grind) (tp_GG _ (by grind))
        exact ⟨s1, (s2.mv (v' := (n : Rat) * u) (d := 0) (by grind) (by grind)).le (by grind)⟩
      · obtain ⟨s1, s2⟩ := ha.sub hzz (4500 * (C + d)) (by grind) (by grind) (tp_GG _ (by grind))
        exact ⟨s1, (s2.mv (v' := (n : Rat) * u) (d := 0) (by grind) (by grind)).le (by grind)⟩
    obtain ⟨s1, s2⟩ := sum
    have hgg : (1 : Rat) ≤ GG := by unfold GG; decide +kernel
    obtain ⟨t1, t2⟩ := s2.quo ⟨c2, c3⟩ q1 (4500 * (C + d) + 1 / 1000000000000000000000000000000) (by grind) (by grind) (tp_GG _ (by grind))
    have e : (n : Rat) * u / (n : Rat) = u := by
      rw [Rat.div_def, Rat.mul_comm (n : Rat) u, Rat.mul_assoc, Rat.mul_inv_cancel _ (Rat.ne_of_gt (by grind)), Rat.mul_one]
    rw [e] at t2
    refine ⟨k1, s1, t1, t2.le ?_⟩
    unfold dl
    grind
  obtain ⟨p1, p2, p3, p4⟩ := part hy.re hy.im.num w1.1 w1.2 .add (.inl rfl)
  obtain ⟨r1, r2, r3, r4⟩ := part hy.im hy.re.num w2.1 w2.2 .sub (.inr rfl)
  exact ⟨⟨g0, a1, b1, c1, p1, p2, p3, r1, r2, r3, nanW_num p4.num⟩, p4, r4⟩
def vC (N : Nat) (Y : Nat → Nat × Nat) (j : Nat) : Cx := if j < N then ⟨fv .f64 (Y j).1, fv .f64 (Y j).2⟩ else Cx.zero
theorem tr_words {way : Int} (hw : way = 1 ∨ way = -1) {p : Nat} (hp : p ≤ 12) {X : Nat → Nat × Nat} {m : Nat → Rat} (hX : ∀ j, j < 2 ^ p → fnum .f64 (X j).1 ∧ fnum .f64 (X j).2) (hx : ∀ j, Cx.Wi (vC (2 ^ p) X j) (m j)) (hm : ∀ j, m j ≤ HH) :
    okTr way p X ∧ ∀ k, k < 2 ^ p → CAp (trY way p X k) (dft way (vC (2 ^ p) X) p (k : Nat)) ((2 / 10000000000 : Rat) * RS m (2 ^ p) + (1 / 10000000000 : Rat)) :=
  tr_near hw hp (fun j hj => by
    unfold vC
    rw [if_pos hj]
    exact ⟨Ap.self (hX j hj).1, Ap.self (hX j hj).2⟩) hx fun j => hm j
/-! ### the list of the laws -/
theorem smul_smul (a b : Rat) (z : Cx) (h : a * b = 1) : Cx.smul a (Cx.smul b z) = z := by
  refine Cx.ext' ?_ ?_
  · show a * (b * z.re) = z.re
    rw [← Rat.mul_assoc, h, Rat.one_mul]
  · show a * (b * z.im) = z.im
    rw [← Rat.mul_assoc, h, Rat.one_mul]
theorem smul_wi {r : Rat} (h0 : 0 ≤ r) (h1 : r ≤ 1) {z : Cx} {e : Rat} (h : Cx.Wi z e) : Cx.Wi (Cx.smul r z) e := by
  have e0 := h.pos
  have a := rmul_le (a := r) (b := z.re) (A := 1) (B := e) (by grind) e0 h1 (by grind) h.r1 h.r2
  have b := rmul_le (a := r) (b := z.im) (A := 1) (B := e) (by grind) e0 h1 (by grind) h.i1 h.i2
  exact ⟨by show r * z.re ≤ _; grind, by show _ ≤ r * z.re; grind, by show r * z.im ≤ _; grind, by show _ ≤ r * z.im; grind⟩
end Go.Proofs.YthddkcoflnbjbaaDoor
