/-
  What is proved here: plain facts on the tables of a quality: they go down as the quality goes up, and up as the waves get finer. A text to be imported.
-/
import Derived.Test.YteikdpagoojdlaaCon12
import Derived.Test.YteikdpagoojdlaaLaw0
import Derived.Test.YteikdpagoojdlaaSimFm
namespace Go.Proofs.Yteikdpagoojdlaa
open Sm Go Go.RowKit Fl Ieee
theorem ltQ_iff {q : Nat} (h : inQ q = true) : ltQ q = true ↔ fv .f64 q < 50 := by
  obtain ⟨q1, _, _⟩ := inQ_val h
  unfold ltQ od
  rw [lt_iff q1 v50.1, v50.2]
  have : ((50 : Nat) : Rat) = 50 := by simp
  rw [this]
theorem tp1 : (1000000 : Rat) < tp .f64 := by have := tp0; grind
theorem q2_rnd {q : Nat} (h : inQ q = true) : RnM .f64 (q2 q) (2 * fv .f64 q) ∧ Rnd FloatKind.f64.format (q2 q) (2 * fv .f64 q) := by
  obtain ⟨q1, q2', q3⟩ := inQ_val h
  have e2 : fv .f64 c2 = 2 := by rw [v2.2]; simp
  have ht := tp1
  obtain ⟨_, r1⟩ := fbin_mul (k := .f64) v2.1 q1 (by rw [e2]; grind) (by rw [e2]; grind)
  have m := mulM (k := .f64) v2.1 q1
  rw [e2] at m r1
  exact ⟨m, r1⟩
theorem dn_rnd {q : Nat} (h : inQ q = true) : RnM .f64 (dn q) (200 - fv .f64 (q2 q)) ∧ Rnd FloatKind.f64.format (dn q) (200 - fv .f64 (q2 q)) ∧ fv .f64 (q2 q) ≤ 200 := by
  obtain ⟨q1, q2', q3⟩ := inQ_val h
  obtain ⟨_, r1⟩ := q2_rnd h
  have b1 := rnd_nat r1 (a := 0) (b := 200) (by omega) (by omega) (by simp; grind) (by simp; grind)
  have b1a : 0 ≤ fv .f64 (q2 q) := by have := b1.1; simpa using this
  have b1b : fv .f64 (q2 q) ≤ 200 := by have := b1.2; simpa using this
  have e200 : fv .f64 c200 = 200 := by rw [v200.2]; simp
  have ht := tp1
  obtain ⟨_, r2⟩ := fbin_sub (k := .f64) v200.1 r1.num (by rw [e200]; show 200 - fv .f64 (q2 q) < _; grind) (by rw [e200]; show _ < 200 - fv .f64 (q2 q); grind)
  have m := subM (k := .f64) v200.1 r1.num
  rw [e200] at m r2
  exact ⟨m, r2, b1b⟩
theorem up_rnd {q : Nat} (h : inQ q = true) : RnM .f64 (up q) (5000 / fv .f64 q) ∧ Rnd FloatKind.f64.format (up q) (5000 / fv .f64 q) ∧ 0 ≤ 5000 / fv .f64 q ∧ 5000 / fv .f64 q ≤ 5000 := by
  obtain ⟨q1, q2', q3⟩ := inQ_val h
  have e5000 : fv .f64 c5000 = 5000 := by rw [v5000.2]; simp
  have ht := tp1
  have hq0 : (0 : Rat) < fv .f64 q := by grind
  have hd1 : (0 : Rat) ≤ 5000 / fv .f64 q := by
    refine Rat.le_of_mul_le_mul_right (c := fv .f64 q) ?_ hq0
    rw [Rat.div_mul_cancel (Rat.ne_of_gt hq0)]
    grind
  have hd2 : 5000 / fv .f64 q ≤ 5000 := by
    refine Rat.le_of_mul_le_mul_right (c := fv .f64 q) ?_ hq0
    rw [Rat.div_mul_cancel (Rat.ne_of_gt hq0)]
    grind
  obtain ⟨_, r3⟩ := fbin_quo (k := .f64) v5000.1 q1 (Rat.ne_of_gt hq0) (by rw [e5000]; grind) (by rw [e5000]; grind)
  have m := quoM (k := .f64) v5000.1 q1 (by rw [e5000]; grind) hq0
  rw [e5000] at m r3
  exact ⟨m, r3, hd1, hd2⟩
/-- A better quality: a smaller scale. -/
theorem scale_mono {a b : Nat} (ha : inQ a = true) (hb : inQ b = true) (hab : fv .f64 a ≤ fv .f64 b) : fv .f64 (scQ b) ≤ fv .f64 (scQ a) := by
  obtain ⟨a1, a2, a3⟩ := inQ_val ha
  obtain ⟨b1, b2, b3⟩ := inQ_val hb
  have ht := tp1
  have la := ltQ_iff ha
  have lb := ltQ_iff hb
  have a0 : (0 : Rat) < fv .f64 a := by grind
  have b0 : (0 : Rat) < fv .f64 b := by grind
  unfold scQ
  cases hla : ltQ a with
  | true =>
    have hal := la.1 hla
    cases hlb : ltQ b with
    | true =>
      obtain ⟨m1, _, n1, _⟩ := up_rnd ha
      obtain ⟨m2, _, n2, _⟩ := up_rnd hb
      refine m2.mono m1 n2 ?_ (by obtain ⟨_, _, _, n⟩ := up_rnd ha; grind)
      refine Rat.le_of_mul_le_mul_right (c := fv .f64 b) ?_ b0
      rw [Rat.div_mul_cancel (Rat.ne_of_gt b0)]
      have h1 := Rat.mul_le_mul_of_nonneg_left hab n1
      rw [Rat.div_mul_cancel (Rat.ne_of_gt a0)] at h1
      exact h1
    | false =>
      have hbl : (50 : Rat) ≤ fv .f64 b := by
        refine Rat.not_lt.1 fun h => ?_
        rw [lb.2 h] at hlb
        cases hlb
      obtain ⟨_, r1⟩ := q2_rnd hb
      obtain ⟨_, r2, _⟩ := dn_rnd hb
      obtain ⟨_, r3, _⟩ := up_rnd ha
      have k1 := rnd_nat r1 (a := 100) (b := 200) (by omega) (by omega) (by simp; grind) (by simp; grind)
      have k1a : 100 ≤ fv .f64 (q2 b) := by have := k1.1; simpa using this
      have k1b : fv .f64 (q2 b) ≤ 200 := by have := k1.2; simpa using this
      have k2 := rnd_nat r2 (a := 0) (b := 100) (by omega) (by omega) (by simp; grind) (by simp; grind)
      have k2b : fv .f64 (dn b) ≤ 100 := by have := k2.2; simpa using this
      have h100 : (100 : Rat) ≤ 5000 / fv .f64 a := by
        refine Rat.le_of_mul_le_mul_right (c := fv .f64 a) ?_ a0
        rw [Rat.div_mul_cancel (Rat.ne_of_gt a0)]
        grind
      obtain ⟨_, _, _, n5⟩ := up_rnd ha
      have k3 := rnd_nat r3 (a := 100) (b := 5000) (by omega) (by omega) (by simpa using h100) (by simpa using n5)
      have k3a : 100 ≤ fv .f64 (up a) := by have := k3.1; simpa using this
      show fv .f64 (dn b) ≤ fv .f64 (up a)
      grind
  | false =>
    have hal : (50 : Rat) ≤ fv .f64 a := by
      refine Rat.not_lt.1 fun h => ?_
      rw [la.2 h] at hla
      cases hla
    have hlb : ltQ b = false := by
      cases h : ltQ b with
      | false => rfl
      | true =>
        have := lb.1 h
        grind
    rw [hlb]
    obtain ⟨m1, _⟩ := q2_rnd ha
    obtain ⟨m2, _⟩ := q2_rnd hb
    have k := m1.mono m2 (by grind) (by grind) (by grind)
    obtain ⟨d1, _, e1⟩ := dn_rnd ha
    obtain ⟨d2, _, e2⟩ := dn_rnd hb
    exact d2.mono d1 (by grind) (by grind) (by
      obtain ⟨_, r1⟩ := q2_rnd ha
      have b1 := rnd_nat r1 (a := 0) (b := 200) (by omega) (by omega) (by simp; grind) (by simp; grind)
      have b1a : 0 ≤ fv .f64 (q2 a) := by have := b1.1; simpa using this
      grind)
theorem x_mono {a b : Nat} {c d : Bool} {k l : Nat} (ha : inQ a = true) (hb : inQ b = true) (h : (baseN c k : Rat) * fv .f64 (scQ a) ≤ (baseN d l : Rat) * fv .f64 (scQ b)) : fv .f64 (xK a c k) ≤ fv .f64 (xK b d l) := by
  have ht := tp1
  have xa := x_ok ha c k
  have xb := x_ok hb d l
  have hda := head_ok ha
  have hdb := head_ok hb
  have e50 : fv .f64 c50 = 50 := by rw [v50.2]; simp
  have e100 : fv .f64 c100 = 100 := by rw [v100.2]; simp
  have fact : ∀ {q : Nat} (hq : inQ q = true) (c : Bool) (k : Nat), RnM .f64 (mulK q c k) ((baseN c k : Rat) * fv .f64 (scQ q)) ∧ 0 ≤ (baseN c k : Rat) * fv .f64 (scQ q) ∧ (baseN c k : Rat) * fv .f64 (scQ q) ≤ 395000 ∧ 0 ≤ fv .f64 (mulK q c k) ∧ fv .f64 (mulK q c k) ≤ 395000 ∧
      RnM .f64 (addK q c k) (fv .f64 (mulK q c k) + 50) ∧ 50 ≤ fv .f64 (addK q c k) ∧ fv .f64 (addK q c k) ≤ 395050 ∧ RnM .f64 (xK q c k) (fv .f64 (addK q c k) / 100) := fun {q} hq c k => by
    have hh := head_ok hq
    have hx := x_ok hq c k
    obtain ⟨n1, n2⟩ := vN (baseN c k) (by have := base_le c k; omega)
    rw [← base_eq] at n1 n2
    have m1 := mulM (k := .f64) n1 hh.num
    rw [n2] at m1
    obtain ⟨b1, b2⟩ := base_le c k
    have l1 : (0 : Rat) ≤ (baseN c k : Rat) := by have := nat_le.2 (Nat.zero_le (baseN c k)); simpa using this
    have l2 : (baseN c k : Rat) ≤ 79 := by have := nat_le.2 b2; simpa using this
    have p1 : 0 ≤ (baseN c k : Rat) * fv .f64 (scQ q) := Rat.mul_nonneg l1 hh.lo
    have p2 : (baseN c k : Rat) * fv .f64 (scQ q) ≤ 395000 := by
      have t1 := Rat.mul_le_mul_of_nonneg_right l2 hh.lo
      have := hh.hi
      grind
    have m := rnd_nat hx.r1 (a := 0) (b := 395000) (by omega) (by omega) (by simpa using p1) (by simpa using p2)
    have q1 : 0 ≤ fv .f64 (mulK q c k) := by have := m.1; simpa using this
    have q2 : fv .f64 (mulK q c k) ≤ 395000 := by have := m.2; simpa using this
    have m2 := addM (k := .f64) hx.r1.num v50.1
    rw [e50] at m2
    have a := rnd_nat hx.r2 (a := 50) (b := 395050) (by omega) (by omega) (by simp; grind) (by simp; grind)
    have a1 : 50 ≤ fv .f64 (addK q c k) := by have := a.1; simpa using this
    have a2 : fv .f64 (addK q c k) ≤ 395050 := by have := a.2; simpa using this
    have m3 := quoM (k := .f64) hx.r2.num v100.1 (by show 0 < fv .f64 (addK q c k); grind) (by rw [e100]; grind)
    rw [e100] at m3
    exact ⟨m1, p1, p2, q1, q2, m2, a1, a2, m3⟩
  obtain ⟨f1, f2, f3, f4, f5, f6, f7, f8, f9⟩ := fact ha c k
  obtain ⟨g1, g2, g3, g4, g5, g6, g7, g8, g9⟩ := fact hb d l
  have s1 := f1.mono g1 f2 h (by grind)
  have s2 := f6.mono g6 (by grind) (by grind) (by grind)
  exact f9.mono g9 (by grind) (by grind) (by grind)
theorem st_mono {x y : Nat} (hx : Stp x) (hy : Stp y) (h : fv .f64 x ≤ fv .f64 y) : stN x ≤ stN y := by
  obtain ⟨_, c, c1, c2', _⟩ := stF_val hx
  obtain ⟨_, d, d1, d2, _⟩ := stF_val hy
  rw [stN_val hx c1 c2', stN_val hy d1 d2]
  have : c ≤ d := by
    have h3 : ((c : Nat) : Rat) < ((d + 1 : Nat) : Rat) := by rw [nat_succ]; grind
    have := nat_lt.1 h3
    omega
  omega
/-- The step at a place. -/
def sN (q : Nat) (c : Bool) (k : Nat) : Nat := stN (xK q c k)
theorem sN_range {q : Nat} (h : inQ q = true) (c : Bool) (k : Nat) : 1 ≤ sN q c k ∧ sN q c k ≤ 255 := by
  have hx := (x_ok h c k).st
  obtain ⟨_, d, d1, d2, _⟩ := stF_val hx
  unfold sN
  rw [stN_val hx d1 d2]
  omega
theorem tabQ_eq {q : Nat} (h : inQ q = true) (c : Bool) (k : Nat) : tabQ q c k = (sN q c k : Nat) := by
  have := sN_range h c k
  unfold tabQ tabR stR
  rw [h, cond_true]
  exact wu16 (by unfold sN at this; omega) (by unfold sN at this; omega)
theorem sN_base {q : Nat} (h : inQ q = true) {c d : Bool} {k l : Nat} (hb : baseN c k ≤ baseN d l) : sN q c k ≤ sN q d l :=
  st_mono (x_ok h c k).st (x_ok h d l).st (x_mono h h (Rat.mul_le_mul_of_nonneg_right (nat_le.2 hb) (head_ok h).lo))
theorem sN_better {a b : Nat} (ha : inQ a = true) (hb : inQ b = true) (hab : leF a b = true) (c : Bool) (k : Nat) : sN b c k ≤ sN a c k := by
  have h := (le_iff (inQ_val ha).1 (inQ_val hb).1).1 hab
  refine st_mono (x_ok hb c k).st (x_ok ha c k).st (x_mono hb ha (Rat.mul_le_mul_of_nonneg_left (scale_mono ha hb h) ?_))
  have := nat_le.2 (Nat.zero_le (baseN c k))
  simpa using this
theorem sN_same {q : Nat} {k l : Nat} (h : uvK k = uvK l) : sN q false k = sN q false l := by
  unfold sN xK addK mulK baseK
  rw [h]
end Go.Proofs.Yteikdpagoojdlaa
