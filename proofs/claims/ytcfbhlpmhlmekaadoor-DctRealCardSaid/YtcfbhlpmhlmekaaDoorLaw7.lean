/-
  What is proved here: DctEnergy, with no program in sight but the floats: its sums of squares, its bounds, its answer. A text to be imported.
-/
import Derived.Test.YtcfbhlpmhlmekaaDoorLaw6
namespace Go.Proofs.YtcfbhlpmhlmekaaDoor
open Sm Go Go.RowKit Fl Ieee
set_option maxRecDepth 100000
set_option linter.unusedVariables false
theorem sqS_eq (y : Nat → Nat) : ∀ k, sqS y k = fsum (fun i => fbin .mul .f64 (y i) (y i)) 0 k
  | 0 => rfl
  | k + 1 => by show fbin _ _ _ _ = fbin _ _ _ _; rw [sqS_eq y k]
/-- A sum of squares of words near numbers. -/
theorem sq_ok {y : Nat → Nat} {T : Nat → Rat} {S e : Rat} (h0 : 0 ≤ S) (hS : S ≤ 100000000000) (he : e ≤ 1 / 1000000000 * S + 1 / 1000000000000000000000000000) (ha : ∀ i, i < 64 → Ap (y i) (T i) e) (hT : ∀ i, i < 64 → T i ≤ S ∧ -S ≤ T i) :
    (∀ i, i < 64 → fok .mul .f64 (y i) (y i) = true ∧ fok .add .f64 (sqS y i) (fm (y i) (y i)) = true) ∧ Ap (sqS y 64) (RS (fun i => T i * T i) 64) (130 * (S * e) + 65 * (e * e) + 1 / 1000000000000 * (S * S) + 1 / 1000000000000000000000000000) := by
  have e0 : 0 ≤ e := (ha 0 (by decide)).pos
  have q0 := sq_nn' S
  have q1 := Rat.mul_nonneg h0 e0
  have q2 := sq_nn' e
  have b0 := rmul_le (a := S) (b := S) (A := 100000000000) (B := 100000000000) (by grind) (by grind) hS (by grind) hS (by grind)
  have b1 := rmul_le (a := S) (b := e) (A := S) (B := 1 / 1000000000 * S + 1 / 1000000000000000000000000000) h0 (by grind) (by grind) (by grind) he (by grind)
  have b2 := rmul_le (a := e) (b := e) (A := 1 / 1000000000 * S + 1 / 1000000000000000000000000000) (B := 1 / 1000000000 * S + 1 / 1000000000000000000000000000) (by grind) (by grind) he (by grind) he (by grind)
  have hm : ∀ i, i < 64 → fok .mul .f64 (y i) (y i) = true ∧ Ap (fbin .mul .f64 (y i) (y i)) (T i * T i) (2 * (S * e) + e * e + dl ((S + e) * (S + e))) := fun i hi => by
    obtain ⟨t1, t2⟩ := hT i hi
    obtain ⟨k, a⟩ := (ha i hi).mul (ha i hi) (U := S) (V := S) t1 t2 t1 t2 ((S + e) * (S + e)) Rat.le_refl (tp_30 _ (by grind))
    exact ⟨k, a.le (by grind)⟩
  have hM : ∀ i, i < 64 → T i * T i ≤ S * S ∧ -(S * S) ≤ T i * T i := fun i hi => by
    obtain ⟨t1, t2⟩ := hT i hi
    exact rmul_le h0 h0 t1 t2 t1 t2
  have := fsum_ap (t := fun i => fbin .mul .f64 (y i) (y i)) (T := fun i => T i * T i) (τ := 2 * (S * e) + e * e + dl ((S + e) * (S + e))) (M := S * S) (B := 0) (S := 0) (e := 0) (c := 65 * (S * S) + 200 * (S * e) + 200 * (e * e) + 1 / 1000000000000000000000) (s := 0) (N := 64) (fun i hi => (hm i hi).2) hM (Ap.of zero_val) (by grind) (by grind) q0 (by unfold dl; grind) (by grind) (by rw [show ((64 : Nat) : Rat) = 64 from rfl]; unfold dl; grind) (tp_30 _ (by grind)) 64 (Nat.le_refl _)
  rw [show ((64 : Nat) : Rat) = 64 from rfl] at this
  refine ⟨fun i hi => ⟨(hm i hi).1, by rw [sqS_eq]; exact this.1 i hi⟩, ?_⟩
  rw [sqS_eq]
  exact (this.2.mv (v' := RS (fun i => T i * T i) 64) (d := 0) (by grind) (by grind)).le (by unfold dl; grind)
theorem sqy_ok {y : Nat → Nat} (h : Tm y) : (∀ i, i < 64 → fok .mul .f64 (y i) (y i) = true ∧ fok .add .f64 (sqS y i) (fm (y i) (y i)) = true) ∧ Ap (sqS y 64) (QQ y) (1 / 1000000000000 * (Lh y * Lh y) + 1 / 1000000000000000000000000000) := by
  obtain ⟨l0, l1, l2⟩ := L_bd h
  obtain ⟨a, b⟩ := sq_ok (y := y) (T := fun i => fv .f64 (y i)) (S := Lh y) (e := 0) l0 (by grind) (by grind) (fun i hi => Ap.self (h i hi).1) (fun i hi => ⟨(l2 i hi).1, (l2 i hi).2.1⟩)
  exact ⟨a, b.le (by grind)⟩
theorem sqs_ok {y : Nat → Nat} (h : Tm y) : (∀ i, i < 64 → fok .mul .f64 (sF y i) (sF y i) = true ∧ fok .add .f64 (sqS (sF y) i) (fm (sF y i) (sF y i)) = true) ∧ Ap (sqS (sF y) 64) (RS (fun k => sT y k * sT y k) 64) (7 / 1000000000000 * (Lh y * Lh y) + 1 / 1000000000000000000000000 * Lh y + 1 / 100000000000000000000000000) := by
  obtain ⟨l0, l1, l2⟩ := L_bd h
  obtain ⟨a, b⟩ := sq_ok (y := sF y) (T := sT y) (S := 1 / 4 * Lh y) (e := eL (Lh y) 0) (by grind) (by grind) (by unfold eL; grind) (s_ok h).2 (fun i hi => sT_bd h hi)
  refine ⟨a, b.le ?_⟩
  have := sq_nn' (Lh y)
  generalize Lh y = L at *
  unfold eL
  grind
/-- The sizes of the samples. -/
theorem s_size {y : Nat → Nat} (h : Tm y) : ∀ k, k < 64 → fnum .f64 (sF y k) ∧ aY (sF y) k ≤ Lh y + 1 / 1000000000000000000000000000 := fun k hk => by
  obtain ⟨l0, l1, l2⟩ := L_bd h
  have a := (s_ok h).2 k hk
  obtain ⟨t1, t2⟩ := sT_bd h hk
  refine ⟨a.num, ab_le ?_ ?_⟩
  · have := a.hi; unfold eL at this; grind
  · have := a.lo; unfold eL at this; grind
/-- The bound of the differences. -/
theorem most_ok {y : Nat → Nat} (h : Tm y) : (∀ p ∈ obE3 y (sF y), p) ∧ fnum .f64 (mostW y (sF y)) ∧ 16 / 1000000000 * (1 + Lh y) ≤ fv .f64 (mostW y (sF y)) := by
  obtain ⟨l0, l1, l2⟩ := L_bd h
  obtain ⟨p1, a1, _, _, _⟩ := off_ok (y := y) (S := Lh y) (fun k hk => ⟨(h k hk).1, (l2 k hk).2.2⟩) l0 (by grind)
  obtain ⟨p2, a2, _, c1, c2⟩ := off_ok (y := sF y) (S := Lh y + 1 / 1000000000000000000000000000) (s_size h) (by grind) (by grind)
  generalize Lh y = L at *
  generalize Lh (sF y) = M at *
  obtain ⟨k3, a3⟩ := w17_ap.mul a1 (U := 17) (V := 101 / 100000000000 * (1 + L)) (by grind) (by grind) (by grind) (by grind) (1 / 1000000 * (1 + L)) (by grind) (tp_30 _ (by grind))
  obtain ⟨k4, a4⟩ := a2.add a3 (1 / 10000 * (1 + L)) (by unfold dl; grind) (by unfold dl; grind) (tp_30 _ (by grind))
  refine ⟨fun p hp => ?_, a4.num, ?_⟩
  · simp only [obE3, List.mem_append, List.mem_cons, List.not_mem_nil, or_false] at hp
    rcases hp with (hp | hp) | (rfl | rfl)
    · exact p1 p hp
    · exact p2 p hp
    · exact k3
    · exact k4
  · have := a4.lo
    show _ ≤ fv .f64 (fbin .add .f64 (offW (sF y)) (fbin .mul .f64 w17 (offW y)))
    unfold dl at this
    grind
theorem within_okE {x y m : Nat} {u v d e : Rat} (hx : Ap x u d) (hy : Ap y v e) (hm : fnum .f64 m) (c : Rat) (h1 : u - v + d + e ≤ c) (h2 : -c ≤ u - v - d - e) (hc : c < tp .f64) (h3 : c + dl c ≤ fv .f64 m) : fok .sub .f64 x y = true ∧ leW (awayF (fbin .sub .f64 x y)) m = true := by
  obtain ⟨k, a⟩ := hx.sub hy c h1 h2 hc
  refine ⟨k, ?_⟩
  have n := away_ap a.num
  have := hx.hi; have := hx.lo; have := hy.hi; have := hy.lo
  rw [leW_iff n.num hm]
  obtain ⟨_, r⟩ := fbin_sub hx.num hy.num (by grind) (by grind)
  have b := Ap.rnd r (c := c) (by grind) (by grind)
  have := b.hi; have := b.lo
  have := n.hi
  have := ab_le (r := fv .f64 (fbin .sub .f64 x y)) (b := c + dl c) (by grind) (by grind)
  grind
theorem obE4_ok {y : Nat → Nat} (h : Tm y) : ∀ p ∈ obE4 y (sF y) (gF y), p := fun p hp => by
  simp only [obE4, List.mem_flatMap, List.mem_range, List.mem_cons, List.not_mem_nil, or_false] at hp
  obtain ⟨k, hk, hp⟩ := hp
  obtain ⟨l0, l1, l2⟩ := L_bd h
  obtain ⟨_, m1, m2⟩ := most_ok h
  have a := (g_ok h).2 k hk
  obtain ⟨n1, n2⟩ := g_near h hk
  obtain ⟨k1, k2⟩ := within_okE a (Ap.self (h k hk).1) m1 (1 / 1000000000 * (1 + Lh y)) (by unfold eL; grind) (by unfold eL; grind) (tp_30 _ (by grind)) (by unfold dl; grind)
  obtain ⟨q1, q2⟩ := (sqs_ok h).1 k hk
  rcases hp with rfl | rfl | rfl | rfl
  · exact k1
  · rw [k2]; rfl
  · exact q1
  · exact q2
/-- The last bound, the last answer. -/
theorem last_ok {y : Nat → Nat} (h : Tm y) : (∀ p ∈ obE5 y (sF y), p) ∧ resE y (sF y) = true := by
  obtain ⟨l0, l1, l2⟩ := L_bd h
  obtain ⟨_, o1, _, _, _⟩ := off_ok (y := y) (S := Lh y) (fun k hk => ⟨(h k hk).1, (l2 k hk).2.2⟩) l0 (by grind)
  obtain ⟨p2, _, s1, c1, c2⟩ := off_ok (y := sF y) (S := Lh y + 1 / 1000000000000000000000000000) (s_size h) (by grind) (by grind)
  have hlen : ∀ k, k < 64 → okLen (lstN (sF y)) k := p2 _ (by simp [okOff])
  obtain ⟨q0, q1⟩ := QQ_bd h
  have qc := cauchy y
  have a := (sqs_ok h).2
  have b := (sqy_ok h).2
  obtain ⟨r1, r2⟩ := pars h
  have P0 := sq_nn' (Lh y)
  have PL := rmul_le (a := Lh y) (b := Lh y) (A := 64000000) (B := 64000000) (by grind) (by grind) l1 (by grind) l1 (by grind)
  have PM := rmul_le (a := 1 + Lh y) (b := Lh (sF y)) (A := 1 + Lh y) (B := 64 * (Lh y + 1 / 1000000000000000000000000000)) (by grind) (by grind) (by grind) (by grind) c2 (by grind)
  have PM0 := Rat.mul_nonneg (show 0 ≤ 1 + Lh y by grind) c1
  generalize Lh y = L at *
  generalize Lh (sF y) = M at *
  generalize QQ y = Q at *
  generalize RS (fun k => sT y k * sT y k) 64 = Z at *
  obtain ⟨k1, a1⟩ := w2_ap.mul s1 (U := 2) (V := M) (by grind) (by grind) (by grind) (by grind) (130 * L + 1) (by grind) (tp_30 _ (by grind))
  have a1' := a1.le (e' := 1 / 10000000000 * (1 + L)) (by unfold dl; grind)
  obtain ⟨k2, a2⟩ := w64_ap.mul o1 (U := 64) (V := 101 / 100000000000 * (1 + L)) (by grind) (by grind) (by grind) (by grind) (1 / 1000000 * (1 + L)) (by grind) (tp_30 _ (by grind))
  have a2' := a2.le (e' := 1 / 10000000000000000 * (1 + L)) (by unfold dl; grind)
  obtain ⟨k3, a3⟩ := a1'.add a2' (200 * L + 200) (by grind) (by grind) (tp_30 _ (by grind))
  have a3' := a3.le (e' := 2 / 10000000000 * (1 + L)) (by unfold dl; grind)
  have e1 : 2 * M + 64 * (101 / 100000000000 * (1 + L)) ≤ 200 * (1 + L) := by grind
  have e2 : 0 ≤ 2 * M + 64 * (101 / 100000000000 * (1 + L)) := by grind
  obtain ⟨k4, a4⟩ := o1.mul a3' (U := 101 / 100000000000 * (1 + L)) (V := 200 * (1 + L)) (by grind) (by grind) (by grind) (by grind) (1 / 1000000 * ((1 + L) * (1 + L))) (by grind) (tp_30 _ (by grind))
  have b' := b.le (e' := 1 / 1000000000000 * (L * L) + 1 / 1000000000000000000000000000) Rat.le_refl
  obtain ⟨k5, a5⟩ := w9_ap.mul b' (U := 1 / 1000000000) (V := 64 * (L * L)) (by grind) (by grind) (by grind) (by grind) (1 / 1000000 * ((1 + L) * (1 + L))) (by grind) (tp_30 _ (by grind))
  obtain ⟨k6, a6⟩ := a4.add a5 (1 / 100000 * ((1 + L) * (1 + L))) (by unfold dl; grind) (by unfold dl; grind) (tp_30 _ (by grind))
  have lo : 5 / 100000000000000000 * ((1 + L) * (1 + L)) + 1 / 1000000000 * Q ≤ fv .f64 (bndE y (sF y)) := by
    have := a6.lo
    show _ ≤ fv .f64 (fbin .add .f64 (fbin .mul .f64 (offW y) (fbin .add .f64 (fbin .mul .f64 w2 (lenS (lstN (sF y)) 64)) (fbin .mul .f64 w64f (offW y)))) (fbin .mul .f64 w9 (sqS y 64)))
    unfold dl at this
    grind
  obtain ⟨k7, a7⟩ := within_okE a b (m := bndE y (sF y)) a6.num (9 / 1000000000000 * (L * L) + 1 / 100000000000000000000 * ((1 + L) * (1 + L))) (by grind) (by grind) (tp_30 _ (by grind)) (by unfold dl; grind)
  refine ⟨fun p hp => ?_, a7⟩
  simp only [obE5, List.mem_cons, List.not_mem_nil, or_false] at hp
  rcases hp with rfl | rfl | rfl | rfl | rfl | rfl | rfl | rfl
  · exact k7
  · exact hlen
  · exact k1
  · exact k2
  · exact k3
  · exact k4
  · exact k5
  · exact k6
theorem yF_tm (f : Nat → Nat) : Tm (yF f) := fun k _ => clE_ok (f k)
theorem energy_ok (f : Nat → Nat) : (∀ p ∈ obE1 (yF f) ++ obE2 (yF f) (sF (yF f)) ++ obE3 (yF f) (sF (yF f)) ++ obE4 (yF f) (sF (yF f)) (gF (yF f)) ++ obE5 (yF f) (sF (yF f)), p) ∧ resE (yF f) (sF (yF f)) = true := by
  have h := yF_tm f
  refine ⟨fun p hp => ?_, (last_ok h).2⟩
  simp only [List.mem_append] at hp
  rcases hp with (((hp | hp) | hp) | hp) | hp
  · simp only [obE1, List.mem_flatMap, List.mem_range, List.mem_cons, List.not_mem_nil, or_false] at hp
    obtain ⟨k, hk, rfl | rfl⟩ := hp
    · exact ((sqy_ok h).1 k hk).1
    · exact ((sqy_ok h).1 k hk).2
  · simp only [obE2, List.mem_cons, List.not_mem_nil, or_false] at hp
    rcases hp with rfl | rfl
    · exact (s_ok h).1
    · exact (g_ok h).1
  · exact (most_ok h).1 p hp
  · exact obE4_ok h p hp
  · exact (last_ok h).1 p hp
end Go.Proofs.YtcfbhlpmhlmekaaDoor
