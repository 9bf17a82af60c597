/-
  What is proved here: rounding to the nearest, of two the even one, never turns the order of two numbers round. A text to be imported.
-/
import Derived.Test.YthddkcoflnbjbaaDoorSimR
namespace Sm
open Go Go.RowKit Fl Ieee

theorem cut_tie (neg : Bool) (n drop : Nat) (h : 2 * n = 2 * (Toward.even.cut neg n drop * 2 ^ drop) + 2 ^ drop ∨ 2 * (Toward.even.cut neg n drop * 2 ^ drop) = 2 * n + 2 ^ drop) : Toward.even.cut neg n drop % 2 = 0 := by
  unfold Toward.cut at h ⊢
  by_cases hd : drop ≤ n.log2 + 2
  · simp only [Nat.min_eq_left hd, Nat.one_shiftLeft] at h ⊢
    have hpos : 0 < 2 ^ drop := Nat.two_pow_pos _
    generalize hG : 2 ^ drop = G at *
    have hdm := Nat.div_add_mod n G
    have hlt := Nat.mod_lt n hpos
    rw [Nat.mul_comm] at hdm
    generalize hq : n / G = q at *
    generalize hr : n % G = r at *
    have e1 : (q + 1) * G = q * G + G := by rw [Nat.add_mul, Nat.one_mul]
    cases hm : (decide (G < 2 * r) || G == 2 * r && q % 2 == 1) with
    | false =>
      simp only [hm, Bool.toNat_false, Nat.add_zero] at h ⊢
      simp only [Bool.or_eq_false_iff, decide_eq_false_iff_not, Bool.and_eq_false_iff, beq_eq_false_iff_ne] at hm
      omega
    | true =>
      simp only [hm, Bool.toNat_true, e1] at h ⊢
      simp only [Bool.or_eq_true, decide_eq_true_eq, Bool.and_eq_true, beq_iff_eq] at hm
      omega
  · exfalso
    rw [Nat.min_eq_right (by omega)] at h
    have h1 : n < 2 ^ (n.log2 + 1) := Nat.lt_log2_self
    have h3 : 2 ^ (n.log2 + 2) = 2 * 2 ^ (n.log2 + 1) := by rw [Nat.pow_succ]; omega
    have h4 : 2 ^ (n.log2 + 3) ≤ 2 ^ drop := Nat.pow_le_pow_right (by decide) (by omega)
    have h5 : 2 ^ (n.log2 + 3) = 4 * 2 ^ (n.log2 + 1) := by rw [Nat.pow_succ, h3]; omega
    simp only [Nat.one_shiftLeft] at h
    rw [h3] at h
    have e1 : n / (2 * 2 ^ (n.log2 + 1)) = 0 := Nat.div_eq_of_lt (by omega)
    have e2 : n % (2 * 2 ^ (n.log2 + 1)) = n := Nat.mod_eq_of_lt (by omega)
    rw [e1, e2] at h
    have e3 : (decide (2 * 2 ^ (n.log2 + 1) < 2 * n) || 2 * 2 ^ (n.log2 + 1) == 2 * n && 0 % 2 == 1) = false := by
      rw [decide_eq_false (by omega)]
      simp
    rw [e3] at h
    simp only [Bool.toNat_false, Nat.zero_add, Nat.zero_mul, Nat.mul_zero] at h
    omega

theorem cast_eq {a b : Nat} {u : Rat} (hu : 0 < u) (h : (a : Rat) * u = (b : Rat) * u) : a = b := by
  have h1 : (a : Rat) ≤ b := Rat.le_of_mul_le_mul_right (by rw [h]; exact Rat.le_refl) hu
  have h2 : (b : Rat) ≤ a := Rat.le_of_mul_le_mul_right (by rw [h]; exact Rat.le_refl) hu
  exact Nat.le_antisymm (Rat.natCast_le_natCast.1 h1) (Rat.natCast_le_natCast.1 h2)

theorem cast_lt {a b : Nat} {u : Rat} (hu : 0 < u) (h : (a : Rat) * u < (b : Rat) * u) : a < b := by
  refine Nat.lt_of_not_le fun hle => ?_
  have h1 := Rat.mul_le_mul_of_nonneg_right (Rat.natCast_le_natCast.2 hle) (Rat.le_of_lt hu)
  grind

/-- Between two: the even one. -/
theorem kept_tie {f : Format} (neg : Bool) {m : Nat} {p : Int} {z : Rat} (h : stands f m p z)
    (ht : 2 * z = 2 * ((keptN f neg m p : Rat) * pw (lastP f m p)) + pw (lastP f m p) ∨ 2 * ((keptN f neg m p : Rat) * pw (lastP f m p)) = 2 * z + pw (lastP f m p)) : keptN f neg m p % 2 = 0 := by
  rcases h with rfl | ⟨q, rfl, hq, h1, h2⟩
  · unfold keptN at ht ⊢
    generalize lastP f m p = last at *
    have hb1 : pw p = ((2 ^ (p - last).toNat : Nat) : Rat) * pw (p - (p - last).toNat) := by
      rw [← pw_nat, ← pw_add]; congr 1; omega
    have hb2 : pw last = ((2 ^ (last - p).toNat : Nat) : Rat) * pw (p - (p - last).toNat) := by
      rw [← pw_nat, ← pw_add]; congr 1; omega
    have hu := pw_pos (p - (p - last).toNat)
    rw [hb1, hb2] at ht
    refine cut_tie neg _ _ ?_
    rw [Nat.shiftLeft_eq] at ht ⊢
    generalize Toward.even.cut neg (m * 2 ^ (p - last).toNat) (last - p).toNat = K at *
    generalize pw (p - (p - last).toNat) = u at *
    rcases ht with ht | ht
    · left
      refine cast_eq hu ?_
      simp only [Rat.natCast_add, Rat.natCast_mul]
      grind
    · right
      refine cast_eq hu ?_
      simp only [Rat.natCast_add, Rat.natCast_mul]
      grind
  · exfalso
    have hlog : f.fractionBits + 2 ≤ (2 * q + 1).log2 := by
      refine (Nat.le_log2 (by omega)).2 ?_
      rw [show f.fractionBits + 2 = f.fractionBits + 1 + 1 from rfl, Nat.pow_succ]
      omega
    have hl : p + ((2 * q + 1).log2 : Nat) - f.fractionBits ≤ lastP f (2 * q + 1) p := Int.le_max_left _ _
    generalize keptN f neg (2 * q + 1) p = K at *
    generalize lastP f (2 * q + 1) p = last at *
    obtain ⟨b, hb⟩ : ∃ b : Nat, (last - p).toNat = b + 2 := ⟨(last - p).toNat - 2, by omega⟩
    have e2 : pw last = ((4 * 2 ^ b : Nat) : Rat) * pw p := by
      have e4 : 2 ^ (b + 2) = 4 * 2 ^ b := by rw [Nat.pow_add]; omega
      rw [← e4, ← pw_nat, ← pw_add]
      congr 1
      omega
    have hu := pw_pos p
    rw [e2] at ht
    generalize pw p = u at *
    have c4 : ((4 * 2 ^ b : Nat) : Rat) = 4 * ((2 ^ b : Nat) : Rat) := by rw [Rat.natCast_mul]; rfl
    rw [c4] at ht
    generalize hB : 2 ^ b = B at *
    have t2 : ((2 : Nat) : Rat) = 2 := rfl
    have t4 : ((4 : Nat) : Rat) = 4 := rfl
    rcases ht with ht | ht
    · have z1 : ((2 * q : Nat) : Rat) * u < ((4 * (K * B) + 2 * B : Nat) : Rat) * u := by
        simp only [Rat.natCast_add, Rat.natCast_mul, t2, t4] at h1 ⊢
        grind
      have z2 : ((4 * (K * B) + 2 * B : Nat) : Rat) * u < ((2 * q + 2 : Nat) : Rat) * u := by
        simp only [Rat.natCast_add, Rat.natCast_mul, t2, t4] at h2 ⊢
        grind
      have z1 := cast_lt hu z1
      have z2 := cast_lt hu z2
      omega
    · have z1 : ((2 * q + 2 * B : Nat) : Rat) * u < ((4 * (K * B) : Nat) : Rat) * u := by
        simp only [Rat.natCast_add, Rat.natCast_mul, t2, t4] at h1 ⊢
        grind
      have z2 : ((4 * (K * B) : Nat) : Rat) * u < ((2 * q + 2 + 2 * B : Nat) : Rat) * u := by
        simp only [Rat.natCast_add, Rat.natCast_mul, t2, t4] at h2 ⊢
        grind
      have z1 := cast_lt hu z1
      have z2 := cast_lt hu z2
      omega

theorem stands_lt {f : Format} {m : Nat} {p : Int} {z : Rat} (h : stands f m p z) : z < pw (p + m.log2 + 1) := by
  have key : ∀ n : Nat, n + 1 ≤ 2 ^ (n.log2 + 1) := fun n => Nat.lt_log2_self
  have hp := pw_pos p
  have e : pw (p + m.log2 + 1) = ((2 ^ (m.log2 + 1) : Nat) : Rat) * pw p := by
    rw [← pw_nat, ← pw_add]; congr 1; omega
  rw [e]
  rcases h with rfl | ⟨q, rfl, hq, h1, h2⟩
  · have h3 : (((m + 1 : Nat)) : Rat) ≤ ((2 ^ (m.log2 + 1) : Nat) : Rat) := Rat.natCast_le_natCast.2 (key m)
    have h4 := Rat.mul_le_mul_of_nonneg_right h3 (Rat.le_of_lt hp)
    rw [Rat.natCast_add] at h4
    have : ((1 : Nat) : Rat) = 1 := rfl
    rw [this] at h4
    grind
  · have h3 : ((2 * q + 2 : Nat) : Rat) ≤ ((2 ^ ((2 * q + 1).log2 + 1) : Nat) : Rat) := Rat.natCast_le_natCast.2 (key (2 * q + 1))
    have h4 := Rat.mul_le_mul_of_nonneg_right h3 (Rat.le_of_lt hp)
    grind

/-- The value of a rounded number. -/
theorem write_vl {f : Format} (he : 2 ≤ f.exponentBits) {m : Nat} {p : Int} {z : Rat} (h : stands f m p z) (hm : m ≠ 0) (hz : z < pw (topE f)) : vl f (f.write (.number false m p)) = (keptN f false m p : Rat) * pw (lastP f m p) := by
  obtain ⟨m', p', hr, hv⟩ := near_read he false h hm hz
  unfold vl Format.write
  rw [hr]
  simp only [dv, sg, Bool.false_eq_true, if_false]
  rw [← hv]
  grind

theorem write_mono {f : Format} (he : 2 ≤ f.exponentBits) {m1 m2 : Nat} {p1 p2 : Int} {z1 z2 : Rat} (h1 : stands f m1 p1 z1) (h2 : stands f m2 p2 z2) (hm1 : m1 ≠ 0) (hm2 : m2 ≠ 0) (hz : z1 ≤ z2) (hz2 : z2 < pw (topE f)) :
    vl f (f.write (.number false m1 p1)) ≤ vl f (f.write (.number false m2 p2)) := by
  have hz1 : z1 < pw (topE f) := by grind
  rw [write_vl he h1 hm1 hz1, write_vl he h2 hm2 hz2]
  refine Rat.not_lt.1 fun hlt => ?_
  have l1 : f.leastPlace ≤ lastP f m1 p1 := Int.le_max_right _ _
  have l2 : f.leastPlace ≤ lastP f m2 p2 := Int.le_max_right _ _
  have hkb : 2 * f.binade = 2 ^ (f.fractionBits + 1) := by unfold Format.binade; rw [Nat.pow_succ]; omega
  have k1 : keptN f false m1 p1 ≤ 2 ^ (f.fractionBits + 1) := by rw [← hkb]; exact kept_le f false p1
  have k2 : keptN f false m2 p2 ≤ 2 ^ (f.fractionBits + 1) := by rw [← hkb]; exact kept_le f false p2
  -- what lies between
  have a1 : (keptN f false m2 p2 : Rat) * pw (lastP f m2 p2) < z1 := by
    refine Rat.not_le.1 fun hle => ?_
    have := kept_le_rep (neg := false) h1 hm1 k2 l2 hle
    grind
  have a2 : z2 < (keptN f false m1 p1 : Rat) * pw (lastP f m1 p1) := by
    refine Rat.not_le.1 fun hle => ?_
    have := le_kept_rep (neg := false) h2 hm2 k1 l1 hle
    grind
  have s1 := stands_log h1 hm1
  have s2 := stands_log h2 hm2
  have t1 := stands_lt h1
  have t2 := stands_lt h2
  have hb : (2 ^ f.fractionBits : Nat) ≤ 2 ^ (f.fractionBits + 1) := Nat.pow_le_pow_right (by omega) (by omega)
  rcases Int.lt_trichotomy (lastP f m1 p1) (lastP f m2 p2) with hL | hL | hL
  · have e2 : lastP f m2 p2 = p2 + m2.log2 - f.fractionBits := by unfold lastP at hL l2 ⊢; omega
    have e1 : p1 + m1.log2 - f.fractionBits ≤ lastP f m1 p1 := Int.le_max_left _ _
    have m := pw_mono (show p1 + m1.log2 + 1 ≤ f.fractionBits + lastP f m2 p2 by omega)
    have r : ((2 ^ f.fractionBits : Nat) : Rat) * pw (lastP f m2 p2) = pw (f.fractionBits + lastP f m2 p2) := by rw [pw_add, pw_nat]
    have m' : pw (f.fractionBits + lastP f m2 p2) ≤ z2 := by
      rw [show (f.fractionBits : Int) + lastP f m2 p2 = p2 + m2.log2 from by omega]
      exact s2
    have := le_kept_rep (neg := false) h2 hm2 hb l2 (by rw [r]; exact m')
    grind
  · obtain ⟨c1, c2⟩ := stands_err false h1
    obtain ⟨d1, d2⟩ := stands_err false h2
    have tie1 := kept_tie false h1
    have tie2 := kept_tie false h2
    rw [hL] at c1 c2 tie1 hlt a2
    have hp := pw_pos (lastP f m2 p2)
    generalize keptN f false m1 p1 = K1 at *
    generalize keptN f false m2 p2 = K2 at *
    generalize pw (lastP f m2 p2) = u at *
    have hK := cast_lt hp hlt
    have hK2 : K1 ≤ K2 + 1 := by
      refine Nat.le_of_not_lt fun hgt => ?_
      have h5 : ((K2 + 2 : Nat) : Rat) ≤ (K1 : Rat) := Rat.natCast_le_natCast.2 hgt
      have h6 := Rat.mul_le_mul_of_nonneg_right h5 (Rat.le_of_lt hp)
      rw [Rat.natCast_add] at h6
      have : ((2 : Nat) : Rat) = 2 := rfl
      rw [this] at h6
      grind
    obtain rfl : K1 = K2 + 1 := by omega
    have h7 : ((K2 + 1 : Nat) : Rat) = (K2 : Rat) + 1 := by rw [Rat.natCast_add]; rfl
    rw [h7] at c1 c2 tie1
    have p1 := tie1 (.inr (by grind))
    have p2 := tie2 (.inl (by grind))
    omega
  · have e1 : lastP f m1 p1 = p1 + m1.log2 - f.fractionBits := by unfold lastP at hL l1 ⊢; omega
    have e2 : p2 + m2.log2 - f.fractionBits ≤ lastP f m2 p2 := Int.le_max_left _ _
    have m := pw_mono (show p2 + m2.log2 + 1 ≤ p1 + m1.log2 by omega)
    grind

/-- A word that is such a number, rounded. -/
def RnM (k : FloatKind) (r : Nat) (v : Rat) : Prop := ∃ s m p z, r = k.format.write (.number s m p) ∧ stands k.format m p z ∧ sg s * z = v

theorem RnM.mono {k : FloatKind} {r1 r2 : Nat} {v1 v2 : Rat} (h1 : RnM k r1 v1) (h2 : RnM k r2 v2) (h0 : 0 ≤ v1) (hv : v1 ≤ v2) (ht : v2 < tp k) : fv k r1 ≤ fv k r2 := by
  obtain ⟨s1, m1, p1, z1, rfl, g1, e1⟩ := h1
  obtain ⟨s2, m2, p2, z2, rfl, g2, e2⟩ := h2
  have zpos : ∀ {m : Nat} {p : Int} {z : Rat}, stands k.format m p z → m ≠ 0 → 0 < z := fun {m p z} h hm => by
    have h2 := stands_log h hm
    have h3 := pw_pos (p + m.log2)
    grind
  have rep0 : rep k.format 0 := ⟨false, 0, k.format.leastPlace, Nat.zero_le _, Int.le_refl _, by simp⟩
  have zzero : ∀ {m : Nat} {p : Int} {z : Rat}, stands k.format m p z → m = 0 → z = 0 := fun h hm => by
    subst hm
    rcases h with h | ⟨q, h, _⟩
    · rw [← h]; simp
    · omega
  have sgf : ∀ {s : Bool} {z : Rat}, 0 < z → 0 ≤ sg s * z → s = false := fun {s z} hz h => by
    cases s with
    | false => rfl
    | true => simp only [sg, if_true] at h; grind
  have one : sg false = 1 := rfl
  by_cases hm1 : m1 = 0
  · have hz1 := zzero g1 hm1
    have hw1 := write_rnd (eb_ok k) s1 g1 (by rw [hz1]; exact pw_pos _)
    have hv1 : fv k (k.format.write (.number s1 m1 p1)) = 0 := by
      have h3 := hw1.exact (by rw [hz1, Rat.mul_zero]; exact rep0)
      have h4 : sg s1 * z1 = 0 := by rw [hz1]; simp
      rw [h4] at h3
      exact h3
    rw [hv1]
    by_cases hm2 : m2 = 0
    · have hz2 := zzero g2 hm2
      have hw2 := write_rnd (eb_ok k) s2 g2 (by rw [hz2]; exact pw_pos _)
      have h3 := hw2.exact (by rw [hz2, Rat.mul_zero]; exact rep0)
      have h4 : sg s2 * z2 = 0 := by rw [hz2]; simp
      rw [h4] at h3
      show (0 : Rat) ≤ vl k.format _
      rw [h3]
      exact Rat.le_refl
    · have hz2 := zpos g2 hm2
      obtain rfl := sgf hz2 (by rw [e2]; grind)
      rw [one, Rat.one_mul] at e2
      show (0 : Rat) ≤ vl k.format _
      rw [write_vl (eb_ok k) g2 hm2 (by rw [e2]; exact ht)]
      exact Rat.mul_nonneg (by have := Rat.natCast_le_natCast.2 (Nat.zero_le (keptN k.format false m2 p2)); simpa using this) (Rat.le_of_lt (pw_pos _))
  · have hz1 := zpos g1 hm1
    obtain rfl := sgf hz1 (by rw [e1]; exact h0)
    rw [one, Rat.one_mul] at e1
    have hm2 : m2 ≠ 0 := fun h => by
      have := zzero g2 h
      rw [this] at e2
      simp at e2
      grind
    have hz2 := zpos g2 hm2
    obtain rfl := sgf hz2 (by rw [e2]; grind)
    rw [one, Rat.one_mul] at e2
    exact write_mono (eb_ok k) g1 g2 hm1 hm2 (by grind) (by rw [e2]; exact ht)

theorem mulM {k : FloatKind} {x y : Nat} (hx : fnum k x) (hy : fnum k y) : RnM k (fbin .mul k x y) (fv k x * fv k y) := by
  obtain ⟨s, m, p, hs, hv⟩ := prod_val (num_is hx) (num_is hy)
  refine ⟨s, m, p, _, ?_, .inl rfl, by rw [← Rat.mul_assoc]; exact hv⟩
  unfold fbin floatBits? Format.mul
  simp only [hs, Option.map_some, Option.getD_some]

theorem addM {k : FloatKind} {x y : Nat} (hx : fnum k x) (hy : fnum k y) : RnM k (fbin .add k x y) (fv k x + fv k y) := by
  obtain ⟨s, m, p, hs, hv⟩ := sum_val (num_is hx) (num_is hy)
  refine ⟨s, m, p, _, ?_, .inl rfl, by rw [← Rat.mul_assoc]; exact hv⟩
  unfold fbin floatBits? Format.add
  simp only [hs, Option.map_some, Option.getD_some]

theorem subM {k : FloatKind} {x y : Nat} (hx : fnum k x) (hy : fnum k y) : RnM k (fbin .sub k x y) (fv k x - fv k y) := by
  obtain ⟨o1, o2⟩ := opp_val (x := k.format.read y)
  obtain ⟨s, m, p, hs, hv⟩ := sum_val (num_is hx) (y := (k.format.read y).opposite) (by rw [o1]; exact num_is hy)
  refine ⟨s, m, p, _, ?_, .inl rfl, ?_⟩
  · unfold fbin floatBits? Format.sub
    simp only [hs, Option.map_some, Option.getD_some]
  · rw [← Rat.mul_assoc, hv, o2]
    show dv _ + -dv _ = vl k.format x - vl k.format y
    unfold vl
    grind

theorem quoM {k : FloatKind} {x y : Nat} (hx : fnum k x) (hy : fnum k y) (h0 : 0 < fv k x) (h1 : 0 < fv k y) : RnM k (fbin .quo k x y) (fv k x / fv k y) := by
  obtain ⟨s, m, i, hxr⟩ := hx
  obtain ⟨t, n, j, hyr⟩ := hy
  have vx : fv k x = sg s * m * pw i := by show vl _ _ = _; unfold vl; rw [hxr]; rfl
  have vy : fv k y = sg t * n * pw j := by show vl _ _ = _; unfold vl; rw [hyr]; rfl
  have pos : ∀ {s : Bool} {m : Nat} {i : Int}, 0 < sg s * (m : Rat) * pw i → m ≠ 0 ∧ s = false := fun {s m i} h => by
    have hp := pw_pos i
    constructor
    · rintro rfl; simp at h
    · cases s with
      | false => rfl
      | true =>
        exfalso
        have hm0 : (0 : Rat) ≤ (m : Rat) := by have := Rat.natCast_le_natCast.2 (Nat.zero_le m); simpa using this
        have := Rat.mul_nonneg hm0 (Rat.le_of_lt hp)
        simp only [sg, if_true] at h
        grind
  obtain ⟨hm, rfl⟩ := pos (by rw [← vx]; exact h0)
  obtain ⟨hn, rfl⟩ := pos (by rw [← vy]; exact h1)
  refine ⟨false, _, _, _, ?_, quot_stands k.format i j hm hn _ rfl, ?_⟩
  · unfold fbin floatBits? Format.div
    rw [hxr, hyr]
    simp only [Datum.quotient, if_neg hn, Option.map_some, Option.getD_some]
    rfl
  · rw [vx, vy]
    simp only [sg, Bool.false_eq_true, if_false, Rat.one_mul]
end Sm
