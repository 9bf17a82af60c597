/-
  What is proved here: float operations of the abstract evaluator by what they stand for. whole parts of floats, the greater and the smaller of two, comparisons, by what they stand for. A text to be imported.
-/
import Derived.Test.YthddkcoflnbjbaaDoorSimO
import Derived.Test.YthddkcoflnbjbaaDoorSimFl
namespace Sm
open Go Go.RowKit Fl

/-- A float of a kind is a number. -/
abbrev fnum (k : FloatKind) (x : Nat) : Prop := Fl.num k.format x
/-- Its value. -/
abbrev fv (k : FloatKind) (x : Nat) : Rat := Fl.vl k.format x

theorem eb_ok (k : FloatKind) : 2 ≤ k.format.exponentBits := by cases k <;> decide
def tp (k : FloatKind) : Rat := pw (topE k.format)
theorem top64 : topE FloatKind.f64.format = ((1023 : Nat) : Int) := by kernel_rfl
theorem top32 : topE FloatKind.f32.format = ((127 : Nat) : Int) := by kernel_rfl
theorem tp_ge (k : FloatKind) : (1099511627776 : Rat) ≤ tp k := by
  have h := pw_nat 40
  rw [show (2 ^ 40 : Nat) = 1099511627776 from rfl, Rat.natCast_ofNat] at h
  rw [← h]
  unfold tp
  cases k
  · rw [top32]; exact pw_mono (by decide)
  · rw [top64]; exact pw_mono (by decide)
theorem lp0 (k : FloatKind) : k.format.leastPlace ≤ 0 := by cases k <;> decide

theorem fbin_add {k : FloatKind} {x y : Nat} (hx : fnum k x) (hy : fnum k y) (h1 : fv k x + fv k y < tp k) (h2 : -tp k < fv k x + fv k y) : fok .add k x y = true ∧ Rnd k.format (fbin .add k x y) (fv k x + fv k y) := by
  obtain ⟨r, hr, h⟩ := add_rnd (eb_ok k) hx hy h1 h2
  unfold fok fbin floatBits?
  rw [hr]
  exact ⟨rfl, h⟩
theorem fbin_sub {k : FloatKind} {x y : Nat} (hx : fnum k x) (hy : fnum k y) (h1 : fv k x - fv k y < tp k) (h2 : -tp k < fv k x - fv k y) : fok .sub k x y = true ∧ Rnd k.format (fbin .sub k x y) (fv k x - fv k y) := by
  obtain ⟨r, hr, h⟩ := sub_rnd (eb_ok k) hx hy h1 h2
  unfold fok fbin floatBits?
  rw [hr]
  exact ⟨rfl, h⟩
theorem fbin_mul {k : FloatKind} {x y : Nat} (hx : fnum k x) (hy : fnum k y) (h1 : fv k x * fv k y < tp k) (h2 : -tp k < fv k x * fv k y) : fok .mul k x y = true ∧ Rnd k.format (fbin .mul k x y) (fv k x * fv k y) := by
  obtain ⟨r, hr, h⟩ := mul_rnd (eb_ok k) hx hy h1 h2
  unfold fok fbin floatBits?
  rw [hr]
  exact ⟨rfl, h⟩
theorem fbin_quo {k : FloatKind} {x y : Nat} (hx : fnum k x) (hy : fnum k y) (h0 : fv k y ≠ 0) (h1 : fv k x / fv k y < tp k) (h2 : -tp k < fv k x / fv k y) : fok .quo k x y = true ∧ Rnd k.format (fbin .quo k x y) (fv k x / fv k y) := by
  obtain ⟨r, hr, h⟩ := div_rnd (eb_ok k) hx hy h0 h1 h2
  unfold fok fbin floatBits?
  rw [hr]
  exact ⟨rfl, h⟩
theorem fint {k : FloatKind} (n : Int) (h1 : (n : Rat) < tp k) (h2 : -tp k < (n : Rat)) : Rnd k.format (k.nearest n) (n : Rat) := ofInt_rnd (eb_ok k) n h1 h2
theorem feq_self {k : FloatKind} {x : Nat} (hx : fnum k x) : Op.floatEq k x x = true := by
  unfold Op.floatEq
  rw [((order_val hx hx).2.1).2 rfl]
  rfl
theorem ford_ok {k : FloatKind} {x y : Nat} (hx : fnum k x) (hy : fnum k y) : ford k x y = true := (order_val hx hy).2.2.2

/-- Two rows of floats alike at so many places. -/
def eqF (k : FloatKind) (f g : Nat → Nat) : Nat → Nat → Bool
  | 0, _ => true
  | n + 1, i => Op.floatEq k (f i) (g i) && eqF k f g n (i + 1)
theorem eqF_same {k : FloatKind} {f : Nat → Nat} : ∀ (n i : Nat), (∀ j, j < i + n → fnum k (f j)) → eqF k f f n i = true
  | 0, _, _ => rfl
  | n + 1, i, h => by
    simp only [eqF, Bool.and_eq_true]
    exact ⟨feq_self (h i (by omega)), eqF_same n (i + 1) fun j hj => h j (by omega)⟩
end Sm
namespace Sm
open Go Go.RowKit Fl Ieee

theorem cut_dz {way : Toward} (hw : way = .down ∨ way = .zero) (n d : Nat) : way.cut false n d = n / (1 <<< min d (n.log2 + 2)) := by
  rcases hw with rfl | rfl <;> simp [Toward.cut]

theorem cut_zero {way : Toward} (hw : way = .down ∨ way = .zero) (s : Bool) (d : Nat) : way.cut s 0 d = 0 := by
  rcases hw with rfl | rfl <;> simp [Toward.cut]

theorem cut_bounds {way : Toward} (hw : way = .down ∨ way = .zero) (n d : Nat) : way.cut false n d * 2 ^ d ≤ n ∧ n < (way.cut false n d + 1) * 2 ^ d := by
  rw [cut_dz hw, Nat.one_shiftLeft]
  by_cases h : d ≤ n.log2 + 2
  · rw [Nat.min_eq_left h]
    have hp : 0 < 2 ^ d := Nat.two_pow_pos _
    exact ⟨Nat.div_mul_le_self _ _, by rw [Nat.add_mul, Nat.one_mul]; exact Nat.lt_div_mul_add hp⟩
  · rw [Nat.min_eq_right (by omega)]
    have h1 : n < 2 ^ (n.log2 + 2) := Nat.lt_of_lt_of_le Nat.lt_log2_self (Nat.pow_le_pow_right (by omega) (by omega))
    have h2 : n < 2 ^ d := Nat.lt_of_lt_of_le h1 (Nat.pow_le_pow_right (by omega) (by omega))
    rw [Nat.div_eq_of_lt h1]
    omega

/-- The whole part of a number from 0 on. -/
theorem trunc_val {k : FloatKind} {x : Nat} (hx : fnum k x) (h0 : 0 ≤ fv k x) :
    ∃ (s : Bool) (c : Nat), (c : Rat) ≤ fv k x ∧ fv k x < (c : Rat) + 1 ∧ (s = true → c = 0) ∧ ∀ way, way = .down ∨ way = .zero → (k.decode x).integral way = .number s c 0 := by
  obtain ⟨s, m, p, hr⟩ := hx
  have hv : fv k x = sg s * m * pw p := by
    show dv (k.format.read x) = _
    rw [hr]
    rfl
  have hd : k.decode x = .number s m p := hr
  cases s with
  | true =>
    have hm : m = 0 := by
      refine Classical.byContradiction fun hm => ?_
      have hp := pw_pos p
      have hm1 : (1 : Rat) ≤ (m : Rat) := by
        have : ((1 : Nat) : Rat) ≤ (m : Rat) := Rat.natCast_le_natCast.2 (by omega)
        simpa using this
      have h3 : (0 : Rat) < (m : Rat) * pw p := Rat.mul_pos (by grind) hp
      rw [hv] at h0
      simp only [sg, if_true] at h0
      grind
    subst hm
    have e0 : fv k x = 0 := by rw [hv]; simp
    have e1 : ((0 : Nat) : Rat) = 0 := by simp
    refine ⟨true, 0, ?_, ?_, fun _ => rfl, fun way hw => ?_⟩
    · rw [e0, e1]; exact Rat.le_refl
    · rw [e0, e1]; grind
    · rw [hd]
      simp only [Datum.integral, Nat.zero_shiftLeft, cut_zero hw]
  | false =>
    refine ⟨false, Toward.down.cut false (m <<< p.toNat) (-p).toNat, ?_, ?_, (fun h => by cases h), fun way hw => ?_⟩
    rotate_left 2
    · rw [hd]
      simp only [Datum.integral, cut_dz hw, cut_dz (.inl rfl)]
    all_goals
      obtain ⟨b1, b2⟩ := cut_bounds (way := .down) (.inl rfl) (m <<< p.toNat) (-p).toNat
      generalize Toward.down.cut false (m <<< p.toNat) (-p).toNat = c at *
      have hpp : pw p * pw ((-p).toNat : Int) = pw (p.toNat : Int) := by
        rw [← pw_add]
        congr 1
        omega
      have hn : ((m <<< p.toNat : Nat) : Rat) = (m : Rat) * pw (p.toNat : Int) := by
        rw [Nat.shiftLeft_eq, Rat.natCast_mul, pw_nat]
      have hpos := pw_pos ((-p).toNat : Int)
      have c1 : ((c * 2 ^ (-p).toNat : Nat) : Rat) ≤ ((m <<< p.toNat : Nat) : Rat) := Rat.natCast_le_natCast.2 b1
      have c2 : ((m <<< p.toNat : Nat) : Rat) < (((c + 1) * 2 ^ (-p).toNat : Nat) : Rat) := Rat.natCast_lt_natCast.2 b2
      rw [Rat.natCast_mul, ← pw_nat, hn, ← hpp] at c1 c2
      have hv1 : fv k x = (m : Rat) * pw p := by rw [hv]; simp only [sg, Bool.false_eq_true, if_false]; grind
      rw [hv1]
      have e1 : (m : Rat) * (pw p * pw ((-p).toNat : Int)) = ((m : Rat) * pw p) * pw ((-p).toNat : Int) := by grind
      rw [e1] at c1 c2
    · exact Rat.le_of_mul_le_mul_right c1 hpos
    · refine Rat.not_le.1 fun hle => ?_
      have := Rat.mul_le_mul_of_nonneg_right hle (Rat.le_of_lt hpos)
      have h4 : ((c + 1 : Nat) : Rat) = (c : Rat) + 1 := by simp
      rw [h4] at c2
      grind

theorem rep_nat {k : FloatKind} {c : Nat} (hc : c ≤ 16777216) : rep k.format (c : Rat) := by
  have hp : 16777216 ≤ 2 ^ (k.format.fractionBits + 1) := by cases k <;> decide
  have h := rep_int (f := k.format) (lp0 k) (n := (c : Int)) (Int.le_trans (Int.neg_nonpos_of_nonneg (Int.natCast_nonneg _)) (Int.natCast_nonneg _)) (Int.ofNat_le.2 (Nat.le_trans hc hp))
  rw [Rat.intCast_natCast] at h
  exact h

/-- A whole number's float. -/
theorem nat_float {k : FloatKind} {c : Nat} (hc : c ≤ 16777216) (s : Bool) (hs : s = true → c = 0) : fnum k (k.format.write (.number s c 0)) ∧ fv k (k.format.write (.number s c 0)) = c := by
  have hv : sg s * (c : Rat) * pw 0 = (c : Rat) := by
    rw [pw_zero]
    cases s with
    | true => rw [hs rfl]; simp
    | false => simp [sg]
  have ht := tp_ge k
  have hcb : (c : Rat) ≤ 16777216 := by
    have : (c : Rat) ≤ ((16777216 : Nat) : Rat) := Rat.natCast_le_natCast.2 hc
    simpa using this
  have hc0 : (0 : Rat) ≤ (c : Rat) := by
    have : ((0 : Nat) : Rat) ≤ (c : Rat) := Rat.natCast_le_natCast.2 (by omega)
    simpa using this
  have hr := number_rnd (eb_ok k) hv (show (c : Rat) < pw (topE k.format) from by show (c : Rat) < tp k; grind) (show -pw (topE k.format) < (c : Rat) from by show -tp k < (c : Rat); grind)
  refine ⟨hr.num, hr.exact ?_⟩
  have h2 := rep_nat (k := k) hc
  exact h2

/-- The whole part of a float. -/
theorem floor_val {x : Nat} (hx : fnum .f64 x) (h0 : 0 ≤ fv .f64 x) (h1 : fv .f64 x ≤ 1000000) :
    ∃ c : Nat, (c : Rat) ≤ fv .f64 x ∧ fv .f64 x < (c : Rat) + 1 ∧ c ≤ 1000000 ∧ fnum .f64 (wholeF .down x) ∧ fv .f64 (wholeF .down x) = c := by
  obtain ⟨s, c, a1, a2, a3, a4⟩ := trunc_val hx h0
  have hc : c ≤ 1000000 := by
    refine Nat.le_of_not_lt fun h => ?_
    have : ((1000001 : Nat) : Rat) ≤ (c : Rat) := Rat.natCast_le_natCast.2 h
    have h3 : ((1000001 : Nat) : Rat) = 1000001 := by simp
    rw [h3] at this
    grind
  refine ⟨c, a1, a2, hc, ?_⟩
  unfold wholeF
  rw [a4 _ (.inl rfl)]
  exact nat_float (k := .f64) (by omega) s a3

theorem numF_ok {x : Nat} (hx : fnum .f64 x) : numF x = true := by
  obtain ⟨s, m, p, hr⟩ := hx
  unfold numF FloatKind.decode
  rw [hr]
  rfl

theorem f2i_val {k : FloatKind} {x n : Nat} (hx : fnum k x) (h : fv k x = (n : Rat)) : f2i k x = n ∧ ∀ d : IntKind, d.min ≤ 0 → (n : Int) ≤ d.max → f2iok k x d = true := by
  have h0 : (0 : Rat) ≤ (n : Rat) := by
    have : ((0 : Nat) : Rat) ≤ (n : Rat) := Rat.natCast_le_natCast.2 (by omega)
    simpa using this
  obtain ⟨s, c, a1, a2, a3, a4⟩ := trunc_val hx (by rw [h]; exact h0)
  rw [h] at a1 a2
  have hc : c = n := by
    have b1 : c ≤ n := Rat.natCast_le_natCast.1 a1
    have b2 : n < c + 1 := by
      refine Nat.lt_of_not_le fun hle => ?_
      have : ((c + 1 : Nat) : Rat) ≤ (n : Rat) := Rat.natCast_le_natCast.2 hle
      have h4 : ((c + 1 : Nat) : Rat) = (c : Rat) + 1 := by simp
      rw [h4] at this
      grind
    omega
  subst hc
  have hi : (k.decode x).toInt .zero = some (c : Int) := by
    unfold Datum.toInt
    rw [a4 _ (.inr rfl)]
    cases s with
    | true => rw [a3 rfl]; rfl
    | false => simp [signed]
  refine ⟨by unfold f2i; rw [hi]; rfl, fun d h1 h2 => ?_⟩
  unfold f2iok
  rw [hi]
  simp only [Bool.and_eq_true, decide_eq_true_eq]
  exact ⟨by omega, h2⟩

theorem fmax_val {k : FloatKind} {x y : Nat} (hx : fnum k x) (hy : fnum k y) : fnum k (fmax k x y) ∧ ((fv k x ≤ fv k y ∧ fv k (fmax k x y) = fv k y) ∨ (fv k y ≤ fv k x ∧ fv k (fmax k x y) = fv k x)) := by
  obtain ⟨h1, h2, h3, h4⟩ := order_val hx hy
  unfold fmax
  cases ho : k.format.order x y with
  | none => rw [ho] at h4; cases h4
  | some o =>
    cases o with
    | lt => exact ⟨hy, .inl ⟨Rat.le_of_lt (h1.1 ho), rfl⟩⟩
    | gt => exact ⟨hx, .inr ⟨Rat.le_of_lt (h3.1 ho), rfl⟩⟩
    | eq =>
      have he : fv k x = fv k y := h2.1 ho
      simp only
      split
      · exact ⟨hy, .inl ⟨by rw [he]; exact Rat.le_refl, rfl⟩⟩
      · exact ⟨hx, .inr ⟨by rw [he]; exact Rat.le_refl, rfl⟩⟩

theorem fmin_val {k : FloatKind} {x y : Nat} (hx : fnum k x) (hy : fnum k y) : fnum k (fmin k x y) ∧ ((fv k x ≤ fv k y ∧ fv k (fmin k x y) = fv k x) ∨ (fv k y ≤ fv k x ∧ fv k (fmin k x y) = fv k y)) := by
  obtain ⟨h1, h2, h3, h4⟩ := order_val hx hy
  unfold fmin
  cases ho : k.format.order x y with
  | none => rw [ho] at h4; cases h4
  | some o =>
    cases o with
    | lt => exact ⟨hx, .inl ⟨Rat.le_of_lt (h1.1 ho), rfl⟩⟩
    | gt => exact ⟨hy, .inr ⟨Rat.le_of_lt (h3.1 ho), rfl⟩⟩
    | eq =>
      have he : fv k x = fv k y := h2.1 ho
      simp only
      split
      · exact ⟨hx, .inl ⟨by rw [he]; exact Rat.le_refl, rfl⟩⟩
      · exact ⟨hy, .inr ⟨by rw [he]; exact Rat.le_refl, rfl⟩⟩

theorem lt_iff {k : FloatKind} {x y : Nat} (hx : fnum k x) (hy : fnum k y) : (k.format.order x y == some .lt) = true ↔ fv k x < fv k y := by
  rw [beq_iff_eq]; exact (order_val hx hy).1

theorem le_iff {k : FloatKind} {x y : Nat} (hx : fnum k x) (hy : fnum k y) : (k.format.order x y == some .lt || k.format.order x y == some .eq) = true ↔ fv k x ≤ fv k y := by
  obtain ⟨h1, h2, h3, h4⟩ := order_val hx hy
  rw [Bool.or_eq_true, beq_iff_eq, beq_iff_eq, h1, h2]
  constructor
  · rintro (h | h)
    · exact Rat.le_of_lt h
    · show vl k.format x ≤ vl k.format y
      rw [h]; exact Rat.le_refl
  · intro h
    by_cases he : vl k.format x = vl k.format y
    · exact .inr he
    · exact .inl (by show vl k.format x < vl k.format y; have : vl k.format x ≤ vl k.format y := h; grind)

/-- What lies between two numbers is one. -/
theorem num_between {k : FloatKind} {x a b : Nat} (ha : fnum k a) (hb : fnum k b) (h1 : (k.format.order x a == some .gt || k.format.order x a == some .eq) = true) (h2 : (k.format.order x b == some .lt || k.format.order x b == some .eq) = true) :
    fnum k x ∧ fv k a ≤ fv k x ∧ fv k x ≤ fv k b := by
  obtain ⟨sa, ma, pa, ra⟩ := ha
  obtain ⟨sb, mb, pb, rb⟩ := hb
  have hx : fnum k x := by
    cases hr : k.format.read x with
    | number s m p => exact ⟨s, m, p, hr⟩
    | infinity s =>
      exfalso
      unfold Format.order at h1 h2
      rw [hr, ra] at h1
      rw [hr, rb] at h2
      cases s with
      | true => simp [Datum.order] at h1
      | false => simp [Datum.order] at h2
    | nan s t =>
      exfalso
      unfold Format.order at h1
      rw [hr] at h1
      simp [Datum.order] at h1
  refine ⟨hx, ?_, (le_iff hx ⟨sb, mb, pb, rb⟩).1 h2⟩
  obtain ⟨g1, g2, g3, g4⟩ := order_val hx (⟨sa, ma, pa, ra⟩ : fnum k a)
  rw [Bool.or_eq_true, beq_iff_eq, beq_iff_eq, g3, g2] at h1
  rcases h1 with h | h
  · exact Rat.le_of_lt h
  · show vl k.format a ≤ vl k.format x
    rw [h]; exact Rat.le_refl

/-- The float of a whole number written out. -/
theorem cst {k : FloatKind} (n : Nat) {b : Nat} (h : k.nearest (n : Int) = b) (hn : n ≤ 16777216) : fnum k b ∧ fv k b = (n : Rat) := by
  have h0 : k.nearest (n : Int) = k.format.write (.number false n 0) := by
    unfold FloatKind.nearest FloatKind.encode
    rw [decide_eq_false (by omega), Int.natAbs_natCast]
  rw [← h, h0]
  exact nat_float hn false (fun e => by cases e)

/-- A rounded number lies between whole numbers that it lies between. -/
theorem rnd_nat {k : FloatKind} {r : Nat} {v : Rat} (h : Rnd k.format r v) {a b : Nat} (ha : a ≤ 16777216) (hb : b ≤ 16777216) (h1 : (a : Rat) ≤ v) (h2 : v ≤ (b : Rat)) : (a : Rat) ≤ fv k r ∧ fv k r ≤ (b : Rat) := by
  exact ⟨h.ge _ (rep_nat ha) h1, h.le _ (rep_nat hb) h2⟩
end Sm
