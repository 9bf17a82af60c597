/-
  What is proved here: floats of the model by what they stand for: each operation on numbers gives the exact result, rounded (what it is off; that no number of the format is passed). Plain Lean; nothing of a program. A text to be imported.
-/
import Ieee.Arith
namespace Fl
open Ieee
def pw (e : Int) : Rat := (2 : Rat) ^ e
theorem pw_pos (e : Int) : 0 < pw e := Rat.zpow_pos (by decide)
theorem pw_add (a b : Int) : pw (a + b) = pw a * pw b := Rat.zpow_add (by decide) a b
theorem pw_nat (n : Nat) : pw (n : Int) = ((2 ^ n : Nat) : Rat) := by
  unfold pw
  rw [Rat.zpow_natCast, Rat.natCast_pow]
  rfl
theorem pw_zero : pw 0 = 1 := by
  have := pw_nat 0
  simpa using this
theorem pw_one : pw 1 = 2 := by
  have := pw_nat 1
  simpa using this
theorem pw_succ (e : Int) : pw (e + 1) = 2 * pw e := by rw [pw_add, pw_one]; grind
theorem pw_neg (e : Int) : pw (-e) * pw e = 1 := by rw [← pw_add, Int.add_left_neg, pw_zero]
theorem pw_mono {a b : Int} (h : a ≤ b) : pw a ≤ pw b := by
  obtain ⟨n, hn⟩ : ∃ n : Nat, b = a + n := ⟨(b - a).toNat, by omega⟩
  subst hn
  rw [pw_add, pw_nat]
  have h1 : (1 : Rat) ≤ ((2 ^ n : Nat) : Rat) := by
    have : 1 ≤ 2 ^ n := Nat.one_le_two_pow
    exact_mod_cast this
  have := Rat.mul_le_mul_of_nonneg_left h1 (Rat.le_of_lt (pw_pos a))
  rwa [Rat.mul_one] at this
/-! ### cutting -/
theorem log2_le {n : Nat} (h : n ≠ 0) : 2 ^ n.log2 ≤ n := Nat.log2_self_le h
theorem lt_log2 (n : Nat) : n < 2 ^ (n.log2 + 1) := Nat.lt_log2_self
theorem cut_even (neg : Bool) (n drop : Nat) :
    2 * n ≤ 2 * (Toward.even.cut neg n drop * 2 ^ drop) + 2 ^ drop ∧ 2 * (Toward.even.cut neg n drop * 2 ^ drop) ≤ 2 * n + 2 ^ drop := by
  unfold Toward.cut
  by_cases h : drop ≤ n.log2 + 2
  · simp only [Nat.min_eq_left h, Nat.one_shiftLeft]
    have hpos : 0 < 2 ^ drop := Nat.two_pow_pos _
    generalize hG : 2 ^ drop = G at *
    have hdm := Nat.div_add_mod n G
    have hlt := Nat.mod_lt n hpos
    rw [Nat.mul_comm] at hdm
    generalize hq : n / G = q at *
    generalize hr : n % G = r at *
    have e0 : (q + 0) * G = q * G := by rw [Nat.add_zero]
    have e1 : (q + 1) * G = q * G + G := by rw [Nat.add_mul, Nat.one_mul]
    cases hm : (decide (G < 2 * r) || G == 2 * r && q % 2 == 1) with
    | false =>
      simp only [Bool.toNat_false, e0]
      simp only [Bool.or_eq_false_iff, decide_eq_false_iff_not] at hm
      omega
    | true =>
      simp only [Bool.toNat_true, e1]
      simp only [Bool.or_eq_true, decide_eq_true_eq, Bool.and_eq_true, beq_iff_eq] at hm
      omega
  · have h' : n.log2 + 2 ≤ drop := by omega
    simp only [Nat.min_eq_right h', Nat.one_shiftLeft]
    have h1 := lt_log2 n
    have h2 : 2 ^ (n.log2 + 2) = 2 * 2 ^ (n.log2 + 1) := by rw [Nat.pow_succ]; omega
    have h3 : 2 ^ (n.log2 + 2) ≤ 2 ^ drop := Nat.pow_le_pow_right (by decide) h'
    have hq : n / 2 ^ (n.log2 + 2) = 0 := Nat.div_eq_of_lt (by omega)
    have hr : n % 2 ^ (n.log2 + 2) = n := Nat.mod_eq_of_lt (by omega)
    rw [hq, hr]
    have hm : (decide (2 ^ (n.log2 + 2) < 2 * n) || 2 ^ (n.log2 + 2) == 2 * n && 0 % 2 == 1) = false := by
      simp
      omega
    simp only [hm, Bool.toNat_false]
    omega
theorem cut_le {neg : Bool} {n drop m : Nat} (h : n ≤ m * 2 ^ drop) : Toward.even.cut neg n drop ≤ m := by
  obtain ⟨h1, h2⟩ := cut_even neg n drop
  refine Nat.le_of_not_lt fun hlt => ?_
  have h3 : (m + 1) * 2 ^ drop ≤ Toward.even.cut neg n drop * 2 ^ drop := Nat.mul_le_mul_right _ hlt
  rw [Nat.add_mul, Nat.one_mul] at h3
  have := Nat.two_pow_pos drop
  omega
theorem le_cut {neg : Bool} {n drop m : Nat} (h : m * 2 ^ drop ≤ n) : m ≤ Toward.even.cut neg n drop := by
  obtain ⟨h1, h2⟩ := cut_even neg n drop
  refine Nat.le_of_not_lt fun hlt => ?_
  have h3 : (Toward.even.cut neg n drop + 1) * 2 ^ drop ≤ m * 2 ^ drop := Nat.mul_le_mul_right _ hlt
  rw [Nat.add_mul, Nat.one_mul] at h3
  have := Nat.two_pow_pos drop
  omega
/-! ### words and their values -/
def sg (neg : Bool) : Rat := if neg then -1 else 1
def dv : Datum → Rat
  | .number s m p => sg s * m * pw p
  | _ => 0
def isNum : Datum → Bool
  | .number .. => true
  | _ => false
def rv (f : Format) (r : Nat) : Rat :=
  if r < f.binade then (r : Rat) * pw f.leastPlace else ((f.binade + r % f.binade : Nat) : Rat) * pw (f.leastPlace + (r / f.binade - 1 : Nat))
theorem binade_pos (f : Format) : 0 < f.binade := Nat.two_pow_pos _
theorem inf_binade (f : Format) : f.infRung + f.binade = f.signWeight := by
  have h : 0 < 2 ^ f.exponentBits := Nat.two_pow_pos _
  unfold Format.infRung Format.signWeight
  rw [Nat.pow_add, ← Nat.succ_mul]
  exact congrArg (· * f.binade) (by omega)
theorem read_word (f : Format) (neg : Bool) {r : Nat} (h : r < f.infRung) :
    ∃ m p, f.read (f.word neg r) = .number neg m p ∧ (m : Rat) * pw p = rv f r := by
  have hib := inf_binade f
  have hb := binade_pos f
  have hs : r < f.signWeight := by omega
  have h1 : f.word neg r / f.signWeight % 2 = (if neg then 1 else 0) := by
    unfold Format.word
    cases neg with
    | true =>
      rw [if_pos rfl, if_pos rfl, Nat.add_comm, Nat.add_div_right _ (by omega), Nat.div_eq_of_lt hs]
    | false => simp only [Bool.false_eq_true, if_false, Nat.div_eq_of_lt hs, Nat.zero_mod]
  have h2 : f.word neg r % f.signWeight = r := by
    unfold Format.word
    cases neg with
    | true => rw [if_pos rfl, Nat.add_mod_left, Nat.mod_eq_of_lt hs]
    | false => simp only [Bool.false_eq_true, if_false, Nat.mod_eq_of_lt hs]
  unfold Format.read
  simp only [h1, h2]
  have hneg : ((if neg = true then 1 else 0) == 1) = neg := by cases neg <;> rfl
  rw [hneg]
  unfold rv
  by_cases hr : r < f.binade
  · rw [if_pos hr, if_pos hr]
    exact ⟨_, _, rfl, rfl⟩
  · rw [if_neg hr, if_pos h, if_neg hr]
    exact ⟨_, _, rfl, rfl⟩
theorem rv_split (f : Format) (k c : Nat) (hc : c ≤ 2 * f.binade) (hk : k = 0 ∨ f.binade ≤ c) : rv f (k * f.binade + c) = (c : Rat) * pw (f.leastPlace + k) := by
  have hb := binade_pos f
  unfold rv
  generalize f.binade = B at *
  by_cases hlt : c < B
  · have hk0 : k = 0 := by omega
    subst hk0
    rw [if_pos (by omega)]
    simp
  · by_cases he : c = 2 * B
    · subst he
      have e1 : k * B + 2 * B = (k + 2) * B := by rw [Nat.add_mul]
      rw [e1, if_neg (by rw [Nat.add_mul]; omega), Nat.mul_mod_left, Nat.mul_div_cancel _ hb, Nat.add_zero]
      have e2 : f.leastPlace + ((k + 2 - 1 : Nat) : Int) = f.leastPlace + (k : Int) + 1 := by omega
      rw [e2, pw_succ]
      have e3 : ((2 * B : Nat) : Rat) = 2 * (B : Rat) := by
        rw [Rat.natCast_mul]; rfl
      rw [e3]
      grind
    · obtain ⟨d, rfl⟩ : ∃ d, c = B + d := ⟨c - B, by omega⟩
      have hd : d < B := by omega
      have e1 : k * B + (B + d) = (k + 1) * B + d := by rw [Nat.add_mul]; omega
      have e2 : ((k + 1) * B + d) % B = d := by rw [Nat.add_comm, Nat.add_mul_mod_self_right, Nat.mod_eq_of_lt hd]
      have e3 : ((k + 1) * B + d) / B = k + 1 := by rw [Nat.add_comm, Nat.add_mul_div_right _ _ hb, Nat.div_eq_of_lt hd]; omega
      rw [e1, if_neg (by rw [Nat.add_mul]; omega), e2, e3]
      have e4 : k + 1 - 1 = k := by omega
      rw [e4]
def lastP (f : Format) (mag : Nat) (place : Int) : Int := max (place + mag.log2 - f.fractionBits) f.leastPlace
def keptN (f : Format) (neg : Bool) (mag : Nat) (place : Int) : Nat :=
  Toward.even.cut neg (mag <<< (place - lastP f mag place).toNat) (lastP f mag place - place).toNat
theorem nearest_eq (f : Format) (neg : Bool) {mag : Nat} (place : Int) (hm : mag ≠ 0) :
    f.nearest neg mag place = f.word neg (min ((lastP f mag place - f.leastPlace).toNat * f.binade + keptN f neg mag place) f.infRung) := by
  unfold Format.nearest
  rw [if_neg hm]
  rfl
theorem kept_le (f : Format) (neg : Bool) {mag : Nat} (place : Int) : keptN f neg mag place ≤ 2 * f.binade := by
  have hl : place + mag.log2 - f.fractionBits ≤ lastP f mag place := Int.le_max_left _ _
  unfold keptN
  generalize lastP f mag place = last at *
  refine cut_le ?_
  rw [Nat.shiftLeft_eq]
  have h1 := lt_log2 mag
  have h2 : mag * 2 ^ (place - last).toNat ≤ 2 ^ (mag.log2 + 1) * 2 ^ (place - last).toNat := Nat.mul_le_mul_right _ (Nat.le_of_lt h1)
  refine Nat.le_trans h2 ?_
  have h3 : 2 * f.binade = 2 ^ (f.fractionBits + 1) := by unfold Format.binade; rw [Nat.pow_succ]; omega
  rw [h3, ← Nat.pow_add, ← Nat.pow_add]
  exact Nat.pow_le_pow_right (by decide) (by omega)
theorem le_kept (f : Format) (neg : Bool) {mag : Nat} (place : Int) (hm : mag ≠ 0) (hl : f.leastPlace < lastP f mag place) : f.binade ≤ keptN f neg mag place := by
  have hl' : lastP f mag place = place + mag.log2 - f.fractionBits := by
    unfold lastP at hl ⊢
    omega
  unfold keptN
  rw [hl']
  refine le_cut ?_
  rw [Nat.shiftLeft_eq]
  have h1 := log2_le hm
  have h2 : 2 ^ mag.log2 * 2 ^ (place - (place + mag.log2 - f.fractionBits)).toNat ≤ mag * 2 ^ (place - (place + mag.log2 - f.fractionBits)).toNat := Nat.mul_le_mul_right _ h1
  refine Nat.le_trans ?_ h2
  unfold Format.binade
  rw [← Nat.pow_add, ← Nat.pow_add]
  exact Nat.pow_le_pow_right (by decide) (by omega)
theorem kept_err (f : Format) (neg : Bool) {mag : Nat} (place : Int) :
    2 * ((mag : Rat) * pw place) ≤ 2 * ((keptN f neg mag place : Rat) * pw (lastP f mag place)) + pw (lastP f mag place) ∧
    2 * ((keptN f neg mag place : Rat) * pw (lastP f mag place)) ≤ 2 * ((mag : Rat) * pw place) + pw (lastP f mag place) := by
  unfold keptN
  generalize lastP f mag place = last
  obtain ⟨h1, h2⟩ := cut_even neg (mag <<< (place - last).toNat) (last - place).toNat
  generalize Toward.even.cut neg (mag <<< (place - last).toNat) (last - place).toNat = c at *
  rw [Nat.shiftLeft_eq] at h1 h2
  generalize ha : (place - last).toNat = a at *
  generalize hb : (last - place).toNat = b at *
  -- everything in units of the place (last - b)
  have e1 : pw place = ((2 ^ a : Nat) : Rat) * pw (last - b) := by
    rw [← pw_nat, ← pw_add]
    congr 1
    omega
  have e2 : pw last = ((2 ^ b : Nat) : Rat) * pw (last - b) := by
    rw [← pw_nat, ← pw_add]
    congr 1
    omega
  have hp := pw_pos (last - b)
  generalize pw (last - b) = q at *
  rw [e1, e2]
  have c1 : (2 : Rat) * ((mag * 2 ^ a : Nat) : Rat) ≤ 2 * ((c * 2 ^ b : Nat) : Rat) + ((2 ^ b : Nat) : Rat) := by exact_mod_cast h1
  have c2 : (2 : Rat) * ((c * 2 ^ b : Nat) : Rat) ≤ 2 * ((mag * 2 ^ a : Nat) : Rat) + ((2 ^ b : Nat) : Rat) := by exact_mod_cast h2
  rw [Rat.natCast_mul, Rat.natCast_mul] at c1 c2
  generalize ((2 ^ a : Nat) : Rat) = A at *
  generalize ((2 ^ b : Nat) : Rat) = D at *
  have d1 := Rat.mul_le_mul_of_nonneg_right c1 (Rat.le_of_lt hp)
  have d2 := Rat.mul_le_mul_of_nonneg_right c2 (Rat.le_of_lt hp)
  constructor <;> grind
def topE (f : Format) : Int := f.leastPlace + f.fractionBits + 2 ^ f.exponentBits - 3
theorem log_lt {mag : Nat} {place E : Int} (hm : mag ≠ 0) (h : (mag : Rat) * pw place < pw E) : place + mag.log2 < E := by
  refine Int.lt_of_not_ge fun hge => ?_
  have h1 : pw E ≤ pw (mag.log2 + place) := pw_mono (by omega)
  have h2 : (2 ^ mag.log2 : Nat) ≤ mag := log2_le hm
  have h3 : ((2 ^ mag.log2 : Nat) : Rat) ≤ (mag : Rat) := by exact_mod_cast h2
  have h4 := Rat.mul_le_mul_of_nonneg_right h3 (Rat.le_of_lt (pw_pos place))
  rw [pw_add, pw_nat] at h1
  grind
theorem last_le {f : Format} {mag : Nat} {place : Int} (hm : mag ≠ 0) : pw (lastP f mag place) ≤ pw f.leastPlace + (mag : Rat) * pw place * pw (-f.fractionBits) := by
  have hpos : 0 ≤ (mag : Rat) * pw place * pw (-f.fractionBits) :=
    Rat.mul_nonneg (Rat.mul_nonneg (by exact_mod_cast Nat.zero_le mag) (Rat.le_of_lt (pw_pos _))) (Rat.le_of_lt (pw_pos _))
  unfold lastP
  by_cases h : place + mag.log2 - f.fractionBits ≤ f.leastPlace
  · rw [Int.max_eq_right h]
    grind
  · rw [Int.max_eq_left (by omega)]
    have h2 : (2 ^ mag.log2 : Nat) ≤ mag := log2_le hm
    have h3 : ((2 ^ mag.log2 : Nat) : Rat) ≤ (mag : Rat) := by exact_mod_cast h2
    have h4 := Rat.mul_le_mul_of_nonneg_right h3 (Rat.le_of_lt (pw_pos place))
    have h5 := Rat.mul_le_mul_of_nonneg_right h4 (Rat.le_of_lt (pw_pos (-f.fractionBits)))
    have e : pw (place + mag.log2 - f.fractionBits) = ((2 ^ mag.log2 : Nat) : Rat) * pw place * pw (-f.fractionBits) := by
      rw [← pw_nat, ← pw_add, ← pw_add]
      congr 1
      omega
    rw [e]
    have := pw_pos f.leastPlace
    grind
def uU (f : Format) : Rat := pw (-(f.fractionBits + 1))
def eta (f : Format) : Rat := pw (f.leastPlace - 1)
theorem four_le {f : Format} (he : 2 ≤ f.exponentBits) : 4 ≤ 2 ^ f.exponentBits := by
  have := Nat.pow_le_pow_right (show 0 < 2 by decide) he
  exact this
theorem inf_eq (f : Format) : f.infRung = (2 ^ f.exponentBits - 1) * f.binade := rfl
theorem nearest_val {f : Format} (he : 2 ≤ f.exponentBits) (neg : Bool) (mag : Nat) (place : Int) (h : (mag : Rat) * pw place < pw (topE f)) :
    ∃ m p, f.read (f.nearest neg mag place) = .number neg m p ∧ (m : Rat) * pw p - (mag : Rat) * pw place ≤ (mag : Rat) * pw place * uU f + eta f ∧
      (mag : Rat) * pw place - (m : Rat) * pw p ≤ (mag : Rat) * pw place * uU f + eta f ∧ (mag = 0 → (m : Rat) * pw p = 0) := by
  have h4 := four_le he
  have hb := binade_pos f
  by_cases hm : mag = 0
  · subst hm
    have hi : 0 < f.infRung := by
      rw [inf_eq]
      exact Nat.mul_pos (by omega) hb
    obtain ⟨m, p, h1, h2⟩ := read_word f neg hi
    have hz : rv f 0 = 0 := by
      have := rv_split f 0 0 (by omega) (.inl rfl)
      simp at this
      exact this
    rw [hz] at h2
    have e0 : ((0 : Nat) : Rat) * pw place = 0 := by simp
    have he0 : 0 < eta f := pw_pos _
    refine ⟨m, p, ?_, ?_, ?_, fun _ => h2⟩
    · unfold Format.nearest
      rw [if_pos rfl]
      exact h1
    · rw [e0, h2]; grind
    · rw [e0, h2]; grind
  · have hlog := log_lt hm h
    rw [nearest_eq f neg place hm]
    have hk1 := kept_le f neg (mag := mag) place
    have hk2 := le_kept f neg place hm
    obtain ⟨e1, e2⟩ := kept_err f neg (mag := mag) place
    have hll := last_le (f := f) (place := place) hm
    have hlast : f.leastPlace ≤ lastP f mag place := Int.le_max_right _ _
    have hE : ((2 : Int) ^ f.exponentBits) = ((2 ^ f.exponentBits : Nat) : Int) := by simp
    have htop : lastP f mag place < f.leastPlace + (2 ^ f.exponentBits : Nat) - 3 := by
      unfold topE at hlog
      rw [hE] at hlog
      unfold lastP
      omega
    generalize hkk : (lastP f mag place - f.leastPlace).toNat = k
    have hkl : f.leastPlace + (k : Int) = lastP f mag place := by omega
    have hinf : k * f.binade + keptN f neg mag place < f.infRung := by
      rw [inf_eq]
      have a1 : k + 2 < 2 ^ f.exponentBits - 1 := by omega
      have a2 : (k + 2 + 1) * f.binade ≤ (2 ^ f.exponentBits - 1) * f.binade := Nat.mul_le_mul_right _ (by omega)
      rw [Nat.add_mul, Nat.add_mul] at a2
      omega
    rw [Nat.min_eq_left (Nat.le_of_lt hinf)]
    obtain ⟨m, p, h1, h2⟩ := read_word f neg hinf
    rw [rv_split f k _ hk1 (by
      by_cases hk0 : k = 0
      · exact .inl hk0
      · exact .inr (hk2 (by omega))), hkl] at h2
    have hu : pw (lastP f mag place) ≤ 2 * eta f + 2 * ((mag : Rat) * pw place * uU f) := by
      have u1 : 2 * eta f = pw f.leastPlace := by
        unfold eta
        rw [← pw_succ]
        congr 1
        omega
      have u2 : 2 * uU f = pw (-f.fractionBits) := by
        unfold uU
        rw [← pw_succ]
        congr 1
        omega
      rw [← u2] at hll
      rw [u1]
      generalize pw (lastP f mag place) = a at *
      generalize pw f.leastPlace = b at *
      generalize (mag : Rat) * pw place = d at *
      grind
    refine ⟨m, p, h1, ?_, ?_, fun e => absurd e hm⟩
    · rw [h2]; grind
    · rw [h2]; grind
/-! ### the operations -/
def num (f : Format) (x : Nat) : Prop := ∃ s m p, f.read x = .number s m p
def vl (f : Format) (x : Nat) : Rat := dv (f.read x)
theorem sg_signed (s : Bool) (m k : Nat) : ((signed s m k : Int) : Rat) = sg s * m * ((2 ^ k : Nat) : Rat) := by
  unfold signed sg
  rw [Nat.shiftLeft_eq]
  cases s with
  | true =>
    simp only [if_true]
    have : (((-((m * 2 ^ k : Nat) : Int)) : Int) : Rat) = -((m * 2 ^ k : Nat) : Rat) := by push_cast; rfl
    rw [this, Rat.natCast_mul]
    grind
  | false =>
    simp only [Bool.false_eq_true, if_false]
    have : ((((m * 2 ^ k : Nat) : Int)) : Rat) = ((m * 2 ^ k : Nat) : Rat) := by push_cast; rfl
    rw [this, Rat.natCast_mul]
    grind
theorem sg_natAbs (t : Int) (b : Bool) (hb : b = (if t = 0 then b else decide (t < 0))) : sg b * (t.natAbs : Rat) = (t : Rat) := by
  unfold sg
  by_cases h0 : t = 0
  · subst h0
    simp
  · rw [if_neg h0] at hb
    have hc : ((t.natAbs : Nat) : Rat) = ((t.natAbs : Int) : Rat) := by push_cast; rfl
    rw [hc]
    by_cases h : t < 0
    · rw [hb, decide_eq_true h, if_pos rfl, show (t.natAbs : Int) = -t from by omega]
      push_cast
      grind
    · rw [hb, decide_eq_false h, show (t.natAbs : Int) = t from by omega]
      simp
theorem write_val {f : Format} (he : 2 ≤ f.exponentBits) (s : Bool) (m : Nat) (p : Int) {v c : Rat} (hv : sg s * m * pw p = v) (h1 : v ≤ c) (h2 : -c ≤ v) (hc : c < pw (topE f)) :
    num f (f.write (.number s m p)) ∧ vl f (f.write (.number s m p)) - v ≤ c * uU f + eta f ∧ v - vl f (f.write (.number s m p)) ≤ c * uU f + eta f := by
  have habs : (m : Rat) * pw p ≤ c := by
    unfold sg at hv
    split at hv <;> grind
  obtain ⟨m', p', hr, e1, e2, _⟩ := nearest_val he s m p (by grind)
  have hu : 0 < uU f := pw_pos _
  have hmul := Rat.mul_le_mul_of_nonneg_right habs (Rat.le_of_lt hu)
  have hvl : vl f (f.write (.number s m p)) = sg s * m' * pw p' := by
    unfold vl Format.write
    rw [hr]
    rfl
  refine ⟨⟨s, m', p', hr⟩, ?_, ?_⟩
  · rw [hvl, ← hv]
    unfold sg
    split <;> grind
  · rw [hvl, ← hv]
    unfold sg
    split <;> grind
theorem sum_val {x y : Datum} (hx : isNum x = true) (hy : isNum y = true) : ∃ s m p, x.sum y = some (.number s m p) ∧ sg s * m * pw p = dv x + dv y := by
  cases x with
  | number s m i =>
    cases y with
    | number t n j =>
      simp only [Datum.sum]
      refine ⟨_, _, _, rfl, ?_⟩
      generalize hT : signed s m (i - min i j).toNat + signed t n (j - min i j).toNat = T
      rw [sg_natAbs T _ (by by_cases h : T = 0 <;> simp [h])]
      rw [← hT]
      push_cast
      rw [sg_signed, sg_signed]
      have q1 : pw i = ((2 ^ (i - min i j).toNat : Nat) : Rat) * pw (min i j) := by
        rw [← pw_nat, ← pw_add]
        congr 1
        have : min i j ≤ i := Int.min_le_left _ _
        omega
      have q2 : pw j = ((2 ^ (j - min i j).toNat : Nat) : Rat) * pw (min i j) := by
        rw [← pw_nat, ← pw_add]
        congr 1
        have : min i j ≤ j := Int.min_le_right _ _
        omega
      simp only [dv]
      rw [q1, q2]
      grind
    | _ => cases hy
  | _ => cases hx
theorem prod_val {x y : Datum} (hx : isNum x = true) (hy : isNum y = true) : ∃ s m p, x.product y = some (.number s m p) ∧ sg s * m * pw p = dv x * dv y := by
  cases x with
  | number s m i =>
    cases y with
    | number t n j =>
      refine ⟨_, _, _, rfl, ?_⟩
      simp only [dv]
      rw [pw_add, Rat.natCast_mul]
      have : sg (s ^^ t) = sg s * sg t := by cases s <;> cases t <;> simp [sg] <;> grind
      rw [this]
      grind
    | _ => cases hy
  | _ => cases hx
theorem num_is {f : Format} {x : Nat} (h : num f x) : isNum (f.read x) = true := by
  obtain ⟨s, m, p, h⟩ := h
  rw [h]
  rfl
theorem opp_val {x : Datum} : isNum x.opposite = isNum x ∧ dv x.opposite = -dv x := by
  cases x with
  | number s m p => cases s <;> simp [Datum.opposite, isNum, dv, sg] <;> grind
  | infinity s => simp [Datum.opposite, isNum, dv]
  | nan s t => simp [Datum.opposite, isNum, dv]
theorem sub_val {f : Format} (he : 2 ≤ f.exponentBits) {x y : Nat} (hx : num f x) (hy : num f y) {c : Rat} (h1 : vl f x - vl f y ≤ c) (h2 : -c ≤ vl f x - vl f y) (hc : c < pw (topE f)) :
    ∃ r, f.sub x y = some r ∧ num f r ∧ vl f r - (vl f x - vl f y) ≤ c * uU f + eta f ∧ (vl f x - vl f y) - vl f r ≤ c * uU f + eta f := by
  obtain ⟨o1, o2⟩ := opp_val (x := f.read y)
  obtain ⟨s, m, p, hs, hv⟩ := sum_val (num_is hx) (y := (f.read y).opposite) (by rw [o1]; exact num_is hy)
  have hv' : sg s * m * pw p = vl f x - vl f y := by rw [hv, o2]; unfold vl; grind
  obtain ⟨n1, n2, n3⟩ := write_val he s m p hv' h1 h2 hc
  exact ⟨_, by unfold Format.sub; rw [hs]; rfl, n1, n2, n3⟩
/-! ### order -/
theorem dv_scaled {s : Bool} {m : Nat} {p b : Int} (h : b ≤ p) : dv (.number s m p) = ((signed s m (p - b).toNat : Int) : Rat) * pw b := by
  rw [sg_signed]
  have q1 : pw p = ((2 ^ (p - b).toNat : Nat) : Rat) * pw b := by
    rw [← pw_nat, ← pw_add]
    congr 1
    omega
  simp only [dv]
  rw [q1]
  grind
theorem order_num {x y : Datum} (hx : isNum x = true) (hy : isNum y = true) :
    (x.order y = some .lt ↔ dv x < dv y) ∧ (x.order y = some .eq ↔ dv x = dv y) ∧ (x.order y = some .gt ↔ dv y < dv x) ∧ (x.order y).isSome = true := by
  cases x with
  | number s m i =>
    cases y with
    | number t n j =>
      have h1 := dv_scaled (s := s) (m := m) (p := i) (b := min i j) (Int.min_le_left _ _)
      have h2 := dv_scaled (s := t) (m := n) (p := j) (b := min i j) (Int.min_le_right _ _)
      simp only [Datum.order]
      generalize signed s m (i - min i j).toNat = a at *
      generalize signed t n (j - min i j).toNat = c at *
      rw [h1, h2]
      have hp := pw_pos (min i j)
      generalize pw (min i j) = q at *
      rw [Rat.mul_lt_mul_right hp, Rat.mul_lt_mul_right hp, Rat.intCast_lt_intCast, Rat.intCast_lt_intCast]
      have heq : ((a : Rat) * q = (c : Rat) * q) ↔ a = c := by
        constructor
        · intro h
          have h3 : (a : Rat) = (c : Rat) := by
            have := Rat.mul_div_cancel (a := (a : Rat)) (Rat.ne_of_gt hp)
            rw [← this, h, Rat.mul_div_cancel (Rat.ne_of_gt hp)]
          exact_mod_cast h3
        · intro h; rw [h]
      rw [heq]
      simp only [Option.some.injEq, Option.isSome_some, and_true]
      rw [Int.compare_eq_lt, Int.compare_eq_eq, Int.compare_eq_gt]
      exact ⟨Iff.rfl, Iff.rfl, Iff.rfl⟩
    | _ => cases hy
  | _ => cases hx
theorem order_val {f : Format} {x y : Nat} (hx : num f x) (hy : num f y) :
    (f.order x y = some .lt ↔ vl f x < vl f y) ∧ (f.order x y = some .eq ↔ vl f x = vl f y) ∧ (f.order x y = some .gt ↔ vl f y < vl f x) ∧ (f.order x y).isSome = true :=
  order_num (num_is hx) (num_is hy)
/-! ### quotients -/
theorem kept_odd (f : Format) (neg : Bool) {q : Nat} (place : Int) (hq : 2 ^ (f.fractionBits + 1) ≤ q) {z : Rat} (h1 : ((2 * q : Nat) : Rat) * pw place ≤ z) (h2 : z ≤ ((2 * q + 2 : Nat) : Rat) * pw place) :
    2 * z ≤ 2 * ((keptN f neg (2 * q + 1) place : Rat) * pw (lastP f (2 * q + 1) place)) + pw (lastP f (2 * q + 1) place) ∧
    2 * ((keptN f neg (2 * q + 1) place : Rat) * pw (lastP f (2 * q + 1) place)) ≤ 2 * z + pw (lastP f (2 * q + 1) place) := by
  have hlog : f.fractionBits + 2 ≤ (2 * q + 1).log2 := by
    refine (Nat.le_log2 (by omega)).2 ?_
    rw [show f.fractionBits + 2 = f.fractionBits + 1 + 1 from rfl, Nat.pow_succ]
    omega
  have hl : place + ((2 * q + 1).log2 : Nat) - f.fractionBits ≤ lastP f (2 * q + 1) place := Int.le_max_left _ _
  unfold keptN
  generalize lastP f (2 * q + 1) place = last at *
  have ha : (place - last).toNat = 0 := by omega
  rw [ha, Nat.shiftLeft_zero]
  obtain ⟨c1, c2⟩ := cut_even neg (2 * q + 1) (last - place).toNat
  generalize Toward.even.cut neg (2 * q + 1) (last - place).toNat = c at *
  obtain ⟨b, hb⟩ : ∃ b : Nat, (last - place).toNat = b + 2 := ⟨(last - place).toNat - 2, by omega⟩
  rw [hb] at c1 c2
  have e4 : 2 ^ (b + 2) = 4 * 2 ^ b := by rw [Nat.pow_add]; omega
  have e5 : c * 2 ^ (b + 2) = 4 * (c * 2 ^ b) := by rw [e4, Nat.mul_left_comm]
  rw [e5, e4] at c1 c2
  have d1 : 2 * (2 * q + 2) ≤ 2 * (4 * (c * 2 ^ b)) + 4 * 2 ^ b := by omega
  have d2 : 2 * (4 * (c * 2 ^ b)) ≤ 2 * (2 * q) + 4 * 2 ^ b := by omega
  have e2 : pw last = ((4 * 2 ^ b : Nat) : Rat) * pw place := by
    rw [← e4, ← pw_nat, ← pw_add]
    congr 1
    omega
  have hp := pw_pos place
  rw [e2]
  generalize pw place = r at *
  have r1 : (2 : Rat) * ((2 * q + 2 : Nat) : Rat) ≤ 2 * ((4 * (c * 2 ^ b) : Nat) : Rat) + ((4 * 2 ^ b : Nat) : Rat) := by exact_mod_cast d1
  have r2 : (2 : Rat) * ((4 * (c * 2 ^ b) : Nat) : Rat) ≤ 2 * ((2 * q : Nat) : Rat) + ((4 * 2 ^ b : Nat) : Rat) := by exact_mod_cast d2
  have e6 : ((4 * (c * 2 ^ b) : Nat) : Rat) = (c : Rat) * ((4 * 2 ^ b : Nat) : Rat) := by
    rw [← Rat.natCast_mul]
    congr 1
    rw [Nat.mul_left_comm]
  rw [e6] at r1 r2
  generalize ((4 * 2 ^ b : Nat) : Rat) = D at *
  have s1 := Rat.mul_le_mul_of_nonneg_right r1 (Rat.le_of_lt hp)
  have s2 := Rat.mul_le_mul_of_nonneg_right r2 (Rat.le_of_lt hp)
  constructor <;> grind
def stands (f : Format) (m : Nat) (p : Int) (z : Rat) : Prop :=
  (m : Rat) * pw p = z ∨ ∃ q, m = 2 * q + 1 ∧ 2 ^ (f.fractionBits + 1) ≤ q ∧ ((2 * q : Nat) : Rat) * pw p < z ∧ z < ((2 * q + 2 : Nat) : Rat) * pw p
theorem stands_err {f : Format} (neg : Bool) {m : Nat} {p : Int} {z : Rat} (h : stands f m p z) :
    2 * z ≤ 2 * ((keptN f neg m p : Rat) * pw (lastP f m p)) + pw (lastP f m p) ∧ 2 * ((keptN f neg m p : Rat) * pw (lastP f m p)) ≤ 2 * z + pw (lastP f m p) := by
  rcases h with rfl | ⟨q, rfl, hq, h1, h2⟩
  · exact kept_err f neg p
  · exact kept_odd f neg p hq (Rat.le_of_lt h1) (Rat.le_of_lt h2)
theorem stands_log {f : Format} {m : Nat} {p : Int} {z : Rat} (h : stands f m p z) (hm : m ≠ 0) : pw (p + m.log2) ≤ z := by
  have key : ∀ n : Nat, n ≠ 0 → pw (p + n.log2) ≤ (n : Rat) * pw p := fun n hn => by
    have h2 : (2 ^ n.log2 : Nat) ≤ n := log2_le hn
    have h3 : ((2 ^ n.log2 : Nat) : Rat) ≤ (n : Rat) := by exact_mod_cast h2
    have h4 := Rat.mul_le_mul_of_nonneg_right h3 (Rat.le_of_lt (pw_pos p))
    rw [Int.add_comm, pw_add, pw_nat]
    exact h4
  rcases h with rfl | ⟨q, rfl, hq, h1, h2⟩
  · exact key m hm
  · have hq0 : 2 * q ≠ 0 := by have := Nat.two_pow_pos (f.fractionBits + 1); omega
    have hl : (2 * q + 1).log2 = (2 * q).log2 := by
      have hq1 : 1 ≤ q := by have := Nat.two_pow_pos (f.fractionBits + 1); omega
      rw [Nat.log2_def (2 * q + 1), Nat.log2_def (2 * q), if_pos (by omega), if_pos (by omega), show (2 * q + 1) / 2 = q from by omega, show 2 * q / 2 = q from by omega]
    rw [hl]
    exact Rat.le_trans (key _ hq0) (Rat.le_of_lt h1)
theorem last_le_z {f : Format} {m : Nat} {p : Int} {z : Rat} (h : stands f m p z) (hm : m ≠ 0) : pw (lastP f m p) ≤ 2 * eta f + 2 * (z * uU f) := by
  have hl := stands_log h hm
  have hz : 0 < z := by
    have := pw_pos (p + m.log2)
    grind
  have u1 : 2 * eta f = pw f.leastPlace := by
    unfold eta
    rw [← pw_succ]
    congr 1
    omega
  have u2 : 2 * uU f = pw (-f.fractionBits) := by
    unfold uU
    rw [← pw_succ]
    congr 1
    omega
  have hu : 0 < uU f := pw_pos _
  have hzu := Rat.mul_pos hz hu
  unfold lastP
  by_cases hc : p + m.log2 - f.fractionBits ≤ f.leastPlace
  · rw [Int.max_eq_right hc, u1]
    grind
  · rw [Int.max_eq_left (by omega)]
    have e : pw (p + m.log2 - f.fractionBits) = pw (p + m.log2) * pw (-f.fractionBits) := by
      rw [← pw_add]
      congr 1
    rw [e, ← u2]
    have h5 := Rat.mul_le_mul_of_nonneg_right hl (Rat.le_of_lt hu)
    have he : 0 < eta f := pw_pos _
    grind
theorem lastP_lt {f : Format} (he : 2 ≤ f.exponentBits) {m : Nat} {p : Int} {z : Rat} (h : stands f m p z) (hm : m ≠ 0) (hz : z < pw (topE f)) : lastP f m p < f.leastPlace + (2 ^ f.exponentBits : Nat) - 3 := by
  have h4 := four_le he
  have hl := stands_log h hm
  have hlog : p + m.log2 < topE f := by
    refine Int.lt_of_not_ge fun hge => ?_
    have := pw_mono hge
    grind
  have hE : ((2 : Int) ^ f.exponentBits) = ((2 ^ f.exponentBits : Nat) : Int) := by simp
  unfold topE at hlog
  rw [hE] at hlog
  unfold lastP
  omega
theorem near_read {f : Format} (he : 2 ≤ f.exponentBits) (neg : Bool) {m : Nat} {p : Int} {z : Rat} (h : stands f m p z) (hm : m ≠ 0) (hz : z < pw (topE f)) :
    ∃ m' p', f.read (f.nearest neg m p) = .number neg m' p' ∧ (m' : Rat) * pw p' = (keptN f neg m p : Rat) * pw (lastP f m p) := by
  have hb := binade_pos f
  have hk1 := kept_le f neg (mag := m) p
  have hk2 := le_kept f neg p hm
  have hlast : f.leastPlace ≤ lastP f m p := Int.le_max_right _ _
  have htop := lastP_lt he h hm hz
  rw [nearest_eq f neg p hm]
  generalize hkk : (lastP f m p - f.leastPlace).toNat = k
  have hkl : f.leastPlace + (k : Int) = lastP f m p := by omega
  have hinf : k * f.binade + keptN f neg m p < f.infRung := by
    rw [inf_eq]
    have a1 : k + 2 < 2 ^ f.exponentBits - 1 := by omega
    have a2 : (k + 2 + 1) * f.binade ≤ (2 ^ f.exponentBits - 1) * f.binade := Nat.mul_le_mul_right _ (by omega)
    rw [Nat.add_mul, Nat.add_mul] at a2
    omega
  rw [Nat.min_eq_left (Nat.le_of_lt hinf)]
  obtain ⟨m', p', h1, h2⟩ := read_word f neg hinf
  rw [rv_split f k _ hk1 (by
    by_cases hk0 : k = 0
    · exact .inl hk0
    · exact .inr (hk2 (by omega))), hkl] at h2
  exact ⟨m', p', h1, h2⟩
theorem kept_le_rep {f : Format} {neg : Bool} {m : Nat} {p : Int} {z : Rat} (h : stands f m p z) (hm : m ≠ 0) {M : Nat} {P : Int} (hM : M ≤ 2 ^ (f.fractionBits + 1)) (hP : f.leastPlace ≤ P) (hz : z ≤ (M : Rat) * pw P) :
    (keptN f neg m p : Rat) * pw (lastP f m p) ≤ (M : Rat) * pw P := by
  obtain ⟨e1, e2⟩ := stands_err neg h
  have hl := stands_log h hm
  have hpl := pw_pos (lastP f m p)
  by_cases hc : lastP f m p ≤ P
  · -- a whole number of units
    obtain ⟨d, hd⟩ : ∃ d : Nat, P = lastP f m p + d := ⟨(P - lastP f m p).toNat, by omega⟩
    subst hd
    generalize lastP f m p = last at *
    rw [pw_add, pw_nat] at hz ⊢
    have e3 : (M : Rat) * (pw last * ((2 ^ d : Nat) : Rat)) = ((M * 2 ^ d : Nat) : Rat) * pw last := by rw [Rat.natCast_mul]; grind
    rw [e3] at hz ⊢
    refine Rat.mul_le_mul_of_nonneg_right ?_ (Rat.le_of_lt hpl)
    have h3 : keptN f neg m p ≤ M * 2 ^ d := by
      refine Nat.le_of_not_lt fun hlt => ?_
      have h5 : ((M * 2 ^ d + 1 : Nat) : Rat) ≤ (keptN f neg m p : Rat) := by exact_mod_cast hlt
      have h6 := Rat.mul_le_mul_of_nonneg_right h5 (Rat.le_of_lt hpl)
      rw [Rat.natCast_add] at h6
      grind
    exact_mod_cast h3
  · have hlast : lastP f m p = p + m.log2 - f.fractionBits := by unfold lastP at hc ⊢; omega
    have h1 : (M : Rat) * pw P ≤ pw (f.fractionBits + 1 + P) := by
      rw [pw_add, show ((f.fractionBits : Int) + 1) = ((f.fractionBits + 1 : Nat) : Int) from by omega, pw_nat]
      exact Rat.mul_le_mul_of_nonneg_right (by exact_mod_cast hM) (Rat.le_of_lt (pw_pos P))
    have h2 : pw (f.fractionBits + 1 + P) ≤ pw (p + m.log2) := pw_mono (by omega)
    -- so all are the same
    have hz2 : z = pw (p + m.log2) := by grind
    have hMz : (M : Rat) * pw P = z := by grind
    rw [hMz, hz2]
    have h7 : pw (p + m.log2) = ((2 ^ f.fractionBits : Nat) : Rat) * pw (lastP f m p) := by
      rw [← pw_nat, ← pw_add]
      congr 1
      omega
    rw [h7]
    refine Rat.mul_le_mul_of_nonneg_right ?_ (Rat.le_of_lt hpl)
    have h3 : keptN f neg m p ≤ 2 ^ f.fractionBits := by
      refine Nat.le_of_not_lt fun hlt => ?_
      have h5 : ((2 ^ f.fractionBits + 1 : Nat) : Rat) ≤ (keptN f neg m p : Rat) := by exact_mod_cast hlt
      have h6 := Rat.mul_le_mul_of_nonneg_right h5 (Rat.le_of_lt hpl)
      rw [Rat.natCast_add] at h6
      grind
    exact_mod_cast h3
theorem le_kept_rep {f : Format} {neg : Bool} {m : Nat} {p : Int} {z : Rat} (h : stands f m p z) (hm : m ≠ 0) {M : Nat} {P : Int} (hM : M ≤ 2 ^ (f.fractionBits + 1)) (hP : f.leastPlace ≤ P) (hz : (M : Rat) * pw P ≤ z) :
    (M : Rat) * pw P ≤ (keptN f neg m p : Rat) * pw (lastP f m p) := by
  obtain ⟨e1, e2⟩ := stands_err neg h
  have hpl := pw_pos (lastP f m p)
  by_cases hc : lastP f m p ≤ P
  · obtain ⟨d, hd⟩ : ∃ d : Nat, P = lastP f m p + d := ⟨(P - lastP f m p).toNat, by omega⟩
    subst hd
    generalize lastP f m p = last at *
    rw [pw_add, pw_nat] at hz ⊢
    have e3 : (M : Rat) * (pw last * ((2 ^ d : Nat) : Rat)) = ((M * 2 ^ d : Nat) : Rat) * pw last := by rw [Rat.natCast_mul]; grind
    rw [e3] at hz ⊢
    refine Rat.mul_le_mul_of_nonneg_right ?_ (Rat.le_of_lt hpl)
    have h3 : M * 2 ^ d ≤ keptN f neg m p := by
      refine Nat.le_of_not_lt fun hlt => ?_
      have h5 : ((keptN f neg m p + 1 : Nat) : Rat) ≤ ((M * 2 ^ d : Nat) : Rat) := by exact_mod_cast hlt
      have h6 := Rat.mul_le_mul_of_nonneg_right h5 (Rat.le_of_lt hpl)
      rw [Rat.natCast_add] at h6
      grind
    exact_mod_cast h3
  · have hk := le_kept f neg p hm (by omega)
    have h1 : (M : Rat) * pw P ≤ pw (f.fractionBits + 1 + P) := by
      rw [pw_add, show ((f.fractionBits : Int) + 1) = ((f.fractionBits + 1 : Nat) : Int) from by omega, pw_nat]
      exact Rat.mul_le_mul_of_nonneg_right (by exact_mod_cast hM) (Rat.le_of_lt (pw_pos P))
    have h2 : pw (f.fractionBits + 1 + P) ≤ pw (f.fractionBits + lastP f m p) := pw_mono (by omega)
    rw [pw_add _ (lastP f m p), pw_nat] at h2
    have h3 : ((2 ^ f.fractionBits : Nat) : Rat) ≤ (keptN f neg m p : Rat) := by exact_mod_cast hk
    have h4 := Rat.mul_le_mul_of_nonneg_right h3 (Rat.le_of_lt hpl)
    grind
/-! ### rounded numbers -/
def rep (f : Format) (R : Rat) : Prop := ∃ (s : Bool) (M : Nat) (P : Int), M ≤ 2 ^ (f.fractionBits + 1) ∧ f.leastPlace ≤ P ∧ R = sg s * (M : Rat) * pw P
theorem rep_neg {f : Format} {R : Rat} (h : rep f R) : rep f (-R) := by
  obtain ⟨s, M, P, h1, h2, rfl⟩ := h
  refine ⟨!s, M, P, h1, h2, ?_⟩
  cases s <;> simp [sg] <;> grind
theorem rep_int {f : Format} (hl : f.leastPlace ≤ 0) {n : Int} (h1 : -(2 ^ (f.fractionBits + 1) : Nat) ≤ n) (h2 : n ≤ (2 ^ (f.fractionBits + 1) : Nat)) : rep f (n : Rat) := by
  refine ⟨decide (n < 0), n.natAbs, 0, by omega, hl, ?_⟩
  rw [pw_zero, Rat.mul_one, sg_natAbs]
  by_cases h : n = 0 <;> simp [h]
structure Rnd (f : Format) (r : Nat) (v : Rat) : Prop where
  num : num f r
  err : ∀ c, v ≤ c → -c ≤ v → vl f r - v ≤ c * uU f + eta f ∧ v - vl f r ≤ c * uU f + eta f
  le : ∀ R, rep f R → v ≤ R → vl f r ≤ R
  ge : ∀ R, rep f R → R ≤ v → R ≤ vl f r
theorem Rnd.exact {f : Format} {r : Nat} {v : Rat} (h : Rnd f r v) (hv : rep f v) : vl f r = v :=
  Rat.le_antisymm (h.le v hv Rat.le_refl) (h.ge v hv Rat.le_refl)
theorem uU_pos (f : Format) : 0 < uU f := pw_pos _
theorem eta_pos (f : Format) : 0 < eta f := pw_pos _
theorem write_rnd {f : Format} (he : 2 ≤ f.exponentBits) (s : Bool) {m : Nat} {p : Int} {z : Rat} (h : stands f m p z) (hz : z < pw (topE f)) : Rnd f (f.write (.number s m p)) (sg s * z) := by
  have hu := uU_pos f
  have ht := eta_pos f
  by_cases hm : m = 0
  · subst hm
    have hz0 : z = 0 := by
      rcases h with h | ⟨q, h, _⟩
      · rw [← h]; simp
      · omega
    subst hz0
    obtain ⟨m', p', hr, _, _, h0⟩ := nearest_val he s 0 p (by
      have e0 : ((0 : Nat) : Rat) * pw p = 0 := by simp
      rw [e0]; exact pw_pos _)
    have hvl : vl f (f.write (.number s 0 p)) = 0 := by
      unfold vl Format.write
      rw [hr]
      have := h0 rfl
      simp only [dv]
      grind
    have hsz : sg s * (0 : Rat) = 0 := by simp
    rw [hsz]
    refine ⟨⟨s, m', p', hr⟩, fun c h1 h2 => ?_, fun R _ hR => by rw [hvl]; exact hR, fun R _ hR => by rw [hvl]; exact hR⟩
    have hc : 0 ≤ c * uU f := Rat.mul_nonneg h1 (Rat.le_of_lt hu)
    rw [hvl]
    constructor <;> grind
  · obtain ⟨m', p', hr, hv⟩ := near_read he s h hm hz
    obtain ⟨e1, e2⟩ := stands_err s h
    have hl := last_le_z h hm
    have hz0 : 0 < z := by
      have := stands_log h hm
      have := pw_pos (p + m.log2)
      grind
    have hvl : vl f (f.write (.number s m p)) = sg s * ((keptN f s m p : Rat) * pw (lastP f m p)) := by
      unfold vl Format.write
      rw [hr, ← hv]
      simp only [dv]
      grind
    have hk0 : 0 ≤ (keptN f s m p : Rat) * pw (lastP f m p) := Rat.mul_nonneg (by exact_mod_cast Nat.zero_le _) (Rat.le_of_lt (pw_pos _))
    have repabs : ∀ R, rep f R → 0 ≤ R → ∃ (M : Nat) (P : Int), M ≤ 2 ^ (f.fractionBits + 1) ∧ f.leastPlace ≤ P ∧ R = (M : Rat) * pw P := fun R hR h0 => by
      obtain ⟨t, M, P, h1, h2, rfl⟩ := hR
      refine ⟨M, P, h1, h2, ?_⟩
      have hMP : 0 ≤ (M : Rat) * pw P := Rat.mul_nonneg (by exact_mod_cast Nat.zero_le _) (Rat.le_of_lt (pw_pos _))
      cases t <;> simp only [sg, Bool.false_eq_true, if_false, if_true] at h0 ⊢ <;> grind
    refine ⟨⟨s, m', p', hr⟩, fun c h1 h2 => ?_, fun R hR hle => ?_, fun R hR hle => ?_⟩
    · have hzc : z ≤ c := by cases s <;> simp only [sg, Bool.false_eq_true, if_false, if_true] at h1 h2 <;> grind
      have hm1 := Rat.mul_le_mul_of_nonneg_right hzc (Rat.le_of_lt hu)
      rw [hvl]
      generalize (keptN f s m p : Rat) * pw (lastP f m p) = k at *
      cases s <;> simp only [sg, Bool.false_eq_true, if_false, if_true] <;> constructor <;> grind
    · rw [hvl]
      cases s with
      | false =>
        simp only [sg, Bool.false_eq_true, if_false] at hle ⊢
        have h0 : 0 ≤ R := by grind
        obtain ⟨M, P, h1, h2, rfl⟩ := repabs R hR h0
        have := kept_le_rep (neg := false) h hm h1 h2 (by grind)
        grind
      | true =>
        simp only [sg, if_true] at hle ⊢
        by_cases h0 : 0 ≤ R
        · grind
        · obtain ⟨M, P, h1, h2, hR2⟩ := repabs (-R) (rep_neg hR) (by grind)
          have := le_kept_rep (neg := true) h hm h1 h2 (by grind)
          grind
    · rw [hvl]
      cases s with
      | false =>
        simp only [sg, Bool.false_eq_true, if_false] at hle ⊢
        by_cases h0 : 0 ≤ R
        · obtain ⟨M, P, h1, h2, rfl⟩ := repabs R hR h0
          have := le_kept_rep (neg := false) h hm h1 h2 (by grind)
          grind
        · grind
      | true =>
        simp only [sg, if_true] at hle ⊢
        obtain ⟨M, P, h1, h2, hR2⟩ := repabs (-R) (rep_neg hR) (by grind)
        have := kept_le_rep (neg := true) h hm h1 h2 (by grind)
        grind
theorem abs_lt {s : Bool} {m : Nat} {p : Int} {v t : Rat} (h : sg s * m * pw p = v) (h1 : v < t) (h2 : -t < v) : (m : Rat) * pw p < t := by
  unfold sg at h
  split at h <;> grind
theorem absz_lt {s : Bool} {z t : Rat} (h1 : sg s * z < t) (h2 : -t < sg s * z) : z < t := by
  cases s <;> simp only [sg, Bool.false_eq_true, if_false, if_true] at h1 h2 <;> grind
theorem number_rnd {f : Format} (he : 2 ≤ f.exponentBits) {s : Bool} {m : Nat} {p : Int} {v : Rat} (h : sg s * m * pw p = v) (h1 : v < pw (topE f)) (h2 : -pw (topE f) < v) : Rnd f (f.write (.number s m p)) v := by
  have := write_rnd he s (m := m) (p := p) (.inl rfl) (abs_lt h h1 h2)
  rw [← h, Rat.mul_assoc]
  exact this
theorem add_rnd {f : Format} (he : 2 ≤ f.exponentBits) {x y : Nat} (hx : num f x) (hy : num f y) (h1 : vl f x + vl f y < pw (topE f)) (h2 : -pw (topE f) < vl f x + vl f y) :
    ∃ r, f.add x y = some r ∧ Rnd f r (vl f x + vl f y) := by
  obtain ⟨s, m, p, hs, hv⟩ := sum_val (num_is hx) (num_is hy)
  exact ⟨_, by unfold Format.add; rw [hs]; rfl, number_rnd he hv h1 h2⟩
theorem sub_rnd {f : Format} (he : 2 ≤ f.exponentBits) {x y : Nat} (hx : num f x) (hy : num f y) (h1 : vl f x - vl f y < pw (topE f)) (h2 : -pw (topE f) < vl f x - vl f y) :
    ∃ r, f.sub x y = some r ∧ Rnd f r (vl f x - vl f y) := by
  obtain ⟨o1, o2⟩ := opp_val (x := f.read y)
  obtain ⟨s, m, p, hs, hv⟩ := sum_val (num_is hx) (y := (f.read y).opposite) (by rw [o1]; exact num_is hy)
  have hv' : sg s * m * pw p = vl f x - vl f y := by rw [hv, o2]; unfold vl; grind
  exact ⟨_, by unfold Format.sub; rw [hs]; rfl, number_rnd he hv' h1 h2⟩
theorem mul_rnd {f : Format} (he : 2 ≤ f.exponentBits) {x y : Nat} (hx : num f x) (hy : num f y) (h1 : vl f x * vl f y < pw (topE f)) (h2 : -pw (topE f) < vl f x * vl f y) :
    ∃ r, f.mul x y = some r ∧ Rnd f r (vl f x * vl f y) := by
  obtain ⟨s, m, p, hs, hv⟩ := prod_val (num_is hx) (num_is hy)
  exact ⟨_, by unfold Format.mul; rw [hs]; rfl, number_rnd he hv h1 h2⟩
theorem quot_stands (f : Format) {m n : Nat} (i j : Int) (hm : m ≠ 0) (hn : n ≠ 0) (d : Nat) (hd : d = f.fractionBits + 2) :
    stands f (2 * (m <<< (d + n.log2 - m.log2) / n) + (m <<< (d + n.log2 - m.log2) % n != 0).toNat) (i - j - (d + n.log2 - m.log2 : Nat) - 1) ((m : Rat) * pw i / ((n : Rat) * pw j)) := by
  subst hd
  generalize hk : f.fractionBits + 2 + n.log2 - m.log2 = k
  rw [Nat.shiftLeft_eq]
  have hn0 : 0 < n := by omega
  have hnR : (0 : Rat) < n := by exact_mod_cast hn0
  generalize hD : m * 2 ^ k = D
  have hdm := Nat.div_add_mod D n
  have hlt := Nat.mod_lt D hn0
  have hq : 2 ^ (f.fractionBits + 1) ≤ D / n := by
    refine (Nat.le_div_iff_mul_le hn0).2 ?_
    have h1 := lt_log2 n
    have h2 := log2_le hm
    have h3 : 2 ^ (f.fractionBits + 1) * n ≤ 2 ^ (f.fractionBits + 1) * 2 ^ (n.log2 + 1) := Nat.mul_le_mul_left _ (Nat.le_of_lt h1)
    have h4 : 2 ^ m.log2 * 2 ^ k ≤ D := by rw [← hD]; exact Nat.mul_le_mul_right _ h2
    rw [← Nat.pow_add] at h3 h4
    have h5 : 2 ^ (f.fractionBits + 1 + (n.log2 + 1)) ≤ 2 ^ (m.log2 + k) := Nat.pow_le_pow_right (by decide) (by omega)
    omega
  have hz : (m : Rat) * pw i / ((n : Rat) * pw j) = (D : Rat) / n * pw (i - j - k) := by
    have e1 : pw i = pw j * (((2 ^ k : Nat) : Rat) * pw (i - j - k)) := by
      rw [← pw_nat, ← pw_add, ← pw_add]
      congr 1
      omega
    have hj := pw_pos j
    have hnj : (n : Rat) * pw j ≠ 0 := Rat.ne_of_gt (Rat.mul_pos hnR hj)
    have hn1 : (n : Rat) ≠ 0 := Rat.ne_of_gt hnR
    have e2 : (D : Rat) = (m : Rat) * ((2 ^ k : Nat) : Rat) := by rw [← hD, Rat.natCast_mul]
    rw [e1, e2]
    have a1 := Rat.div_mul_cancel (a := (m : Rat) * (pw j * (((2 ^ k : Nat) : Rat) * pw (i - j - k)))) hnj
    have a2 := Rat.div_mul_cancel (a := (m : Rat) * ((2 ^ k : Nat) : Rat)) hn1
    have key : ((m : Rat) * (pw j * (((2 ^ k : Nat) : Rat) * pw (i - j - k))) / ((n : Rat) * pw j)) * ((n : Rat) * pw j) = ((m : Rat) * ((2 ^ k : Nat) : Rat) / n * pw (i - j - k)) * ((n : Rat) * pw j) := by
      rw [a1]
      have : (m : Rat) * ((2 ^ k : Nat) : Rat) / n * pw (i - j - k) * ((n : Rat) * pw j) = ((m : Rat) * ((2 ^ k : Nat) : Rat) / n * n) * pw (i - j - k) * pw j := by grind
      rw [this, a2]
      grind
    have b1 := Rat.mul_div_cancel (a := ((m : Rat) * (pw j * (((2 ^ k : Nat) : Rat) * pw (i - j - k))) / ((n : Rat) * pw j))) hnj
    have b2 := Rat.mul_div_cancel (a := ((m : Rat) * ((2 ^ k : Nat) : Rat) / n * pw (i - j - k))) hnj
    rw [← b1, key, b2]
  rw [hz]
  have hpl : pw (i - j - k) = 2 * pw (i - j - k - 1) := by
    rw [← pw_succ]
    congr 1
    omega
  rw [hpl]
  unfold stands
  have hp := pw_pos (i - j - k - 1)
  generalize pw (i - j - k - 1) = r at *
  generalize hq0 : D / n = q at *
  have hDn : (D : Rat) = (n : Rat) * q + ((D % n : Nat) : Rat) := by
    have : D = n * q + D % n := hdm.symm
    have h2 : ((D : Nat) : Rat) = ((n * q + D % n : Nat) : Rat) := by rw [← this]
    rw [h2, Rat.natCast_add, Rat.natCast_mul]
  have hdiv : (D : Rat) / n * n = D := Rat.div_mul_cancel (Rat.ne_of_gt hnR)
  by_cases h0 : D % n = 0
  · left
    have hq1 : (D : Rat) / n = q := by
      have h3 : (D : Rat) = (q : Rat) * n := by rw [hDn, h0]; simp; grind
      rw [h3, Rat.mul_div_cancel (Rat.ne_of_gt hnR)]
    rw [h0, hq1]
    simp only [bne_self_eq_false, Bool.toNat_false, Nat.add_zero]
    rw [Rat.natCast_mul]
    have : ((2 : Nat) : Rat) = 2 := rfl
    rw [this]
    grind
  · right
    have hb : (D % n != 0) = true := by simpa using h0
    rw [hb]
    refine ⟨q, rfl, hq, ?_, ?_⟩
    · have h1 : (q : Rat) < (D : Rat) / n := by
        refine Rat.not_le.1 fun hle => ?_
        have h2 := Rat.mul_le_mul_of_nonneg_right hle (Rat.le_of_lt hnR)
        rw [hdiv, hDn] at h2
        have : (0 : Rat) < ((D % n : Nat) : Rat) := by exact_mod_cast Nat.pos_of_ne_zero h0
        grind
      have h3 : ((2 * q : Nat) : Rat) = 2 * (q : Rat) := by rw [Rat.natCast_mul]; rfl
      rw [h3]
      refine Rat.not_le.1 fun hle => ?_
      have h4 : (D : Rat) / n ≤ (q : Rat) := by
        refine Rat.le_of_mul_le_mul_right (c := 2 * r) ?_ (by grind)
        grind
      grind
    · have h1 : (D : Rat) / n < (q : Rat) + 1 := by
        refine Rat.not_le.1 fun hle => ?_
        have h2 := Rat.mul_le_mul_of_nonneg_right hle (Rat.le_of_lt hnR)
        rw [hdiv, hDn] at h2
        have : ((D % n : Nat) : Rat) < (n : Rat) := by exact_mod_cast hlt
        grind
      have h3 : ((2 * q + 2 : Nat) : Rat) = 2 * ((q : Rat) + 1) := by
        rw [Rat.natCast_add, Rat.natCast_mul]
        have : ((2 : Nat) : Rat) = 2 := rfl
        rw [this]
        grind
      rw [h3]
      refine Rat.not_le.1 fun hle => ?_
      have h4 : (q : Rat) + 1 ≤ (D : Rat) / n := by
        refine Rat.le_of_mul_le_mul_right (c := 2 * r) ?_ (by grind)
        grind
      grind
theorem div_rnd {f : Format} (he : 2 ≤ f.exponentBits) {x y : Nat} (hx : num f x) (hy : num f y) (hy0 : vl f y ≠ 0) (h1 : vl f x / vl f y < pw (topE f)) (h2 : -pw (topE f) < vl f x / vl f y) :
    ∃ r, f.div x y = some r ∧ Rnd f r (vl f x / vl f y) := by
  obtain ⟨s, m, i, hxr⟩ := hx
  obtain ⟨t, n, j, hyr⟩ := hy
  have vx : vl f x = sg s * m * pw i := by unfold vl; rw [hxr]; rfl
  have vy : vl f y = sg t * n * pw j := by unfold vl; rw [hyr]; rfl
  have hn : n ≠ 0 := by
    rintro rfl
    rw [vy] at hy0
    simp at hy0
  have hn0 : (0 : Rat) < n := by exact_mod_cast (show 0 < n by omega)
  have hnj : (0 : Rat) < (n : Rat) * pw j := Rat.mul_pos hn0 (pw_pos j)
  have hsg : sg (s ^^ t) = sg s * sg t := by cases s <;> cases t <;> simp [sg] <;> grind
  have hval : vl f x / vl f y = sg (s ^^ t) * ((m : Rat) * pw i / ((n : Rat) * pw j)) := by
    have hc := Rat.div_mul_cancel (a := (m : Rat) * pw i) (Rat.ne_of_gt hnj)
    have : vl f x = sg (s ^^ t) * ((m : Rat) * pw i / ((n : Rat) * pw j)) * vl f y := by
      rw [vx, vy, hsg]
      have e1 : sg s * sg t * ((m : Rat) * pw i / ((n : Rat) * pw j)) * (sg t * n * pw j) = sg s * (sg t * sg t) * ((m : Rat) * pw i / ((n : Rat) * pw j) * ((n : Rat) * pw j)) := by grind
      have e2 : sg t * sg t = 1 := by cases t <;> simp [sg] <;> grind
      rw [e1, e2, hc]
      grind
    rw [this, Rat.mul_div_cancel hy0]
  by_cases hm : m = 0
  · subst hm
    refine ⟨f.write (.number (s ^^ t) (2 * ((0 : Nat) <<< (f.fractionBits + 2 + n.log2 - Nat.log2 0) / n) + ((0 : Nat) <<< (f.fractionBits + 2 + n.log2 - Nat.log2 0) % n != 0).toNat) (i - j - (f.fractionBits + 2 + n.log2 - Nat.log2 0 : Nat) - 1)), ?_, ?_⟩
    · unfold Format.div
      rw [hxr, hyr]
      simp only [Datum.quotient, if_neg hn, Option.map_some]
    · have hz : vl f x / vl f y = 0 := by rw [hval]; simp [Rat.div_def]
      rw [hz]
      have h0 : 2 * ((0 : Nat) <<< (f.fractionBits + 2 + n.log2 - Nat.log2 0) / n) + ((0 : Nat) <<< (f.fractionBits + 2 + n.log2 - Nat.log2 0) % n != 0).toNat = 0 := by simp
      rw [h0]
      exact number_rnd he (by simp) (pw_pos _) (by have := pw_pos (topE f); grind)
  · refine ⟨f.write (.number (s ^^ t) (2 * (m <<< (f.fractionBits + 2 + n.log2 - m.log2) / n) + (m <<< (f.fractionBits + 2 + n.log2 - m.log2) % n != 0).toNat) (i - j - (f.fractionBits + 2 + n.log2 - m.log2 : Nat) - 1)), ?_, ?_⟩
    · unfold Format.div
      rw [hxr, hyr]
      simp only [Datum.quotient, if_neg hn, Option.map_some]
    · rw [hval] at h1 h2 ⊢
      exact write_rnd he (s ^^ t) (quot_stands f i j hm hn _ rfl) (absz_lt h1 h2)
theorem ofInt_rnd {f : Format} (he : 2 ≤ f.exponentBits) (n : Int) (h1 : (n : Rat) < pw (topE f)) (h2 : -pw (topE f) < (n : Rat)) : Rnd f (f.write (.number (n < 0) n.natAbs 0)) (n : Rat) := by
  refine number_rnd he ?_ h1 h2
  rw [pw_zero, Rat.mul_one, sg_natAbs]
  by_cases h : n = 0 <;> simp [h]
end Fl
