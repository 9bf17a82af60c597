/-
  What is proved here: the angles of turning numbers have words, and the contracts of the turning numbers. floats within a bound of one another. A text to be imported.
-/
import Derived.Test.YthddkcoflnbjbaaDoorQCon4
import Derived.Test.YthddkcoflnbjbaaDoorQSimZ
namespace Go.Proofs.YthddkcoflnbjbaaDoor
open Sm Go Go.RowKit Fl Ieee
set_option maxRecDepth 100000
set_option linter.unusedVariables false
theorem i2f_ap {n : Int} (h1 : -9007199254740992 ≤ n) (h2 : n ≤ 9007199254740992) : fnum .f64 (i2f n) ∧ fv .f64 (i2f n) = (n : Rat) := by
  have q1 : (n : Rat) ≤ ((9007199254740992 : Int) : Rat) := Rat.intCast_le_intCast.2 h2
  have q2 : ((-9007199254740992 : Int) : Rat) ≤ (n : Rat) := Rat.intCast_le_intCast.2 h1
  have hb : (9007199254740993 : Rat) < tp .f64 := by
    have h := pw_nat 60
    rw [show (2 ^ 60 : Nat) = 1152921504606846976 from rfl, Rat.natCast_ofNat] at h
    have : pw ((60 : Nat) : Int) ≤ tp .f64 := by unfold tp; rw [top64]; exact pw_mono (by decide)
    grind
  have n1 : ((9007199254740992 : Int) : Rat) = 9007199254740992 := rfl
  have n2 : ((-9007199254740992 : Int) : Rat) = -9007199254740992 := rfl
  rw [n1] at q1
  rw [n2] at q2
  have r := fint (k := .f64) n (by grind) (by grind)
  exact ⟨r.num, r.exact (rep_int (by decide) (by rw [show FloatKind.f64.format.fractionBits + 1 = 53 from rfl]; omega) (by rw [show FloatKind.f64.format.fractionBits + 1 = 53 from rfl]; omega))⟩
theorem ang_ok {m n : Int} (h0 : 0 < m) (h1 : m < n) (h2 : n ≤ 4096) : (∀ p ∈ okAng m n, p) ∧ fnum .f64 (angW m n) ∧ 0 < fv .f64 (angW m n) ∧ fv .f64 (angW m n) ≤ 6283 / 1000 ∧ angW m n < 2 ^ 63 := by
  obtain ⟨c1, c2⟩ := c2pi_val
  have cm := i2f_ap (n := m) (by omega) (by omega)
  have cn := i2f_ap (n := n) (by omega) (by omega)
  have ht := tp_ge .f64
  have m1 : (1 : Rat) ≤ (m : Rat) := by
    have := Rat.intCast_le_intCast.2 (show (1 : Int) ≤ m by omega)
    rw [show ((1 : Int) : Rat) = 1 from rfl] at this
    exact this
  have mn : (m : Rat) + 1 ≤ (n : Rat) := by
    have := Rat.intCast_le_intCast.2 (show m + 1 ≤ n by omega)
    rw [Rat.intCast_add, show ((1 : Int) : Rat) = 1 from rfl] at this
    exact this
  have n4 : (n : Rat) ≤ 4096 := by
    have := Rat.intCast_le_intCast.2 h2
    rw [show ((4096 : Int) : Rat) = 4096 from rfl] at this
    exact this
  have c3 : fv .f64 c2pi ≤ 62831854 / 10000000 := by grind
  have c4 : 6 ≤ fv .f64 c2pi := by grind
  have hm : fv .f64 (i2f m) = (m : Rat) := cm.2
  have hn : fv .f64 (i2f n) = (n : Rat) := cn.2
  have hp := rmul_le (a := fv .f64 c2pi) (b := (m : Rat)) (A := 62831854 / 10000000) (B := 4096) (by grind) (by grind) c3 (by grind) (by grind) (by grind)
  have hp2 : fv .f64 c2pi * (m : Rat) ≤ 62831854 / 10000000 * (m : Rat) := Rat.mul_le_mul_of_nonneg_right c3 (by grind)
  have hp3 : 6 * (m : Rat) ≤ fv .f64 c2pi * (m : Rat) := Rat.mul_le_mul_of_nonneg_right c4 (by grind)
  obtain ⟨k1, r1⟩ := fbin_mul c1 cm.1 (by rw [hm]; grind) (by rw [hm]; grind)
  rw [hm] at r1
  have a1 := Ap.rnd r1 (c := 30000) (by grind) (by grind)
  have hd : dl 30000 ≤ 1 / 100000000000 := by unfold dl; grind
  have hx1 := a1.hi
  have hx2 := a1.lo
  generalize hX : fbin .mul .f64 c2pi (i2f m) = X at *
  have hx0 : 0 < fv .f64 X := by grind
  have hq0 : (0 : Rat) < (n : Rat) := by grind
  have ei : (n : Rat)⁻¹ * (n : Rat) = 1 := Rat.inv_mul_cancel _ (Rat.ne_of_gt hq0)
  have hi0 : 0 < (n : Rat)⁻¹ := Rat.inv_pos.2 hq0
  have ediv : fv .f64 X / (n : Rat) = fv .f64 X * (n : Rat)⁻¹ := Rat.div_def _ _
  -- the quotient lies between 1/1024 and 6.2829
  have b1 : fv .f64 X * (n : Rat)⁻¹ ≤ 628181 / 100000 := by
    have hXn : fv .f64 X ≤ 628181 / 100000 * (n : Rat) := by grind
    have := Rat.mul_le_mul_of_nonneg_right hXn (Rat.le_of_lt hi0)
    rw [Rat.mul_assoc, Rat.mul_comm (n : Rat), ei] at this
    grind
  have b2 : 1 / 1024 ≤ fv .f64 X * (n : Rat)⁻¹ := by
    have hXn : 1 / 1024 * (n : Rat) ≤ fv .f64 X := by grind
    have := Rat.mul_le_mul_of_nonneg_right hXn (Rat.le_of_lt hi0)
    rw [Rat.mul_assoc, Rat.mul_comm (n : Rat), ei] at this
    grind
  obtain ⟨k2, r2⟩ := fbin_quo a1.num cn.1 (by rw [hn]; exact Rat.ne_of_gt hq0) (by rw [hn, ediv]; grind) (by rw [hn, ediv]; grind)
  rw [hn, ediv] at r2
  have a2 := Ap.rnd r2 (c := 8) (by grind) (by grind)
  have hd8 : dl 8 ≤ 1 / 100000000000 := by unfold dl; grind
  have hy1 := a2.hi
  have hy2 := a2.lo
  obtain ⟨s, p, q, z, hw, _, _⟩ := quoM a1.num cn.1 hx0 (by rw [hn]; exact hq0)
  have hA : angW m n = fbin .quo .f64 X (i2f n) := by unfold angW; rw [hX]
  have g1 : 0 < fv .f64 (angW m n) := by rw [hA]; grind
  have g2 : fv .f64 (angW m n) ≤ 6283 / 1000 := by rw [hA]; grind
  have g3 : fnum .f64 (angW m n) := by rw [hA]; exact a2.num
  have g4 : angW m n < 2 ^ 63 := by
    rw [hA, hw] at g1 g3 ⊢
    exact pos_word g3 g1
  refine ⟨all_cons k1 (all_cons (by rw [hX]; exact k2) (all_one (okX_of g3 g1 g2 g4))), g3, g1, g2, g4⟩
def turnP (k n : Int) : Nat × Nat :=
  if n < 1 ∨ 4096 < n then (0, 0) else
  if 4 * (k % n) = 0 then (kOne, 0) else if 4 * (k % n) = n then (0, mOne) else if 4 * (k % n) = 2 * n then (mOne, 0) else if 4 * (k % n) = 3 * n then (0, kOne) else
  (cosV (angW (k % n) n), ng (sinV (angW (k % n) n)))
theorem outB_t {n : Int} (h : n < 1 ∨ 4096 < n) : outB n = true := by
  unfold outB
  by_cases h1 : n < 1
  · rw [decide_eq_true h1]; rfl
  · rw [decide_eq_false h1, decide_eq_true (show n > 4096 by omega)]; rfl
theorem outB_f {n : Int} (h : ¬(n < 1 ∨ 4096 < n)) : outB n = false := by
  unfold outB
  rw [decide_eq_false (show ¬n < 1 by omega), decide_eq_false (show ¬n > 4096 by omega)]; rfl
theorem beqf {a b : Int} (h : a ≠ b) : (a == b) = false := beq_eq_false_iff_ne.2 h
theorem beqt {a b : Int} (h : a = b) : (a == b) = true := beq_iff_eq.2 h
theorem Wid {x : Int} (h1 : -9223372036854775808 ≤ x) (h2 : x ≤ 9223372036854775807) : W x = x := w64 h1 h2
theorem tmod_neg {k n : Int} (hn : 0 < n) (h : k.tmod n < 0) : k % n = k.tmod n + n := by
  have h1 := Int.tmod_def k n
  have h2 := Int.emod_def k n
  have h3 := Int.emod_nonneg k (show n ≠ 0 by omega)
  have h4 := Int.emod_lt_of_pos k hn
  have h5 : -n < k.tmod n := by
    have := Int.natAbs_tmod k n
    have h6 := Nat.mod_lt k.natAbs (show n.natAbs > 0 by omega)
    omega
  have e : (k.tmod n - k % n) = n * (k / n - k.tdiv n) := by rw [h1, h2, Int.mul_sub]; omega
  have : k / n - k.tdiv n = -1 := by
    have u1 : n * (k / n - k.tdiv n) < 0 := by omega
    have u2 : -2 * n < n * (k / n - k.tdiv n) := by omega
    generalize k / n - k.tdiv n = z at *
    have z1 : z < 0 := by
      refine Int.not_le.1 fun hz => ?_
      have := Int.mul_nonneg (show (0 : Int) ≤ n by omega) hz
      omega
    have z2 : -2 < z := by
      refine Int.not_le.1 fun hz => ?_
      have := Int.mul_le_mul_of_nonneg_left hz (show (0 : Int) ≤ n by omega)
      omega
    omega
  rw [this] at e
  omega
theorem tmod_pos {k n : Int} (hn : 0 < n) (h : 0 ≤ k.tmod n) : k % n = k.tmod n := by
  have h1 := Int.tmod_def k n
  have h2 := Int.emod_def k n
  have h3 := Int.emod_nonneg k (show n ≠ 0 by omega)
  have h4 := Int.emod_lt_of_pos k hn
  have h5 : k.tmod n < n := Int.tmod_lt_of_pos k hn
  have e : (k.tmod n - k % n) = n * (k / n - k.tdiv n) := by rw [h1, h2, Int.mul_sub]; omega
  have : k / n - k.tdiv n = 0 := by
    generalize k / n - k.tdiv n = z at *
    have z1 : z < 1 := by
      refine Int.not_le.1 fun hz => ?_
      have := Int.mul_le_mul_of_nonneg_left hz (show (0 : Int) ≤ n by omega)
      omega
    have z2 : -1 < z := by
      refine Int.not_le.1 fun hz => ?_
      have := Int.mul_le_mul_of_nonneg_left hz (show (0 : Int) ≤ n by omega)
      omega
    omega
  rw [this] at e
  omega
def GTurn : List ArgV → Option Value
  | [.val (.int .i64 k), .val (.int .i64 n)] => some (cx (turnP k n).1 (turnP k n).2)
  | _ => none
def GTurnR : List ArgV → Option Value
  | [.val (.int .i64 k), .val (.int .i64 n)] => some (c2 (turnP k n).1 (turnP k n).2)
  | _ => none
theorem okm {m n : Int} (h0 : 0 ≤ m) (h1 : m < n) (hz : 4 * m ≠ 0) (h2 : n ≤ 4096) : ∀ p ∈ okAng m n, p := (ang_ok (by omega) h1 h2).1
theorem con18 : Con Tryd.prog 18 GTurn := by
  refine con_of_runW hm hT FT1ok Tryd.func18 Tryd.call18 fun avs u h => ?_
  unfold GTurn at h
  split at h
  · rename_i k n
    simp only [Option.some.injEq] at h; subst h
    by_cases ho : n < 1 ∨ 4096 < n
    · refine ⟨[], 300, [.b true], _, _, rfl, of_run (runT k n _) ⟨outB_t ho, ?_⟩⟩
      unfold turnP; rw [if_pos ho]
    · have hn0 : (n == 0) = false := beqf (by omega)
      have hl := Int.emod_lt_of_pos k (show 0 < n by omega)
      have hg := Int.emod_nonneg k (show n ≠ 0 by omega)
      have w1 : W (2 * n) = 2 * n := Wid (by omega) (by omega)
      have w2 : W (3 * n) = 3 * n := Wid (by omega) (by omega)
      have w3 : W (4 * (k % n)) = 4 * (k % n) := Wid (by omega) (by omega)
      by_cases hs : k.tmod n < 0
      · have em := tmod_neg (show 0 < n by omega) hs
        have ew : W (k.tmod n + n) = k % n := by rw [← em]; exact Wid (by omega) (by omega)
        have base : ∀ l : List Prop, (∀ p ∈ l, p) → ∀ p ∈ [outB n = false, (n == 0) = false, decide (k.tmod n < 0) = true] ++ l, p := fun l hl => all_app (all_cons (outB_f ho) (all_cons hn0 (all_one (decide_eq_true hs)))) hl
        unfold turnP
        rw [if_neg ho]
        by_cases e0 : 4 * (k % n) = 0
        · rw [if_pos e0]
          exact ⟨[], 300, _, _, _, rfl, of_run (runT_true_0 k n _) (obsP_of _ _ (base [_] (all_one (by rw [ew, w3]; exact beqt e0))) rfl)⟩
        · rw [if_neg e0]
          by_cases e1 : 4 * (k % n) = n
          · rw [if_pos e1]
            exact ⟨[], 300, _, _, _, rfl, of_run (runT_true_1 k n _) (obsP_of _ _ (base [_, _] (by rw [ew, w3]; exact all_cons (beqf e0) (all_one (beqt e1)))) rfl)⟩
          · rw [if_neg e1]
            by_cases e2 : 4 * (k % n) = 2 * n
            · rw [if_pos e2]
              exact ⟨[], 300, _, _, _, rfl, of_run (runT_true_2 k n _) (obsP_of _ _ (base [_, _, _] (by rw [ew, w3, w1]; exact all_cons (beqf e0) (all_cons (beqf e1) (all_one (beqt e2))))) rfl)⟩
            · rw [if_neg e2]
              by_cases e3 : 4 * (k % n) = 3 * n
              · rw [if_pos e3]
                exact ⟨[], 300, _, _, _, rfl, of_run (runT_true_3 k n _) (obsP_of _ _ (base [_, _, _, _] (by rw [ew, w3, w1, w2]; exact all_cons (beqf e0) (all_cons (beqf e1) (all_cons (beqf e2) (all_one (beqt e3)))))) rfl)⟩
              · rw [if_neg e3]
                refine ⟨[], 300, _, _, _, rfl, of_run (runT_true_4 k n _) (obsP_of _ _ ?_ ?_)⟩
                · rw [ew, w3, w1, w2]
                  exact all_app (all_app (base [] (fun p hp => by cases hp)) (all_cons (beqf e0) (all_cons (beqf e1) (all_cons (beqf e2) (all_one (beqf e3)))))) (okm hg hl e0 (by omega))
                · rw [ew]
      · have em := tmod_pos (show 0 < n by omega) (Int.not_lt.1 hs)
        rw [em] at w3 hl hg
        have base : ∀ l : List Prop, (∀ p ∈ l, p) → ∀ p ∈ [outB n = false, (n == 0) = false, decide (k.tmod n < 0) = false] ++ l, p := fun l hl => all_app (all_cons (outB_f ho) (all_cons hn0 (all_one (decide_eq_false hs)))) hl
        unfold turnP
        rw [if_neg ho, em]
        by_cases e0 : 4 * (k.tmod n) = 0
        · rw [if_pos e0]
          exact ⟨[], 300, _, _, _, rfl, of_run (runT_false_0 k n _) (obsP_of _ _ (base [_] (all_one (by rw [w3]; exact beqt e0))) rfl)⟩
        · rw [if_neg e0]
          by_cases e1 : 4 * (k.tmod n) = n
          · rw [if_pos e1]
            exact ⟨[], 300, _, _, _, rfl, of_run (runT_false_1 k n _) (obsP_of _ _ (base [_, _] (by rw [w3]; exact all_cons (beqf e0) (all_one (beqt e1)))) rfl)⟩
          · rw [if_neg e1]
            by_cases e2 : 4 * (k.tmod n) = 2 * n
            · rw [if_pos e2]
              exact ⟨[], 300, _, _, _, rfl, of_run (runT_false_2 k n _) (obsP_of _ _ (base [_, _, _] (by rw [w3, w1]; exact all_cons (beqf e0) (all_cons (beqf e1) (all_one (beqt e2))))) rfl)⟩
            · rw [if_neg e2]
              by_cases e3 : 4 * (k.tmod n) = 3 * n
              · rw [if_pos e3]
                exact ⟨[], 300, _, _, _, rfl, of_run (runT_false_3 k n _) (obsP_of _ _ (base [_, _, _, _] (by rw [w3, w1, w2]; exact all_cons (beqf e0) (all_cons (beqf e1) (all_cons (beqf e2) (all_one (beqt e3)))))) rfl)⟩
              · rw [if_neg e3]
                refine ⟨[], 300, _, _, _, rfl, of_run (runT_false_4 k n _) (obsP_of _ _ ?_ rfl)⟩
                rw [w3, w1, w2]
                exact all_app (all_app (base [] (fun p hp => by cases hp)) (all_cons (beqf e0) (all_cons (beqf e1) (all_cons (beqf e2) (all_one (beqf e3)))))) (okm hg hl e0 (by omega))
  · cases h
theorem con26 : Con Tryd.prog 26 GTurnR := by
  refine con_of_runW hm hT FT1ok Tryd.func26 Tryd.call26 fun avs u h => ?_
  unfold GTurnR at h
  split at h
  · rename_i k n
    simp only [Option.some.injEq] at h; subst h
    by_cases ho : n < 1 ∨ 4096 < n
    · refine ⟨[], 300, [.b true], _, _, rfl, of_run (runU k n _) ⟨outB_t ho, ?_⟩⟩
      unfold turnP; rw [if_pos ho]
    · have hn0 : (n == 0) = false := beqf (by omega)
      have hl := Int.emod_lt_of_pos k (show 0 < n by omega)
      have hg := Int.emod_nonneg k (show n ≠ 0 by omega)
      have w1 : W (2 * n) = 2 * n := Wid (by omega) (by omega)
      have w2 : W (3 * n) = 3 * n := Wid (by omega) (by omega)
      have w3 : W (4 * (k % n)) = 4 * (k % n) := Wid (by omega) (by omega)
      have ew : (W (k.tmod n + n)).tmod n = k % n := by
        by_cases hs : k.tmod n < 0
        · have em := tmod_neg (show 0 < n by omega) hs
          rw [show W (k.tmod n + n) = k % n from by rw [← em]; exact Wid (by omega) (by omega), Int.tmod_eq_emod_of_nonneg hg]
          exact Int.emod_eq_of_lt hg hl
        · have em := tmod_pos (show 0 < n by omega) (Int.not_lt.1 hs)
          rw [← em, Wid (by omega) (by omega), Int.tmod_eq_emod_of_nonneg (by omega), Int.add_emod_right]
          exact Int.emod_eq_of_lt hg hl
      have base : ∀ l : List Prop, (∀ p ∈ l, p) → ∀ p ∈ [outB n = false, (n == 0) = false, (n == 0) = false] ++ l, p := fun l hl => all_app (all_cons (outB_f ho) (all_cons hn0 (all_one hn0))) hl
      unfold turnP
      rw [if_neg ho]
      by_cases e0 : 4 * (k % n) = 0
      · rw [if_pos e0]
        exact ⟨[], 300, _, _, _, rfl, of_run (runU_0 k n _) (obsP_of _ _ (base [_] (all_one (by rw [ew, w3]; exact beqt e0))) rfl)⟩
      · rw [if_neg e0]
        by_cases e1 : 4 * (k % n) = n
        · rw [if_pos e1]
          exact ⟨[], 300, _, _, _, rfl, of_run (runU_1 k n _) (obsP_of _ _ (base [_, _] (by rw [ew, w3]; exact all_cons (beqf e0) (all_one (beqt e1)))) rfl)⟩
        · rw [if_neg e1]
          by_cases e2 : 4 * (k % n) = 2 * n
          · rw [if_pos e2]
            exact ⟨[], 300, _, _, _, rfl, of_run (runU_2 k n _) (obsP_of _ _ (base [_, _, _] (by rw [ew, w3, w1]; exact all_cons (beqf e0) (all_cons (beqf e1) (all_one (beqt e2))))) rfl)⟩
          · rw [if_neg e2]
            by_cases e3 : 4 * (k % n) = 3 * n
            · rw [if_pos e3]
              exact ⟨[], 300, _, _, _, rfl, of_run (runU_3 k n _) (obsP_of _ _ (base [_, _, _, _] (by rw [ew, w3, w1, w2]; exact all_cons (beqf e0) (all_cons (beqf e1) (all_cons (beqf e2) (all_one (beqt e3)))))) rfl)⟩
            · rw [if_neg e3]
              have hk := okm hg hl e0 (by omega)
              refine ⟨[], 300, _, _, _, rfl, of_run (runU_4 k n _) (obsP_of _ _ ?_ ?_)⟩
              · rw [ew, w3, w1, w2]
                exact all_app (all_app (all_app (base [] (fun p hp => by cases hp)) (all_cons (beqf e0) (all_cons (beqf e1) (all_cons (beqf e2) (all_one (beqf e3)))))) hk) (all_one (hk _ (by simp [okAng])))
              · rw [ew]
  · cases h
noncomputable def FT : Fns := (FT1.add 18 GTurn).add 26 GTurnR
theorem FTok : FnsOk Tryd.prog FT := (FT1ok.add con18).add con26
end Go.Proofs.YthddkcoflnbjbaaDoor
namespace Go.Proofs.YthddkcoflnbjbaaDoor
open Sm Go Go.RowKit Fl Ieee
set_option maxRecDepth 100000
set_option linter.unusedVariables false
theorem absW_eq (x : Nat) : absW x = x % 2 ^ 63 := abs_mod x
theorem absW_num {x : Nat} (h : fnum .f64 x) : fnum .f64 (absW x) ∧ 0 ≤ fv .f64 (absW x) ∧ ((fv .f64 (absW x) = fv .f64 x ∧ 0 ≤ fv .f64 x) ∨ (fv .f64 (absW x) = -fv .f64 x ∧ fv .f64 x ≤ 0)) := by
  rw [absW_eq]; exact abs_num h
theorem fle_iff {x y : Nat} (hx : fnum .f64 x) (hy : fnum .f64 y) : fle x y = true ↔ fv .f64 x ≤ fv .f64 y := le_iff hx hy
theorem within_ok {x y m : Nat} {u v d e B : Rat} (hx : Ap x u d) (hy : Ap y v e) (hm : fnum .f64 m) (c : Rat) (h1 : u - v + d + e ≤ c) (h2 : -c ≤ u - v - d - e) (hc : c < tp .f64) (h3 : c + dl c ≤ fv .f64 m) : fok .sub .f64 x y = true ∧ fle (absW (fbin .sub .f64 x y)) m = true := by
  obtain ⟨k, a⟩ := hx.sub hy c h1 h2 hc
  refine ⟨k, ?_⟩
  obtain ⟨n1, n2, n3⟩ := absW_num a.num
  have := hx.hi; have := hx.lo; have := hy.hi; have := hy.lo
  rw [fle_iff n1 hm]
  obtain ⟨_, r⟩ := fbin_sub hx.num hy.num (by grind) (by grind)
  have b := Ap.rnd r (c := c) (by grind) (by grind)
  have := b.hi; have := b.lo
  grind
end Go.Proofs.YthddkcoflnbjbaaDoor
