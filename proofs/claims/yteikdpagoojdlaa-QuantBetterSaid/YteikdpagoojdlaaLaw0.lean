/-
  What is proved here: plain facts on numbers made coarse and fine. A text to be imported.
-/
import Derived.Test.YteikdpagoojdlaaCon8
namespace Go.Proofs.Yteikdpagoojdlaa
open Sm Go Go.RowKit
theorem pos_ord : ∀ k, k < 64 → pos (ord k) = k := by decide
theorem ord_pos : ∀ k, k < 64 → ord (pos k) = k := by decide
theorem stepM_eq {x : Int} (h1 : 0 ≤ x) (h2 : x ≤ 65535) : stepM x = stepV x := by
  unfold stepM stepV mx
  have e : W x = x := w64 (by omega) (by omega)
  rw [e]
  cases hx : x == 0 with
  | true =>
    have : x = 0 := by simpa using hx
    subst this
    rfl
  | false =>
    have : x ≠ 0 := by simpa using hx
    rw [cond_false, if_neg (by omega)]
theorem sizeI_eq {n : Int} (h1 : -9223372036854775807 ≤ n) (h2 : n ≤ 9223372036854775807) : sizeI n = if n < 0 then -n else n := by
  unfold sizeI
  by_cases h : n < 0
  · rw [decide_eq_true h, cond_true, if_pos h, W, w64 (by omega) (by omega), Int.zero_sub]
  · rw [decide_eq_false h, cond_false, if_neg h]
/-- The nearest quotient, by what it is. -/
theorem nearU_spec {n b : Int} (hb : 1 ≤ b) : -b ≤ 2 * (n - nearU n b * b) ∧ 2 * (n - nearU n b * b) ≤ b ∧ (0 ≤ n → 0 ≤ nearU n b ∧ nearU n b ≤ n) ∧ (n ≤ 0 → nearU n b ≤ 0 ∧ n ≤ nearU n b) := by
  unfold nearU
  by_cases h : n < 0
  · rw [if_pos h]
    obtain ⟨h1, h2, h3, h4⟩ := small_div (a := -2 * n + b) (b := 2 * b) (by omega) (by omega)
    have hle : (-2 * n + b) / (2 * b) ≤ -n := by
      have := (Int.ediv_lt_iff_lt_mul (a := -2 * n + b) (b := -n + 1) (show 0 < 2 * b by omega)).2 (by
        have h5 : -n ≤ -n * b := by
          have := Int.mul_le_mul_of_nonneg_left hb (show 0 ≤ -n by omega)
          omega
        rw [Int.add_mul, Int.one_mul, Int.mul_left_comm]
        omega)
      omega
    generalize hq : (-2 * n + b) / (2 * b) = q at *
    have e : q * (2 * b) = 2 * (q * b) := by rw [Int.mul_left_comm]
    rw [e] at h3 h4
    rw [Int.neg_mul]
    omega
  · rw [if_neg h]
    obtain ⟨h1, h2, h3, h4⟩ := small_div (a := 2 * n + b) (b := 2 * b) (by omega) (by omega)
    have hle : (2 * n + b) / (2 * b) ≤ n := by
      have := (Int.ediv_lt_iff_lt_mul (a := 2 * n + b) (b := n + 1) (show 0 < 2 * b by omega)).2 (by
        have h5 : n ≤ n * b := by
          have := Int.mul_le_mul_of_nonneg_left hb (show 0 ≤ n by omega)
          omega
        rw [Int.add_mul, Int.one_mul, Int.mul_left_comm]
        omega)
      omega
    generalize hq : (2 * n + b) / (2 * b) = q at *
    have e : q * (2 * b) = 2 * (q * b) := by rw [Int.mul_left_comm]
    rw [e] at h3 h4
    omega
/-- A multiple's nearest quotient. -/
theorem nearU_mul {q b : Int} (hb : 1 ≤ b) : nearU (q * b) b = q := by
  unfold nearU
  have e : (2 * (q * b) + b) / (2 * b) = q := div_is (by omega) (by rw [Int.mul_left_comm]; omega) (by rw [Int.mul_left_comm]; omega)
  have e2 : -q * (2 * b) = -(2 * (q * b)) := by rw [Int.neg_mul, Int.mul_left_comm]
  have e' : (-2 * (q * b) + b) / (2 * b) = -q := div_is (by omega) (by rw [e2]; omega) (by rw [e2]; omega)
  split
  · rw [e']; omega
  · exact e
theorem mn_mx {n a b : Int} (h : a ≤ b) : mn (mx n a) b = if n < a then a else if b < n then b else n := by
  unfold mn mx
  by_cases h1 : n < a
  · rw [if_pos (show a > n from h1), if_pos h1, if_neg (by omega)]
  · rw [if_neg (show ¬ a > n from h1), if_neg h1]
theorem leastV_eq (k : Nat) : leastV k = if k = 0 then -1024 else -1023 := by
  unfold leastV
  rw [beq_eq]
  by_cases h : k = 0 <;> simp [h]
theorem coarseV_eq {f s : Nat → Int} {k : Nat} (hf : -2147483648 ≤ f (ord k) ∧ f (ord k) ≤ 2147483647) :
    coarseV f s k = if nearU (f (ord k)) (s k) < leastV k then leastV k else if 1023 < nearU (f (ord k)) (s k) then 1023 else nearU (f (ord k)) (s k) := by
  have hl : leastV k = -1024 ∨ leastV k = -1023 := by rw [leastV_eq]; split <;> simp
  unfold coarseV
  rw [W, w64 (by omega) (by omega), mn_mx (by omega)]
  apply w16 <;> split <;> (try split) <;> omega
theorem fine_prod {x σ : Int} (hx : -32768 ≤ x ∧ x ≤ 32767) (hs : 1 ≤ σ ∧ σ ≤ 65535) : -2147450880 ≤ x * σ ∧ x * σ ≤ 2147450880 := by
  have h1 : x * σ ≤ 32767 * σ := Int.mul_le_mul_of_nonneg_right hx.2 (by omega)
  have h2 : -32768 * σ ≤ x * σ := Int.mul_le_mul_of_nonneg_right hx.1 (by omega)
  omega
theorem fineV_eq {b s : Nat → Int} {i : Nat} (hb : -32768 ≤ b (pos i) ∧ b (pos i) ≤ 32767) (hs : 1 ≤ s (pos i) ∧ s (pos i) ≤ 65535) :
    fineV b s i = if b (pos i) * s (pos i) < -32767 then -32767 else if 32767 < b (pos i) * s (pos i) then 32767 else b (pos i) * s (pos i) := by
  have hp := fine_prod hb hs
  unfold fineV
  rw [show W (b (pos i)) = b (pos i) from w64 (by omega) (by omega), show W (b (pos i) * s (pos i)) = b (pos i) * s (pos i) from w64 (by omega) (by omega), mn_mx (by omega)]
  apply w32 <;> split <;> (try split) <;> omega
theorem fineV_range {b s : Nat → Int} {i : Nat} (hb : -32768 ≤ b (pos i) ∧ b (pos i) ≤ 32767) (hs : 1 ≤ s (pos i) ∧ s (pos i) ≤ 65535) : -32767 ≤ fineV b s i ∧ fineV b s i ≤ 32767 := by
  rw [fineV_eq hb hs]
  split
  · omega
  · split <;> omega
theorem coarseV_range {f s : Nat → Int} {k : Nat} (hf : -2147483648 ≤ f (ord k) ∧ f (ord k) ≤ 2147483647) : leastV k ≤ coarseV f s k ∧ coarseV f s k ≤ 1023 := by
  rw [coarseV_eq hf]
  have hl : leastV k = -1024 ∨ leastV k = -1023 := by rw [leastV_eq]; split <;> simp
  split
  · omega
  · split <;> omega
end Go.Proofs.Yteikdpagoojdlaa
