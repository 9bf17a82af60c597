/-
  What is proved here: contracts of quant.nearest and the reference's Nearest. A text to be imported.
-/
import Derived.Test.YteikdpagoojdlaaCon4
namespace Go.Proofs.Yteikdpagoojdlaa
open Sm Go Go.RowKit
set_option maxRecDepth 1000000
/-- A quotient to the nearest, of two as near the one farther from 0. -/
def nearU (a b : Int) : Int := if a < 0 then -((-2 * a + b) / (2 * b)) else (2 * a + b) / (2 * b)
def nearP (a b : Int) : Prop := 1 ≤ b ∧ b ≤ 65535 ∧ -2147483648 ≤ a ∧ a ≤ 2147483647
def GNear : List ArgV → Option (Prop × Value)
  | [.val (.int .i64 a), .val (.int .i64 b)] => some (nearP a b, .int .i64 (nearU a b))
  | _ => none
abbrev W (x : Int) : Int := IntKind.i64.wrap x
theorem run31 (a b : Int) (u : Value) : runK Try.prog T Fns.none 300 Try.f31 [di a, di b] [] [] (fun r _ => resW r = some u) =
    ((decide (a < 0) = true → ((W (2 * b) == 0) = false ∧ some (Value.int .i64 (W (0 - W ((W (W (-2 * a) + b)).tdiv (W (2 * b)))))) = some u)) ∧
     (decide (a < 0) = false → ((W (2 * b) == 0) = false ∧ some (Value.int .i64 (W ((W (W (2 * a) + b)).tdiv (W (2 * b))))) = some u))) := by kernel_rfl
theorem run33 (a b : Int) (u : Value) : runK Try.prog T Fns.none 300 Try.f33 [di a, di b] [] [] (fun r _ => resW r = some u) =
    ((b == 0) = false ∧
    ((decide (W (2 * W (a - W (W (a.tdiv b) * b))) ≥ b) = true → some (Value.int .i64 (W (W (a.tdiv b) + 1))) = some u) ∧
     (decide (W (2 * W (a - W (W (a.tdiv b) * b))) ≥ b) = false →
      ((decide (W (-2 * W (a - W (W (a.tdiv b) * b))) ≥ b) = true → some (Value.int .i64 (W (W (a.tdiv b) - 1))) = some u) ∧
       (decide (W (-2 * W (a - W (W (a.tdiv b) * b))) ≥ b) = false → some (Value.int .i64 (W (a.tdiv b))) = some u))))) := by kernel_rfl
theorem div_is {x n m : Int} (hm : 0 < m) (h1 : n * m ≤ x) (h2 : x < n * m + m) : x / m = n := by
  have a1 := (Int.le_ediv_iff_mul_le (a := n) (b := x) hm).2 h1
  have a2 := (Int.ediv_lt_iff_lt_mul (a := x) (b := n + 1) hm).2 (by rw [Int.add_mul, Int.one_mul]; exact h2)
  omega
theorem small_div {a b : Int} (hb : 1 ≤ b) (ha : 0 ≤ a) : 0 ≤ a / b ∧ a / b ≤ a ∧ a / b * b ≤ a ∧ a < a / b * b + b := by
  have h1 := Int.ediv_nonneg ha (by omega : 0 ≤ b)
  have h2 := Int.ediv_mul_le a (show b ≠ 0 by omega)
  have h3 := Int.lt_ediv_add_one_mul_self a (show 0 < b by omega)
  have h4 : a / b ≤ a / b * b := by
    have := Int.mul_le_mul_of_nonneg_left hb h1
    omega
  rw [Int.add_mul, Int.one_mul] at h3
  exact ⟨h1, by omega, h2, h3⟩
theorem tdiv_pos {a b : Int} (ha : 0 ≤ a) : a.tdiv b = a / b := by rw [Int.tdiv_eq_ediv_of_nonneg ha]
theorem tdiv_neg' {a b : Int} (ha : a ≤ 0) : a.tdiv b = -((-a) / b) := by
  rw [show a = -(-a) from by omega, Int.neg_tdiv, Int.neg_neg, Int.tdiv_eq_ediv_of_nonneg (by omega)]
theorem con31 : ConP Try.prog 31 GNear := by
  refine conP_of_runW hm hT FnsOk.none Try.func31 Try.call31 fun avs p u h hp => ?_
  unfold GNear at h
  split at h
  · rename_i a b
    simp only [Option.some.injEq, Prod.mk.injEq] at h
    obtain ⟨rfl, rfl⟩ := h
    obtain ⟨b1, b2, a1, a2⟩ := hp
    refine ⟨[], 300, [], [di a, di b], [], rfl, of_run (run31 a b _) ⟨fun hn => ?_, fun hn => ?_⟩⟩
    · have hn : a < 0 := by simpa using hn
      have hd := small_div (a := -2 * a + b) (b := 2 * b) (by omega) (by omega)
      simp only [W]
      rw [w64 (x := 2 * b) (by omega) (by omega), w64 (x := -2 * a) (by omega) (by omega), w64 (x := -2 * a + b) (by omega) (by omega), tdiv_pos (by omega), w64 (x := (-2 * a + b) / (2 * b)) (by omega) (by omega), w64 (by omega) (by omega), nearU, if_pos hn, Int.zero_sub]
      exact ⟨by rw [beq_eq_false_iff_ne]; omega, rfl⟩
    · have hn : ¬ a < 0 := by simpa using hn
      have hd := small_div (a := 2 * a + b) (b := 2 * b) (by omega) (by omega)
      simp only [W]
      rw [w64 (x := 2 * b) (by omega) (by omega), w64 (x := 2 * a) (by omega) (by omega), w64 (x := 2 * a + b) (by omega) (by omega), tdiv_pos (by omega), w64 (x := (2 * a + b) / (2 * b)) (by omega) (by omega), nearU, if_neg hn]
      exact ⟨by rw [beq_eq_false_iff_ne]; omega, rfl⟩
  · cases h
theorem con33 : ConP Try.prog 33 GNear := by
  refine conP_of_runW hm hT FnsOk.none Try.func33 Try.call33 fun avs p u h hp => ?_
  unfold GNear at h
  split at h
  · rename_i a b
    simp only [Option.some.injEq, Prod.mk.injEq] at h
    obtain ⟨rfl, rfl⟩ := h
    obtain ⟨b1, b2, a1, a2⟩ := hp
    refine ⟨[], 300, [], [di a, di b], [], rfl, of_run (run33 a b _) ⟨by rw [beq_eq_false_iff_ne]; omega, ?_⟩⟩
    by_cases hn : a < 0
    · have hd := small_div (a := -a) (b := b) b1 (by omega)
      have hq := tdiv_neg' (a := a) (b := b) (by omega)
      have e1 : W (a.tdiv b) = a.tdiv b := w64 (by omega) (by omega)
      have hmul : a.tdiv b * b = -((-a) / b * b) := by rw [hq, Int.neg_mul]
      have e2 : W (a.tdiv b * b) = a.tdiv b * b := w64 (by omega) (by omega)
      rw [e1, e2]
      generalize hm1 : a.tdiv b * b = m at *
      generalize hq1 : a.tdiv b = q at *
      have e3 : W (a - m) = a - m := w64 (by omega) (by omega)
      rw [e3]
      have e4 : W (2 * (a - m)) = 2 * (a - m) := w64 (by omega) (by omega)
      have e5 : W (-2 * (a - m)) = -2 * (a - m) := w64 (by omega) (by omega)
      have e6 : W (q + 1) = q + 1 := w64 (by omega) (by omega)
      have e7 : W (q - 1) = q - 1 := w64 (by omega) (by omega)
      rw [e4, e5, e6, e7]
      have hv : ∀ n : Int, n * b ≤ -a + b / 2 + 0 * n → True := fun _ _ => trivial
      refine ⟨fun h1 => ?_, fun h1 => ⟨fun h2 => ?_, fun h2 => ?_⟩⟩
      · have h1 : 2 * (a - m) ≥ b := by simpa using h1
        omega
      · have h2 : -2 * (a - m) ≥ b := by simpa using h2
        rw [nearU, if_pos hn, div_is (n := (-a) / b + 1) (by omega) (by rw [Int.add_mul, Int.one_mul, Int.mul_left_comm]; omega) (by rw [Int.add_mul, Int.one_mul, Int.mul_left_comm]; omega)]
        rw [show q - 1 = -((-a) / b + 1) from by omega]
      · have h2 : ¬ -2 * (a - m) ≥ b := by simpa using h2
        rw [nearU, if_pos hn, div_is (n := (-a) / b) (by omega) (by rw [Int.mul_left_comm]; omega) (by rw [Int.mul_left_comm]; omega), ← hq]
    · have hd := small_div (a := a) (b := b) b1 (by omega)
      have hq := tdiv_pos (a := a) (b := b) (by omega)
      have e1 : W (a.tdiv b) = a.tdiv b := w64 (by omega) (by omega)
      have hmul : a.tdiv b * b = a / b * b := by rw [hq]
      have e2 : W (a.tdiv b * b) = a.tdiv b * b := w64 (by omega) (by omega)
      rw [e1, e2]
      generalize hm1 : a.tdiv b * b = m at *
      generalize hq1 : a.tdiv b = q at *
      have e3 : W (a - m) = a - m := w64 (by omega) (by omega)
      rw [e3]
      have e4 : W (2 * (a - m)) = 2 * (a - m) := w64 (by omega) (by omega)
      have e5 : W (-2 * (a - m)) = -2 * (a - m) := w64 (by omega) (by omega)
      have e6 : W (q + 1) = q + 1 := w64 (by omega) (by omega)
      have e7 : W (q - 1) = q - 1 := w64 (by omega) (by omega)
      rw [e4, e5, e6, e7]
      refine ⟨fun h1 => ?_, fun h1 => ⟨fun h2 => ?_, fun h2 => ?_⟩⟩
      · have h1 : 2 * (a - m) ≥ b := by simpa using h1
        rw [nearU, if_neg hn, div_is (n := a / b + 1) (by omega) (by rw [Int.add_mul, Int.one_mul, Int.mul_left_comm]; omega) (by rw [Int.add_mul, Int.one_mul, Int.mul_left_comm]; omega), hq]
      · have h2 : -2 * (a - m) ≥ b := by simpa using h2
        omega
      · have h1 : ¬ 2 * (a - m) ≥ b := by simpa using h1
        rw [nearU, if_neg hn, div_is (n := a / b) (by omega) (by rw [Int.mul_left_comm]; omega) (by rw [Int.mul_left_comm]; omega), hq]
  · cases h
end Go.Proofs.Yteikdpagoojdlaa
