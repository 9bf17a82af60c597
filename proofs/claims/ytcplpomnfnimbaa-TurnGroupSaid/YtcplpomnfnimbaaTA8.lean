/-
  What is proved here: the runs of the law TurnGroup. A text to be imported.
-/
import Derived.Test.YtcplpomnfnimbaaTA7
namespace Go.Proofs.Ytcplpomnfnimbaa
open Sm Go Go.RowKit
set_option maxRecDepth 1000000
set_option linter.unusedVariables false
theorem w8i {x : Int} (h1 : -128 ≤ x) (h2 : x ≤ 127) : IntKind.i8.wrap x = x := by
  simp only [IntKind.wrap, IntKind.bits, IntKind.signed]; simp; split <;> omega
def e8 (x : Int) : Int := IntKind.i8.wrap (IntKind.i64.wrap ((IntKind.i64.wrap (IntKind.i64.wrap x + 128)).tmod 8 + 1))
theorem e8_in {x : Int} (h1 : -128 ≤ x) (h2 : x ≤ 127) : 1 ≤ e8 x ∧ e8 x ≤ 8 := by
  have e : ∀ y : Int, -1000 ≤ y → y ≤ 1000 → IntKind.i64.wrap y = y := fun y h1 h2 => w64 (by omega) (by omega)
  unfold e8
  rw [e x (by omega) (by omega), e (x + 128) (by omega) (by omega), Int.tmod_eq_emod_of_nonneg (by omega), e _ (by omega) (by omega)]
  have h3 := Int.emod_nonneg (x + 128) (show (8 : Int) ≠ 0 by decide)
  have h4 := Int.emod_lt_of_pos (x + 128) (show (0 : Int) < 8 by decide)
  rw [w8i (by omega) (by omega)]
  omega
def bad3 (A B C : Int) : Bool := bif bif thenI 1 A != A then true else thenI A 1 != A then true else thenI (thenI A B) C != thenI A (thenI B C)
def same2 (A B C : Int) : Bool := (thenI A B == thenI A C) == (B == C)
def invT : List Int := [1, 2, 3, 4, 5, 8, 7, 6]
def good (A B C : Int) : Bool := !bad3 A B C && same2 A B C && [1, 2, 3, 4, 5, 6, 7, 8].all fun i : Int => ((thenI A i == 1) == (i == invT.getD (A - 1).toNat 0)) && (!(thenI A i == 1) || !(thenI i A != 1))
theorem good_all : ([1, 2, 3, 4, 5, 6, 7, 8] : List Int).all (fun A => ([1, 2, 3, 4, 5, 6, 7, 8] : List Int).all fun B => ([1, 2, 3, 4, 5, 6, 7, 8] : List Int).all fun C => good A B C) = true := by kernel_rfl
theorem mem8 {A : Int} (h : 1 ≤ A ∧ A ≤ 8) : A ∈ ([1, 2, 3, 4, 5, 6, 7, 8] : List Int) := by
  have : A = 1 ∨ A = 2 ∨ A = 3 ∨ A = 4 ∨ A = 5 ∨ A = 6 ∨ A = 7 ∨ A = 8 := by omega
  simpa using this
theorem good_of {A B C : Int} (hA : 1 ≤ A ∧ A ≤ 8) (hB : 1 ≤ B ∧ B ≤ 8) (hC : 1 ≤ C ∧ C ≤ 8) : good A B C = true :=
  List.all_eq_true.1 (List.all_eq_true.1 (List.all_eq_true.1 good_all A (mem8 hA)) B (mem8 hB)) C (mem8 hC)
def dg (x : Int) : AV := .one (.sc (.int .i8 x) false)
theorem group1 (x y z : Int) : runK Try.prog T FG 600 Try.f9 [dg x, dg y, dg z] [] [.b false, .b true, .b false, .b false, .b false, .b false, .b false, .b false, .b false, .b false] (fun r _ => isTrue r) = (bad3 (e8 x) (e8 y) (e8 z) = false ∧ (thenI (e8 x) 1 == 1) = true ∧ (thenI 1 (e8 x) != 1) = false ∧ (thenI (e8 x) 2 == 1) = false ∧ (thenI (e8 x) 3 == 1) = false ∧ (thenI (e8 x) 4 == 1) = false ∧ (thenI (e8 x) 5 == 1) = false ∧ (thenI (e8 x) 6 == 1) = false ∧ (thenI (e8 x) 7 == 1) = false ∧ (thenI (e8 x) 8 == 1) = false ∧ same2 (e8 x) (e8 y) (e8 z) = true) := by kernel_rfl
theorem group2 (x y z : Int) : runK Try.prog T FG 600 Try.f9 [dg x, dg y, dg z] [] [.b false, .b false, .b true, .b false, .b false, .b false, .b false, .b false, .b false, .b false] (fun r _ => isTrue r) = (bad3 (e8 x) (e8 y) (e8 z) = false ∧ (thenI (e8 x) 1 == 1) = false ∧ (thenI (e8 x) 2 == 1) = true ∧ (thenI 2 (e8 x) != 1) = false ∧ (thenI (e8 x) 3 == 1) = false ∧ (thenI (e8 x) 4 == 1) = false ∧ (thenI (e8 x) 5 == 1) = false ∧ (thenI (e8 x) 6 == 1) = false ∧ (thenI (e8 x) 7 == 1) = false ∧ (thenI (e8 x) 8 == 1) = false ∧ same2 (e8 x) (e8 y) (e8 z) = true) := by kernel_rfl
theorem group3 (x y z : Int) : runK Try.prog T FG 600 Try.f9 [dg x, dg y, dg z] [] [.b false, .b false, .b false, .b true, .b false, .b false, .b false, .b false, .b false, .b false] (fun r _ => isTrue r) = (bad3 (e8 x) (e8 y) (e8 z) = false ∧ (thenI (e8 x) 1 == 1) = false ∧ (thenI (e8 x) 2 == 1) = false ∧ (thenI (e8 x) 3 == 1) = true ∧ (thenI 3 (e8 x) != 1) = false ∧ (thenI (e8 x) 4 == 1) = false ∧ (thenI (e8 x) 5 == 1) = false ∧ (thenI (e8 x) 6 == 1) = false ∧ (thenI (e8 x) 7 == 1) = false ∧ (thenI (e8 x) 8 == 1) = false ∧ same2 (e8 x) (e8 y) (e8 z) = true) := by kernel_rfl
theorem group4 (x y z : Int) : runK Try.prog T FG 600 Try.f9 [dg x, dg y, dg z] [] [.b false, .b false, .b false, .b false, .b true, .b false, .b false, .b false, .b false, .b false] (fun r _ => isTrue r) = (bad3 (e8 x) (e8 y) (e8 z) = false ∧ (thenI (e8 x) 1 == 1) = false ∧ (thenI (e8 x) 2 == 1) = false ∧ (thenI (e8 x) 3 == 1) = false ∧ (thenI (e8 x) 4 == 1) = true ∧ (thenI 4 (e8 x) != 1) = false ∧ (thenI (e8 x) 5 == 1) = false ∧ (thenI (e8 x) 6 == 1) = false ∧ (thenI (e8 x) 7 == 1) = false ∧ (thenI (e8 x) 8 == 1) = false ∧ same2 (e8 x) (e8 y) (e8 z) = true) := by kernel_rfl
theorem group5 (x y z : Int) : runK Try.prog T FG 600 Try.f9 [dg x, dg y, dg z] [] [.b false, .b false, .b false, .b false, .b false, .b true, .b false, .b false, .b false, .b false] (fun r _ => isTrue r) = (bad3 (e8 x) (e8 y) (e8 z) = false ∧ (thenI (e8 x) 1 == 1) = false ∧ (thenI (e8 x) 2 == 1) = false ∧ (thenI (e8 x) 3 == 1) = false ∧ (thenI (e8 x) 4 == 1) = false ∧ (thenI (e8 x) 5 == 1) = true ∧ (thenI 5 (e8 x) != 1) = false ∧ (thenI (e8 x) 6 == 1) = false ∧ (thenI (e8 x) 7 == 1) = false ∧ (thenI (e8 x) 8 == 1) = false ∧ same2 (e8 x) (e8 y) (e8 z) = true) := by kernel_rfl
theorem group6 (x y z : Int) : runK Try.prog T FG 600 Try.f9 [dg x, dg y, dg z] [] [.b false, .b false, .b false, .b false, .b false, .b false, .b true, .b false, .b false, .b false] (fun r _ => isTrue r) = (bad3 (e8 x) (e8 y) (e8 z) = false ∧ (thenI (e8 x) 1 == 1) = false ∧ (thenI (e8 x) 2 == 1) = false ∧ (thenI (e8 x) 3 == 1) = false ∧ (thenI (e8 x) 4 == 1) = false ∧ (thenI (e8 x) 5 == 1) = false ∧ (thenI (e8 x) 6 == 1) = true ∧ (thenI 6 (e8 x) != 1) = false ∧ (thenI (e8 x) 7 == 1) = false ∧ (thenI (e8 x) 8 == 1) = false ∧ same2 (e8 x) (e8 y) (e8 z) = true) := by kernel_rfl
theorem group7 (x y z : Int) : runK Try.prog T FG 600 Try.f9 [dg x, dg y, dg z] [] [.b false, .b false, .b false, .b false, .b false, .b false, .b false, .b true, .b false, .b false] (fun r _ => isTrue r) = (bad3 (e8 x) (e8 y) (e8 z) = false ∧ (thenI (e8 x) 1 == 1) = false ∧ (thenI (e8 x) 2 == 1) = false ∧ (thenI (e8 x) 3 == 1) = false ∧ (thenI (e8 x) 4 == 1) = false ∧ (thenI (e8 x) 5 == 1) = false ∧ (thenI (e8 x) 6 == 1) = false ∧ (thenI (e8 x) 7 == 1) = true ∧ (thenI 7 (e8 x) != 1) = false ∧ (thenI (e8 x) 8 == 1) = false ∧ same2 (e8 x) (e8 y) (e8 z) = true) := by kernel_rfl
theorem group8 (x y z : Int) : runK Try.prog T FG 600 Try.f9 [dg x, dg y, dg z] [] [.b false, .b false, .b false, .b false, .b false, .b false, .b false, .b false, .b true, .b false] (fun r _ => isTrue r) = (bad3 (e8 x) (e8 y) (e8 z) = false ∧ (thenI (e8 x) 1 == 1) = false ∧ (thenI (e8 x) 2 == 1) = false ∧ (thenI (e8 x) 3 == 1) = false ∧ (thenI (e8 x) 4 == 1) = false ∧ (thenI (e8 x) 5 == 1) = false ∧ (thenI (e8 x) 6 == 1) = false ∧ (thenI (e8 x) 7 == 1) = false ∧ (thenI (e8 x) 8 == 1) = true ∧ (thenI 8 (e8 x) != 1) = false ∧ same2 (e8 x) (e8 y) (e8 z) = true) := by kernel_rfl
theorem group_run {x y z : Int} (hx : -128 ≤ x ∧ x ≤ 127) (hy : -128 ≤ y ∧ y ≤ 127) (hz : -128 ≤ z ∧ z ≤ 127) : ∃ orc, runK Try.prog T FG 600 Try.f9 [dg x, dg y, dg z] [] orc (fun r _ => isTrue r) := by
  have hA := e8_in hx.1 hx.2
  have h := good_of hA (e8_in hy.1 hy.2) (e8_in hz.1 hz.2)
  simp only [good, Bool.and_eq_true, Bool.not_eq_true', List.all_cons, List.all_nil, and_true, Bool.or_eq_true, beq_iff_eq] at h
  obtain ⟨⟨h1, h2⟩, g1, g2, g3, g4, g5, g6, g7, g8⟩ := h
  have key : e8 x = 1 ∨ e8 x = 2 ∨ e8 x = 3 ∨ e8 x = 4 ∨ e8 x = 5 ∨ e8 x = 6 ∨ e8 x = 7 ∨ e8 x = 8 := by omega
  rcases key with k | k | k | k | k | k | k | k <;> rw [k] at h1 h2 g1 g2 g3 g4 g5 g6 g7 g8
  · exact ⟨_, of_run (group1 x y z) ⟨by rw [k]; exact h1, by rw [k]; decide, by rw [k]; decide, by rw [k]; decide, by rw [k]; decide, by rw [k]; decide, by rw [k]; decide, by rw [k]; decide, by rw [k]; decide, by rw [k]; decide, by rw [k]; exact h2⟩⟩
  · exact ⟨_, of_run (group2 x y z) ⟨by rw [k]; exact h1, by rw [k]; decide, by rw [k]; decide, by rw [k]; decide, by rw [k]; decide, by rw [k]; decide, by rw [k]; decide, by rw [k]; decide, by rw [k]; decide, by rw [k]; decide, by rw [k]; exact h2⟩⟩
  · exact ⟨_, of_run (group3 x y z) ⟨by rw [k]; exact h1, by rw [k]; decide, by rw [k]; decide, by rw [k]; decide, by rw [k]; decide, by rw [k]; decide, by rw [k]; decide, by rw [k]; decide, by rw [k]; decide, by rw [k]; decide, by rw [k]; exact h2⟩⟩
  · exact ⟨_, of_run (group4 x y z) ⟨by rw [k]; exact h1, by rw [k]; decide, by rw [k]; decide, by rw [k]; decide, by rw [k]; decide, by rw [k]; decide, by rw [k]; decide, by rw [k]; decide, by rw [k]; decide, by rw [k]; decide, by rw [k]; exact h2⟩⟩
  · exact ⟨_, of_run (group5 x y z) ⟨by rw [k]; exact h1, by rw [k]; decide, by rw [k]; decide, by rw [k]; decide, by rw [k]; decide, by rw [k]; decide, by rw [k]; decide, by rw [k]; decide, by rw [k]; decide, by rw [k]; decide, by rw [k]; exact h2⟩⟩
  · exact ⟨_, of_run (group8 x y z) ⟨by rw [k]; exact h1, by rw [k]; decide, by rw [k]; decide, by rw [k]; decide, by rw [k]; decide, by rw [k]; decide, by rw [k]; decide, by rw [k]; decide, by rw [k]; decide, by rw [k]; decide, by rw [k]; exact h2⟩⟩
  · exact ⟨_, of_run (group7 x y z) ⟨by rw [k]; exact h1, by rw [k]; decide, by rw [k]; decide, by rw [k]; decide, by rw [k]; decide, by rw [k]; decide, by rw [k]; decide, by rw [k]; decide, by rw [k]; decide, by rw [k]; decide, by rw [k]; exact h2⟩⟩
  · exact ⟨_, of_run (group6 x y z) ⟨by rw [k]; exact h1, by rw [k]; decide, by rw [k]; decide, by rw [k]; decide, by rw [k]; decide, by rw [k]; decide, by rw [k]; decide, by rw [k]; decide, by rw [k]; decide, by rw [k]; decide, by rw [k]; exact h2⟩⟩
end Go.Proofs.Ytcplpomnfnimbaa
