/-
  What is proved here: a contract of the reference's At. A text to be imported.
-/
import Derived.Test.YtepmmicmipmanaaCon3
namespace Go.Proofs.Ytepmmicmipmanaa
open Sm Go Go.RowKit
set_option maxRecDepth 1000000
@[irreducible] def AtRun18 (n : Nat) : Prop := runK Try.prog T F2 2000 Try.f18 [li ((n / 8 : Nat) : Int), li ((n % 8 : Nat) : Int)] [] [] (fun r _ => r = some (li ((posL.getD n 0 : Nat) : Int)))
theorem at18_c0 : AtRun18 0 := of_run (q := some (li 0) = some (li 0)) (by kernel_rfl) rfl
theorem at18_c1 : AtRun18 1 := of_run (q := some (li 1) = some (li 1)) (by kernel_rfl) rfl
theorem at18_c2 : AtRun18 2 := of_run (q := some (li 5) = some (li 5)) (by kernel_rfl) rfl
theorem at18_c3 : AtRun18 3 := of_run (q := some (li 6) = some (li 6)) (by kernel_rfl) rfl
theorem at18_c4 : AtRun18 4 := of_run (q := some (li 14) = some (li 14)) (by kernel_rfl) rfl
theorem at18_c5 : AtRun18 5 := of_run (q := some (li 15) = some (li 15)) (by kernel_rfl) rfl
theorem at18_c6 : AtRun18 6 := of_run (q := some (li 27) = some (li 27)) (by kernel_rfl) rfl
theorem at18_c7 : AtRun18 7 := of_run (q := some (li 28) = some (li 28)) (by kernel_rfl) rfl
theorem at18_c8 : AtRun18 8 := of_run (q := some (li 2) = some (li 2)) (by kernel_rfl) rfl
theorem at18_c9 : AtRun18 9 := of_run (q := some (li 4) = some (li 4)) (by kernel_rfl) rfl
theorem at18_c10 : AtRun18 10 := of_run (q := some (li 7) = some (li 7)) (by kernel_rfl) rfl
theorem at18_c11 : AtRun18 11 := of_run (q := some (li 13) = some (li 13)) (by kernel_rfl) rfl
theorem at18_c12 : AtRun18 12 := of_run (q := some (li 16) = some (li 16)) (by kernel_rfl) rfl
theorem at18_c13 : AtRun18 13 := of_run (q := some (li 26) = some (li 26)) (by kernel_rfl) rfl
theorem at18_c14 : AtRun18 14 := of_run (q := some (li 29) = some (li 29)) (by kernel_rfl) rfl
theorem at18_c15 : AtRun18 15 := of_run (q := some (li 42) = some (li 42)) (by kernel_rfl) rfl
theorem at18_c16 : AtRun18 16 := of_run (q := some (li 3) = some (li 3)) (by kernel_rfl) rfl
theorem at18_c17 : AtRun18 17 := of_run (q := some (li 8) = some (li 8)) (by kernel_rfl) rfl
theorem at18_c18 : AtRun18 18 := of_run (q := some (li 12) = some (li 12)) (by kernel_rfl) rfl
theorem at18_c19 : AtRun18 19 := of_run (q := some (li 17) = some (li 17)) (by kernel_rfl) rfl
theorem at18_c20 : AtRun18 20 := of_run (q := some (li 25) = some (li 25)) (by kernel_rfl) rfl
theorem at18_c21 : AtRun18 21 := of_run (q := some (li 30) = some (li 30)) (by kernel_rfl) rfl
theorem at18_c22 : AtRun18 22 := of_run (q := some (li 41) = some (li 41)) (by kernel_rfl) rfl
theorem at18_c23 : AtRun18 23 := of_run (q := some (li 43) = some (li 43)) (by kernel_rfl) rfl
theorem at18_c24 : AtRun18 24 := of_run (q := some (li 9) = some (li 9)) (by kernel_rfl) rfl
theorem at18_c25 : AtRun18 25 := of_run (q := some (li 11) = some (li 11)) (by kernel_rfl) rfl
theorem at18_c26 : AtRun18 26 := of_run (q := some (li 18) = some (li 18)) (by kernel_rfl) rfl
theorem at18_c27 : AtRun18 27 := of_run (q := some (li 24) = some (li 24)) (by kernel_rfl) rfl
theorem at18_c28 : AtRun18 28 := of_run (q := some (li 31) = some (li 31)) (by kernel_rfl) rfl
theorem at18_c29 : AtRun18 29 := of_run (q := some (li 40) = some (li 40)) (by kernel_rfl) rfl
theorem at18_c30 : AtRun18 30 := of_run (q := some (li 44) = some (li 44)) (by kernel_rfl) rfl
theorem at18_c31 : AtRun18 31 := of_run (q := some (li 53) = some (li 53)) (by kernel_rfl) rfl
theorem at18_c32 : AtRun18 32 := of_run (q := some (li 10) = some (li 10)) (by kernel_rfl) rfl
theorem at18_c33 : AtRun18 33 := of_run (q := some (li 19) = some (li 19)) (by kernel_rfl) rfl
theorem at18_c34 : AtRun18 34 := of_run (q := some (li 23) = some (li 23)) (by kernel_rfl) rfl
theorem at18_c35 : AtRun18 35 := of_run (q := some (li 32) = some (li 32)) (by kernel_rfl) rfl
theorem at18_c36 : AtRun18 36 := of_run (q := some (li 39) = some (li 39)) (by kernel_rfl) rfl
theorem at18_c37 : AtRun18 37 := of_run (q := some (li 45) = some (li 45)) (by kernel_rfl) rfl
theorem at18_c38 : AtRun18 38 := of_run (q := some (li 52) = some (li 52)) (by kernel_rfl) rfl
theorem at18_c39 : AtRun18 39 := of_run (q := some (li 54) = some (li 54)) (by kernel_rfl) rfl
theorem at18_c40 : AtRun18 40 := of_run (q := some (li 20) = some (li 20)) (by kernel_rfl) rfl
theorem at18_c41 : AtRun18 41 := of_run (q := some (li 22) = some (li 22)) (by kernel_rfl) rfl
theorem at18_c42 : AtRun18 42 := of_run (q := some (li 33) = some (li 33)) (by kernel_rfl) rfl
theorem at18_c43 : AtRun18 43 := of_run (q := some (li 38) = some (li 38)) (by kernel_rfl) rfl
theorem at18_c44 : AtRun18 44 := of_run (q := some (li 46) = some (li 46)) (by kernel_rfl) rfl
theorem at18_c45 : AtRun18 45 := of_run (q := some (li 51) = some (li 51)) (by kernel_rfl) rfl
theorem at18_c46 : AtRun18 46 := of_run (q := some (li 55) = some (li 55)) (by kernel_rfl) rfl
theorem at18_c47 : AtRun18 47 := of_run (q := some (li 60) = some (li 60)) (by kernel_rfl) rfl
theorem at18_c48 : AtRun18 48 := of_run (q := some (li 21) = some (li 21)) (by kernel_rfl) rfl
theorem at18_c49 : AtRun18 49 := of_run (q := some (li 34) = some (li 34)) (by kernel_rfl) rfl
theorem at18_c50 : AtRun18 50 := of_run (q := some (li 37) = some (li 37)) (by kernel_rfl) rfl
theorem at18_c51 : AtRun18 51 := of_run (q := some (li 47) = some (li 47)) (by kernel_rfl) rfl
theorem at18_c52 : AtRun18 52 := of_run (q := some (li 50) = some (li 50)) (by kernel_rfl) rfl
theorem at18_c53 : AtRun18 53 := of_run (q := some (li 56) = some (li 56)) (by kernel_rfl) rfl
theorem at18_c54 : AtRun18 54 := of_run (q := some (li 59) = some (li 59)) (by kernel_rfl) rfl
theorem at18_c55 : AtRun18 55 := of_run (q := some (li 61) = some (li 61)) (by kernel_rfl) rfl
theorem at18_c56 : AtRun18 56 := of_run (q := some (li 35) = some (li 35)) (by kernel_rfl) rfl
theorem at18_c57 : AtRun18 57 := of_run (q := some (li 36) = some (li 36)) (by kernel_rfl) rfl
theorem at18_c58 : AtRun18 58 := of_run (q := some (li 48) = some (li 48)) (by kernel_rfl) rfl
theorem at18_c59 : AtRun18 59 := of_run (q := some (li 49) = some (li 49)) (by kernel_rfl) rfl
theorem at18_c60 : AtRun18 60 := of_run (q := some (li 57) = some (li 57)) (by kernel_rfl) rfl
theorem at18_c61 : AtRun18 61 := of_run (q := some (li 58) = some (li 58)) (by kernel_rfl) rfl
theorem at18_c62 : AtRun18 62 := of_run (q := some (li 62) = some (li 62)) (by kernel_rfl) rfl
theorem at18_c63 : AtRun18 63 := of_run (q := some (li 63) = some (li 63)) (by kernel_rfl) rfl
theorem at18_0 : ∀ i, i < 8 → AtRun18 (8 * 0 + i) := by
  intro i h
  match i, h with
  | 0, _ => exact at18_c0
  | 1, _ => exact at18_c1
  | 2, _ => exact at18_c2
  | 3, _ => exact at18_c3
  | 4, _ => exact at18_c4
  | 5, _ => exact at18_c5
  | 6, _ => exact at18_c6
  | 7, _ => exact at18_c7
  | n + 8, h => exact absurd h (by omega)
theorem at18_1 : ∀ i, i < 8 → AtRun18 (8 * 1 + i) := by
  intro i h
  match i, h with
  | 0, _ => exact at18_c8
  | 1, _ => exact at18_c9
  | 2, _ => exact at18_c10
  | 3, _ => exact at18_c11
  | 4, _ => exact at18_c12
  | 5, _ => exact at18_c13
  | 6, _ => exact at18_c14
  | 7, _ => exact at18_c15
  | n + 8, h => exact absurd h (by omega)
theorem at18_2 : ∀ i, i < 8 → AtRun18 (8 * 2 + i) := by
  intro i h
  match i, h with
  | 0, _ => exact at18_c16
  | 1, _ => exact at18_c17
  | 2, _ => exact at18_c18
  | 3, _ => exact at18_c19
  | 4, _ => exact at18_c20
  | 5, _ => exact at18_c21
  | 6, _ => exact at18_c22
  | 7, _ => exact at18_c23
  | n + 8, h => exact absurd h (by omega)
theorem at18_3 : ∀ i, i < 8 → AtRun18 (8 * 3 + i) := by
  intro i h
  match i, h with
  | 0, _ => exact at18_c24
  | 1, _ => exact at18_c25
  | 2, _ => exact at18_c26
  | 3, _ => exact at18_c27
  | 4, _ => exact at18_c28
  | 5, _ => exact at18_c29
  | 6, _ => exact at18_c30
  | 7, _ => exact at18_c31
  | n + 8, h => exact absurd h (by omega)
theorem at18_4 : ∀ i, i < 8 → AtRun18 (8 * 4 + i) := by
  intro i h
  match i, h with
  | 0, _ => exact at18_c32
  | 1, _ => exact at18_c33
  | 2, _ => exact at18_c34
  | 3, _ => exact at18_c35
  | 4, _ => exact at18_c36
  | 5, _ => exact at18_c37
  | 6, _ => exact at18_c38
  | 7, _ => exact at18_c39
  | n + 8, h => exact absurd h (by omega)
theorem at18_5 : ∀ i, i < 8 → AtRun18 (8 * 5 + i) := by
  intro i h
  match i, h with
  | 0, _ => exact at18_c40
  | 1, _ => exact at18_c41
  | 2, _ => exact at18_c42
  | 3, _ => exact at18_c43
  | 4, _ => exact at18_c44
  | 5, _ => exact at18_c45
  | 6, _ => exact at18_c46
  | 7, _ => exact at18_c47
  | n + 8, h => exact absurd h (by omega)
theorem at18_6 : ∀ i, i < 8 → AtRun18 (8 * 6 + i) := by
  intro i h
  match i, h with
  | 0, _ => exact at18_c48
  | 1, _ => exact at18_c49
  | 2, _ => exact at18_c50
  | 3, _ => exact at18_c51
  | 4, _ => exact at18_c52
  | 5, _ => exact at18_c53
  | 6, _ => exact at18_c54
  | 7, _ => exact at18_c55
  | n + 8, h => exact absurd h (by omega)
theorem at18_7 : ∀ i, i < 8 → AtRun18 (8 * 7 + i) := by
  intro i h
  match i, h with
  | 0, _ => exact at18_c56
  | 1, _ => exact at18_c57
  | 2, _ => exact at18_c58
  | 3, _ => exact at18_c59
  | 4, _ => exact at18_c60
  | 5, _ => exact at18_c61
  | 6, _ => exact at18_c62
  | 7, _ => exact at18_c63
  | n + 8, h => exact absurd h (by omega)
theorem at18_all : ∀ n, n < 64 → AtRun18 n := eight _ fun j hj => by
  match j, hj with
  | 0, _ => exact at18_0
  | 1, _ => exact at18_1
  | 2, _ => exact at18_2
  | 3, _ => exact at18_3
  | 4, _ => exact at18_4
  | 5, _ => exact at18_5
  | 6, _ => exact at18_6
  | 7, _ => exact at18_7
  | n + 8, h => exact absurd h (by omega)
def missL (r c : Int) : List (Bool × Bool) := (List.range 64).map fun k => ((rowOf k == r) && ((colOf k == c) && true), false)
theorem row_col (k : Nat) (hk : k < 64) : 0 ≤ rowOf k ∧ rowOf k ≤ 7 ∧ 0 ≤ colOf k ∧ colOf k ≤ 7 := by
  have : ∀ k, k < 64 → 0 ≤ rowOf k ∧ rowOf k ≤ 7 ∧ 0 ≤ colOf k ∧ colOf k ≤ 7 := by decide
  exact this k hk
theorem missL_ok (r c : Int) (h : ¬ (0 ≤ r ∧ r ≤ 7 ∧ 0 ≤ c ∧ c ≤ 7)) : ∀ p ∈ missL r c, p.1 = p.2 := by
  intro p hp
  simp only [missL, List.mem_map, List.mem_range] at hp
  obtain ⟨k, hk, rfl⟩ := hp
  have := row_col k hk
  simp only [Bool.and_true, Bool.and_eq_false_iff, beq_eq_false_iff_ne]
  by_cases e : rowOf k = r
  · right; intro e2; omega
  · left; exact e
theorem at18_out (r c : Int) (h : ¬ (0 ≤ r ∧ r ≤ 7 ∧ 0 ≤ c ∧ c ≤ 7)) : ∃ st n orc v aa bs, canon st [.val (.int .i64 r), .val (.int .i64 c)] 0 = some (aa, bs) ∧ v.toW = some (.int .i64 (-1)) ∧ runK Try.prog T F2 n Try.f18 aa bs orc (fun r _ => r = some v) :=
  ⟨false, 2000, List.replicate 64 false, li (-1), [di r, di c], [], rfl, rfl, of_run (q := obs (missL r c) (some (li (-1)) = some (li (-1)))) (by kernel_rfl) (obs_of _ _ (missL_ok r c h) rfl)⟩
theorem con18 : Con Try.prog 18 GAt := by
  refine con_of_run hm hT F2ok Try.func18 Try.call18 fun avs u h => ?_
  unfold GAt at h
  split at h
  · rename_i r c
    simp only [Option.some.injEq] at h; subst h
    by_cases hin : 0 ≤ r ∧ r ≤ 7 ∧ 0 ≤ c ∧ c ≤ 7
    · obtain ⟨h1, h2, h3, h4⟩ := hin
      obtain ⟨a, rfl⟩ := Int.eq_ofNat_of_zero_le h1
      obtain ⟨b, rfl⟩ := Int.eq_ofNat_of_zero_le h3
      have hr := at18_all (8 * a + b) (by omega)
      unfold AtRun18 at hr
      rw [show (8 * a + b) / 8 = a from by omega, show (8 * a + b) % 8 = b from by omega] at hr
      refine ⟨true, 2000, [], _, [li a, li b], [], rfl, ?_, hr⟩
      rw [atI, if_pos ⟨h1, h2, h3, h4⟩, show (8 * (a : Int) + b).toNat = 8 * a + b from by omega]
      rfl
    · have hout := at18_out r c hin
      rw [atI, if_neg hin]
      exact hout
  · cases h
noncomputable def F4 : Fns := (F3.add 17 GAt).add 18 GAt
theorem F4ok : FnsOk Try.prog F4 := (F3ok.add con17).add con18
end Go.Proofs.Ytepmmicmipmanaa
