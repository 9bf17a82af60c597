/-
  What is proved here: a contract of zigzag.At. A text to be imported.
-/
import Derived.Test.YteikdpagoojdlaaCon2
namespace Go.Proofs.Yteikdpagoojdlaa
open Sm Go Go.RowKit
set_option maxRecDepth 1000000
def atI (r c : Int) : Int := if 0 ≤ r ∧ r ≤ 7 ∧ 0 ≤ c ∧ c ≤ 7 then ((posL.getD (8 * r + c).toNat 0 : Nat) : Int) else -1
def GAt : List ArgV → Option Value
  | [.val (.int .i64 r), .val (.int .i64 c)] => some (.int .i64 (atI r c))
  | _ => none
theorem eight (p : Nat → Prop) (h : ∀ j, j < 8 → ∀ i, i < 8 → p (8 * j + i)) : ∀ n, n < 64 → p n := fun n hn => by
  have := h (n / 8) (by omega) (n % 8) (by omega)
  rwa [show 8 * (n / 8) + n % 8 = n from by omega] at this
@[irreducible] def AtRun27 (n : Nat) : Prop := runK Try.prog T0 F1 2000 Try.f27 [li ((n / 8 : Nat) : Int), li ((n % 8 : Nat) : Int)] [] [] (fun r _ => r = some (li ((posL.getD n 0 : Nat) : Int)))
theorem at27_c0 : AtRun27 0 := of_run (q := some (li 0) = some (li 0)) (by kernel_rfl) rfl
theorem at27_c1 : AtRun27 1 := of_run (q := some (li 1) = some (li 1)) (by kernel_rfl) rfl
theorem at27_c2 : AtRun27 2 := of_run (q := some (li 5) = some (li 5)) (by kernel_rfl) rfl
theorem at27_c3 : AtRun27 3 := of_run (q := some (li 6) = some (li 6)) (by kernel_rfl) rfl
theorem at27_c4 : AtRun27 4 := of_run (q := some (li 14) = some (li 14)) (by kernel_rfl) rfl
theorem at27_c5 : AtRun27 5 := of_run (q := some (li 15) = some (li 15)) (by kernel_rfl) rfl
theorem at27_c6 : AtRun27 6 := of_run (q := some (li 27) = some (li 27)) (by kernel_rfl) rfl
theorem at27_c7 : AtRun27 7 := of_run (q := some (li 28) = some (li 28)) (by kernel_rfl) rfl
theorem at27_c8 : AtRun27 8 := of_run (q := some (li 2) = some (li 2)) (by kernel_rfl) rfl
theorem at27_c9 : AtRun27 9 := of_run (q := some (li 4) = some (li 4)) (by kernel_rfl) rfl
theorem at27_c10 : AtRun27 10 := of_run (q := some (li 7) = some (li 7)) (by kernel_rfl) rfl
theorem at27_c11 : AtRun27 11 := of_run (q := some (li 13) = some (li 13)) (by kernel_rfl) rfl
theorem at27_c12 : AtRun27 12 := of_run (q := some (li 16) = some (li 16)) (by kernel_rfl) rfl
theorem at27_c13 : AtRun27 13 := of_run (q := some (li 26) = some (li 26)) (by kernel_rfl) rfl
theorem at27_c14 : AtRun27 14 := of_run (q := some (li 29) = some (li 29)) (by kernel_rfl) rfl
theorem at27_c15 : AtRun27 15 := of_run (q := some (li 42) = some (li 42)) (by kernel_rfl) rfl
theorem at27_c16 : AtRun27 16 := of_run (q := some (li 3) = some (li 3)) (by kernel_rfl) rfl
theorem at27_c17 : AtRun27 17 := of_run (q := some (li 8) = some (li 8)) (by kernel_rfl) rfl
theorem at27_c18 : AtRun27 18 := of_run (q := some (li 12) = some (li 12)) (by kernel_rfl) rfl
theorem at27_c19 : AtRun27 19 := of_run (q := some (li 17) = some (li 17)) (by kernel_rfl) rfl
theorem at27_c20 : AtRun27 20 := of_run (q := some (li 25) = some (li 25)) (by kernel_rfl) rfl
theorem at27_c21 : AtRun27 21 := of_run (q := some (li 30) = some (li 30)) (by kernel_rfl) rfl
theorem at27_c22 : AtRun27 22 := of_run (q := some (li 41) = some (li 41)) (by kernel_rfl) rfl
theorem at27_c23 : AtRun27 23 := of_run (q := some (li 43) = some (li 43)) (by kernel_rfl) rfl
theorem at27_c24 : AtRun27 24 := of_run (q := some (li 9) = some (li 9)) (by kernel_rfl) rfl
theorem at27_c25 : AtRun27 25 := of_run (q := some (li 11) = some (li 11)) (by kernel_rfl) rfl
theorem at27_c26 : AtRun27 26 := of_run (q := some (li 18) = some (li 18)) (by kernel_rfl) rfl
theorem at27_c27 : AtRun27 27 := of_run (q := some (li 24) = some (li 24)) (by kernel_rfl) rfl
theorem at27_c28 : AtRun27 28 := of_run (q := some (li 31) = some (li 31)) (by kernel_rfl) rfl
theorem at27_c29 : AtRun27 29 := of_run (q := some (li 40) = some (li 40)) (by kernel_rfl) rfl
theorem at27_c30 : AtRun27 30 := of_run (q := some (li 44) = some (li 44)) (by kernel_rfl) rfl
theorem at27_c31 : AtRun27 31 := of_run (q := some (li 53) = some (li 53)) (by kernel_rfl) rfl
theorem at27_c32 : AtRun27 32 := of_run (q := some (li 10) = some (li 10)) (by kernel_rfl) rfl
theorem at27_c33 : AtRun27 33 := of_run (q := some (li 19) = some (li 19)) (by kernel_rfl) rfl
theorem at27_c34 : AtRun27 34 := of_run (q := some (li 23) = some (li 23)) (by kernel_rfl) rfl
theorem at27_c35 : AtRun27 35 := of_run (q := some (li 32) = some (li 32)) (by kernel_rfl) rfl
theorem at27_c36 : AtRun27 36 := of_run (q := some (li 39) = some (li 39)) (by kernel_rfl) rfl
theorem at27_c37 : AtRun27 37 := of_run (q := some (li 45) = some (li 45)) (by kernel_rfl) rfl
theorem at27_c38 : AtRun27 38 := of_run (q := some (li 52) = some (li 52)) (by kernel_rfl) rfl
theorem at27_c39 : AtRun27 39 := of_run (q := some (li 54) = some (li 54)) (by kernel_rfl) rfl
theorem at27_c40 : AtRun27 40 := of_run (q := some (li 20) = some (li 20)) (by kernel_rfl) rfl
theorem at27_c41 : AtRun27 41 := of_run (q := some (li 22) = some (li 22)) (by kernel_rfl) rfl
theorem at27_c42 : AtRun27 42 := of_run (q := some (li 33) = some (li 33)) (by kernel_rfl) rfl
theorem at27_c43 : AtRun27 43 := of_run (q := some (li 38) = some (li 38)) (by kernel_rfl) rfl
theorem at27_c44 : AtRun27 44 := of_run (q := some (li 46) = some (li 46)) (by kernel_rfl) rfl
theorem at27_c45 : AtRun27 45 := of_run (q := some (li 51) = some (li 51)) (by kernel_rfl) rfl
theorem at27_c46 : AtRun27 46 := of_run (q := some (li 55) = some (li 55)) (by kernel_rfl) rfl
theorem at27_c47 : AtRun27 47 := of_run (q := some (li 60) = some (li 60)) (by kernel_rfl) rfl
theorem at27_c48 : AtRun27 48 := of_run (q := some (li 21) = some (li 21)) (by kernel_rfl) rfl
theorem at27_c49 : AtRun27 49 := of_run (q := some (li 34) = some (li 34)) (by kernel_rfl) rfl
theorem at27_c50 : AtRun27 50 := of_run (q := some (li 37) = some (li 37)) (by kernel_rfl) rfl
theorem at27_c51 : AtRun27 51 := of_run (q := some (li 47) = some (li 47)) (by kernel_rfl) rfl
theorem at27_c52 : AtRun27 52 := of_run (q := some (li 50) = some (li 50)) (by kernel_rfl) rfl
theorem at27_c53 : AtRun27 53 := of_run (q := some (li 56) = some (li 56)) (by kernel_rfl) rfl
theorem at27_c54 : AtRun27 54 := of_run (q := some (li 59) = some (li 59)) (by kernel_rfl) rfl
theorem at27_c55 : AtRun27 55 := of_run (q := some (li 61) = some (li 61)) (by kernel_rfl) rfl
theorem at27_c56 : AtRun27 56 := of_run (q := some (li 35) = some (li 35)) (by kernel_rfl) rfl
theorem at27_c57 : AtRun27 57 := of_run (q := some (li 36) = some (li 36)) (by kernel_rfl) rfl
theorem at27_c58 : AtRun27 58 := of_run (q := some (li 48) = some (li 48)) (by kernel_rfl) rfl
theorem at27_c59 : AtRun27 59 := of_run (q := some (li 49) = some (li 49)) (by kernel_rfl) rfl
theorem at27_c60 : AtRun27 60 := of_run (q := some (li 57) = some (li 57)) (by kernel_rfl) rfl
theorem at27_c61 : AtRun27 61 := of_run (q := some (li 58) = some (li 58)) (by kernel_rfl) rfl
theorem at27_c62 : AtRun27 62 := of_run (q := some (li 62) = some (li 62)) (by kernel_rfl) rfl
theorem at27_c63 : AtRun27 63 := of_run (q := some (li 63) = some (li 63)) (by kernel_rfl) rfl
theorem at27_0 : ∀ i, i < 8 → AtRun27 (8 * 0 + i) := by
  intro i h
  match i, h with
  | 0, _ => exact at27_c0
  | 1, _ => exact at27_c1
  | 2, _ => exact at27_c2
  | 3, _ => exact at27_c3
  | 4, _ => exact at27_c4
  | 5, _ => exact at27_c5
  | 6, _ => exact at27_c6
  | 7, _ => exact at27_c7
  | n + 8, h => exact absurd h (by omega)
theorem at27_1 : ∀ i, i < 8 → AtRun27 (8 * 1 + i) := by
  intro i h
  match i, h with
  | 0, _ => exact at27_c8
  | 1, _ => exact at27_c9
  | 2, _ => exact at27_c10
  | 3, _ => exact at27_c11
  | 4, _ => exact at27_c12
  | 5, _ => exact at27_c13
  | 6, _ => exact at27_c14
  | 7, _ => exact at27_c15
  | n + 8, h => exact absurd h (by omega)
theorem at27_2 : ∀ i, i < 8 → AtRun27 (8 * 2 + i) := by
  intro i h
  match i, h with
  | 0, _ => exact at27_c16
  | 1, _ => exact at27_c17
  | 2, _ => exact at27_c18
  | 3, _ => exact at27_c19
  | 4, _ => exact at27_c20
  | 5, _ => exact at27_c21
  | 6, _ => exact at27_c22
  | 7, _ => exact at27_c23
  | n + 8, h => exact absurd h (by omega)
theorem at27_3 : ∀ i, i < 8 → AtRun27 (8 * 3 + i) := by
  intro i h
  match i, h with
  | 0, _ => exact at27_c24
  | 1, _ => exact at27_c25
  | 2, _ => exact at27_c26
  | 3, _ => exact at27_c27
  | 4, _ => exact at27_c28
  | 5, _ => exact at27_c29
  | 6, _ => exact at27_c30
  | 7, _ => exact at27_c31
  | n + 8, h => exact absurd h (by omega)
theorem at27_4 : ∀ i, i < 8 → AtRun27 (8 * 4 + i) := by
  intro i h
  match i, h with
  | 0, _ => exact at27_c32
  | 1, _ => exact at27_c33
  | 2, _ => exact at27_c34
  | 3, _ => exact at27_c35
  | 4, _ => exact at27_c36
  | 5, _ => exact at27_c37
  | 6, _ => exact at27_c38
  | 7, _ => exact at27_c39
  | n + 8, h => exact absurd h (by omega)
theorem at27_5 : ∀ i, i < 8 → AtRun27 (8 * 5 + i) := by
  intro i h
  match i, h with
  | 0, _ => exact at27_c40
  | 1, _ => exact at27_c41
  | 2, _ => exact at27_c42
  | 3, _ => exact at27_c43
  | 4, _ => exact at27_c44
  | 5, _ => exact at27_c45
  | 6, _ => exact at27_c46
  | 7, _ => exact at27_c47
  | n + 8, h => exact absurd h (by omega)
theorem at27_6 : ∀ i, i < 8 → AtRun27 (8 * 6 + i) := by
  intro i h
  match i, h with
  | 0, _ => exact at27_c48
  | 1, _ => exact at27_c49
  | 2, _ => exact at27_c50
  | 3, _ => exact at27_c51
  | 4, _ => exact at27_c52
  | 5, _ => exact at27_c53
  | 6, _ => exact at27_c54
  | 7, _ => exact at27_c55
  | n + 8, h => exact absurd h (by omega)
theorem at27_7 : ∀ i, i < 8 → AtRun27 (8 * 7 + i) := by
  intro i h
  match i, h with
  | 0, _ => exact at27_c56
  | 1, _ => exact at27_c57
  | 2, _ => exact at27_c58
  | 3, _ => exact at27_c59
  | 4, _ => exact at27_c60
  | 5, _ => exact at27_c61
  | 6, _ => exact at27_c62
  | 7, _ => exact at27_c63
  | n + 8, h => exact absurd h (by omega)
theorem at27_all : ∀ n, n < 64 → AtRun27 n := eight _ fun j hj => by
  match j, hj with
  | 0, _ => exact at27_0
  | 1, _ => exact at27_1
  | 2, _ => exact at27_2
  | 3, _ => exact at27_3
  | 4, _ => exact at27_4
  | 5, _ => exact at27_5
  | 6, _ => exact at27_6
  | 7, _ => exact at27_7
  | n + 8, h => exact absurd h (by omega)
theorem at27_out (r c : Int) (h : ¬ (0 ≤ r ∧ r ≤ 7 ∧ 0 ≤ c ∧ c ≤ 7)) : ∃ st n orc v aa bs, canon st [.val (.int .i64 r), .val (.int .i64 c)] 0 = some (aa, bs) ∧ v.toW = some (.int .i64 (-1)) ∧ runK Try.prog T0 F1 n Try.f27 aa bs orc (fun r _ => r = some v) := by
  by_cases h1 : r < 0
  · exact ⟨false, 300, [true], li (-1), [di r, di c], [], rfl, rfl, of_run (q := obs [(decide (r < 0), true)] (some (li (-1)) = some (li (-1)))) (by kernel_rfl) (obs_of _ _ (by simp [h1]) rfl)⟩
  · by_cases h2 : r > 7
    · exact ⟨false, 300, [false, true], li (-1), [di r, di c], [], rfl, rfl, of_run (q := obs [(decide (r < 0), false), (decide (r > 7), true)] (some (li (-1)) = some (li (-1)))) (by kernel_rfl) (obs_of _ _ (by simp [h1, h2]) rfl)⟩
    · by_cases h3 : c < 0
      · exact ⟨false, 300, [false, false, true], li (-1), [di r, di c], [], rfl, rfl, of_run (q := obs [(decide (r < 0), false), (decide (r > 7), false), (decide (c < 0), true)] (some (li (-1)) = some (li (-1)))) (by kernel_rfl) (obs_of _ _ (by simp [h1, h2, h3]) rfl)⟩
      · have h4 : c > 7 := by omega
        exact ⟨false, 300, [false, false, false, true], li (-1), [di r, di c], [], rfl, rfl, of_run (q := obs [(decide (r < 0), false), (decide (r > 7), false), (decide (c < 0), false), (decide (c > 7), true)] (some (li (-1)) = some (li (-1)))) (by kernel_rfl) (obs_of _ _ (by simp [h1, h2, h3, h4]) rfl)⟩
theorem con27 : Con Try.prog 27 GAt := by
  refine con_of_run hm hT0 F1ok Try.func27 Try.call27 fun avs u h => ?_
  unfold GAt at h
  split at h
  · rename_i r c
    simp only [Option.some.injEq] at h; subst h
    by_cases hin : 0 ≤ r ∧ r ≤ 7 ∧ 0 ≤ c ∧ c ≤ 7
    · obtain ⟨h1, h2, h3, h4⟩ := hin
      obtain ⟨a, rfl⟩ := Int.eq_ofNat_of_zero_le h1
      obtain ⟨b, rfl⟩ := Int.eq_ofNat_of_zero_le h3
      have hr := at27_all (8 * a + b) (by omega)
      unfold AtRun27 at hr
      rw [show (8 * a + b) / 8 = a from by omega, show (8 * a + b) % 8 = b from by omega] at hr
      refine ⟨true, 2000, [], _, [li a, li b], [], rfl, ?_, hr⟩
      rw [atI, if_pos ⟨h1, h2, h3, h4⟩, show (8 * (a : Int) + b).toNat = 8 * a + b from by omega]
      rfl
    · have hout := at27_out r c hin
      rw [atI, if_neg hin]
      exact hout
  · cases h
end Go.Proofs.Yteikdpagoojdlaa
