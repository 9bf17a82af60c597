/-
  What is proved here: a contract of zigzag.At. A text to be imported.
-/
import Derived.Test.YtepmmicmipmanaaCon2
namespace Go.Proofs.Ytepmmicmipmanaa
open Sm Go Go.RowKit
set_option maxRecDepth 1000000
def atI (r c : Int) : Int := if 0 ≤ r ∧ r ≤ 7 ∧ 0 ≤ c ∧ c ≤ 7 then ((posL.getD (8 * r + c).toNat 0 : Nat) : Int) else -1
def GAt : List ArgV → Option Value
  | [.val (.int .i64 r), .val (.int .i64 c)] => some (.int .i64 (atI r c))
  | _ => none
theorem eight (p : Nat → Prop) (h : ∀ j, j < 8 → ∀ i, i < 8 → p (8 * j + i)) : ∀ n, n < 64 → p n := fun n hn => by
  have := h (n / 8) (by omega) (n % 8) (by omega)
  rwa [show 8 * (n / 8) + n % 8 = n from by omega] at this
@[irreducible] def AtRun17 (n : Nat) : Prop := runK Try.prog T F1 2000 Try.f17 [li ((n / 8 : Nat) : Int), li ((n % 8 : Nat) : Int)] [] [] (fun r _ => r = some (li ((posL.getD n 0 : Nat) : Int)))
theorem at17_c0 : AtRun17 0 := of_run (q := some (li 0) = some (li 0)) (by kernel_rfl) rfl
theorem at17_c1 : AtRun17 1 := of_run (q := some (li 1) = some (li 1)) (by kernel_rfl) rfl
theorem at17_c2 : AtRun17 2 := of_run (q := some (li 5) = some (li 5)) (by kernel_rfl) rfl
theorem at17_c3 : AtRun17 3 := of_run (q := some (li 6) = some (li 6)) (by kernel_rfl) rfl
theorem at17_c4 : AtRun17 4 := of_run (q := some (li 14) = some (li 14)) (by kernel_rfl) rfl
theorem at17_c5 : AtRun17 5 := of_run (q := some (li 15) = some (li 15)) (by kernel_rfl) rfl
theorem at17_c6 : AtRun17 6 := of_run (q := some (li 27) = some (li 27)) (by kernel_rfl) rfl
theorem at17_c7 : AtRun17 7 := of_run (q := some (li 28) = some (li 28)) (by kernel_rfl) rfl
theorem at17_c8 : AtRun17 8 := of_run (q := some (li 2) = some (li 2)) (by kernel_rfl) rfl
theorem at17_c9 : AtRun17 9 := of_run (q := some (li 4) = some (li 4)) (by kernel_rfl) rfl
theorem at17_c10 : AtRun17 10 := of_run (q := some (li 7) = some (li 7)) (by kernel_rfl) rfl
theorem at17_c11 : AtRun17 11 := of_run (q := some (li 13) = some (li 13)) (by kernel_rfl) rfl
theorem at17_c12 : AtRun17 12 := of_run (q := some (li 16) = some (li 16)) (by kernel_rfl) rfl
theorem at17_c13 : AtRun17 13 := of_run (q := some (li 26) = some (li 26)) (by kernel_rfl) rfl
theorem at17_c14 : AtRun17 14 := of_run (q := some (li 29) = some (li 29)) (by kernel_rfl) rfl
theorem at17_c15 : AtRun17 15 := of_run (q := some (li 42) = some (li 42)) (by kernel_rfl) rfl
theorem at17_c16 : AtRun17 16 := of_run (q := some (li 3) = some (li 3)) (by kernel_rfl) rfl
theorem at17_c17 : AtRun17 17 := of_run (q := some (li 8) = some (li 8)) (by kernel_rfl) rfl
theorem at17_c18 : AtRun17 18 := of_run (q := some (li 12) = some (li 12)) (by kernel_rfl) rfl
theorem at17_c19 : AtRun17 19 := of_run (q := some (li 17) = some (li 17)) (by kernel_rfl) rfl
theorem at17_c20 : AtRun17 20 := of_run (q := some (li 25) = some (li 25)) (by kernel_rfl) rfl
theorem at17_c21 : AtRun17 21 := of_run (q := some (li 30) = some (li 30)) (by kernel_rfl) rfl
theorem at17_c22 : AtRun17 22 := of_run (q := some (li 41) = some (li 41)) (by kernel_rfl) rfl
theorem at17_c23 : AtRun17 23 := of_run (q := some (li 43) = some (li 43)) (by kernel_rfl) rfl
theorem at17_c24 : AtRun17 24 := of_run (q := some (li 9) = some (li 9)) (by kernel_rfl) rfl
theorem at17_c25 : AtRun17 25 := of_run (q := some (li 11) = some (li 11)) (by kernel_rfl) rfl
theorem at17_c26 : AtRun17 26 := of_run (q := some (li 18) = some (li 18)) (by kernel_rfl) rfl
theorem at17_c27 : AtRun17 27 := of_run (q := some (li 24) = some (li 24)) (by kernel_rfl) rfl
theorem at17_c28 : AtRun17 28 := of_run (q := some (li 31) = some (li 31)) (by kernel_rfl) rfl
theorem at17_c29 : AtRun17 29 := of_run (q := some (li 40) = some (li 40)) (by kernel_rfl) rfl
theorem at17_c30 : AtRun17 30 := of_run (q := some (li 44) = some (li 44)) (by kernel_rfl) rfl
theorem at17_c31 : AtRun17 31 := of_run (q := some (li 53) = some (li 53)) (by kernel_rfl) rfl
theorem at17_c32 : AtRun17 32 := of_run (q := some (li 10) = some (li 10)) (by kernel_rfl) rfl
theorem at17_c33 : AtRun17 33 := of_run (q := some (li 19) = some (li 19)) (by kernel_rfl) rfl
theorem at17_c34 : AtRun17 34 := of_run (q := some (li 23) = some (li 23)) (by kernel_rfl) rfl
theorem at17_c35 : AtRun17 35 := of_run (q := some (li 32) = some (li 32)) (by kernel_rfl) rfl
theorem at17_c36 : AtRun17 36 := of_run (q := some (li 39) = some (li 39)) (by kernel_rfl) rfl
theorem at17_c37 : AtRun17 37 := of_run (q := some (li 45) = some (li 45)) (by kernel_rfl) rfl
theorem at17_c38 : AtRun17 38 := of_run (q := some (li 52) = some (li 52)) (by kernel_rfl) rfl
theorem at17_c39 : AtRun17 39 := of_run (q := some (li 54) = some (li 54)) (by kernel_rfl) rfl
theorem at17_c40 : AtRun17 40 := of_run (q := some (li 20) = some (li 20)) (by kernel_rfl) rfl
theorem at17_c41 : AtRun17 41 := of_run (q := some (li 22) = some (li 22)) (by kernel_rfl) rfl
theorem at17_c42 : AtRun17 42 := of_run (q := some (li 33) = some (li 33)) (by kernel_rfl) rfl
theorem at17_c43 : AtRun17 43 := of_run (q := some (li 38) = some (li 38)) (by kernel_rfl) rfl
theorem at17_c44 : AtRun17 44 := of_run (q := some (li 46) = some (li 46)) (by kernel_rfl) rfl
theorem at17_c45 : AtRun17 45 := of_run (q := some (li 51) = some (li 51)) (by kernel_rfl) rfl
theorem at17_c46 : AtRun17 46 := of_run (q := some (li 55) = some (li 55)) (by kernel_rfl) rfl
theorem at17_c47 : AtRun17 47 := of_run (q := some (li 60) = some (li 60)) (by kernel_rfl) rfl
theorem at17_c48 : AtRun17 48 := of_run (q := some (li 21) = some (li 21)) (by kernel_rfl) rfl
theorem at17_c49 : AtRun17 49 := of_run (q := some (li 34) = some (li 34)) (by kernel_rfl) rfl
theorem at17_c50 : AtRun17 50 := of_run (q := some (li 37) = some (li 37)) (by kernel_rfl) rfl
theorem at17_c51 : AtRun17 51 := of_run (q := some (li 47) = some (li 47)) (by kernel_rfl) rfl
theorem at17_c52 : AtRun17 52 := of_run (q := some (li 50) = some (li 50)) (by kernel_rfl) rfl
theorem at17_c53 : AtRun17 53 := of_run (q := some (li 56) = some (li 56)) (by kernel_rfl) rfl
theorem at17_c54 : AtRun17 54 := of_run (q := some (li 59) = some (li 59)) (by kernel_rfl) rfl
theorem at17_c55 : AtRun17 55 := of_run (q := some (li 61) = some (li 61)) (by kernel_rfl) rfl
theorem at17_c56 : AtRun17 56 := of_run (q := some (li 35) = some (li 35)) (by kernel_rfl) rfl
theorem at17_c57 : AtRun17 57 := of_run (q := some (li 36) = some (li 36)) (by kernel_rfl) rfl
theorem at17_c58 : AtRun17 58 := of_run (q := some (li 48) = some (li 48)) (by kernel_rfl) rfl
theorem at17_c59 : AtRun17 59 := of_run (q := some (li 49) = some (li 49)) (by kernel_rfl) rfl
theorem at17_c60 : AtRun17 60 := of_run (q := some (li 57) = some (li 57)) (by kernel_rfl) rfl
theorem at17_c61 : AtRun17 61 := of_run (q := some (li 58) = some (li 58)) (by kernel_rfl) rfl
theorem at17_c62 : AtRun17 62 := of_run (q := some (li 62) = some (li 62)) (by kernel_rfl) rfl
theorem at17_c63 : AtRun17 63 := of_run (q := some (li 63) = some (li 63)) (by kernel_rfl) rfl
theorem at17_0 : ∀ i, i < 8 → AtRun17 (8 * 0 + i) := by
  intro i h
  match i, h with
  | 0, _ => exact at17_c0
  | 1, _ => exact at17_c1
  | 2, _ => exact at17_c2
  | 3, _ => exact at17_c3
  | 4, _ => exact at17_c4
  | 5, _ => exact at17_c5
  | 6, _ => exact at17_c6
  | 7, _ => exact at17_c7
  | n + 8, h => exact absurd h (by omega)
theorem at17_1 : ∀ i, i < 8 → AtRun17 (8 * 1 + i) := by
  intro i h
  match i, h with
  | 0, _ => exact at17_c8
  | 1, _ => exact at17_c9
  | 2, _ => exact at17_c10
  | 3, _ => exact at17_c11
  | 4, _ => exact at17_c12
  | 5, _ => exact at17_c13
  | 6, _ => exact at17_c14
  | 7, _ => exact at17_c15
  | n + 8, h => exact absurd h (by omega)
theorem at17_2 : ∀ i, i < 8 → AtRun17 (8 * 2 + i) := by
  intro i h
  match i, h with
  | 0, _ => exact at17_c16
  | 1, _ => exact at17_c17
  | 2, _ => exact at17_c18
  | 3, _ => exact at17_c19
  | 4, _ => exact at17_c20
  | 5, _ => exact at17_c21
  | 6, _ => exact at17_c22
  | 7, _ => exact at17_c23
  | n + 8, h => exact absurd h (by omega)
theorem at17_3 : ∀ i, i < 8 → AtRun17 (8 * 3 + i) := by
  intro i h
  match i, h with
  | 0, _ => exact at17_c24
  | 1, _ => exact at17_c25
  | 2, _ => exact at17_c26
  | 3, _ => exact at17_c27
  | 4, _ => exact at17_c28
  | 5, _ => exact at17_c29
  | 6, _ => exact at17_c30
  | 7, _ => exact at17_c31
  | n + 8, h => exact absurd h (by omega)
theorem at17_4 : ∀ i, i < 8 → AtRun17 (8 * 4 + i) := by
  intro i h
  match i, h with
  | 0, _ => exact at17_c32
  | 1, _ => exact at17_c33
  | 2, _ => exact at17_c34
  | 3, _ => exact at17_c35
  | 4, _ => exact at17_c36
  | 5, _ => exact at17_c37
  | 6, _ => exact at17_c38
  | 7, _ => exact at17_c39
  | n + 8, h => exact absurd h (by omega)
theorem at17_5 : ∀ i, i < 8 → AtRun17 (8 * 5 + i) := by
  intro i h
  match i, h with
  | 0, _ => exact at17_c40
  | 1, _ => exact at17_c41
  | 2, _ => exact at17_c42
  | 3, _ => exact at17_c43
  | 4, _ => exact at17_c44
  | 5, _ => exact at17_c45
  | 6, _ => exact at17_c46
  | 7, _ => exact at17_c47
  | n + 8, h => exact absurd h (by omega)
theorem at17_6 : ∀ i, i < 8 → AtRun17 (8 * 6 + i) := by
  intro i h
  match i, h with
  | 0, _ => exact at17_c48
  | 1, _ => exact at17_c49
  | 2, _ => exact at17_c50
  | 3, _ => exact at17_c51
  | 4, _ => exact at17_c52
  | 5, _ => exact at17_c53
  | 6, _ => exact at17_c54
  | 7, _ => exact at17_c55
  | n + 8, h => exact absurd h (by omega)
theorem at17_7 : ∀ i, i < 8 → AtRun17 (8 * 7 + i) := by
  intro i h
  match i, h with
  | 0, _ => exact at17_c56
  | 1, _ => exact at17_c57
  | 2, _ => exact at17_c58
  | 3, _ => exact at17_c59
  | 4, _ => exact at17_c60
  | 5, _ => exact at17_c61
  | 6, _ => exact at17_c62
  | 7, _ => exact at17_c63
  | n + 8, h => exact absurd h (by omega)
theorem at17_all : ∀ n, n < 64 → AtRun17 n := eight _ fun j hj => by
  match j, hj with
  | 0, _ => exact at17_0
  | 1, _ => exact at17_1
  | 2, _ => exact at17_2
  | 3, _ => exact at17_3
  | 4, _ => exact at17_4
  | 5, _ => exact at17_5
  | 6, _ => exact at17_6
  | 7, _ => exact at17_7
  | n + 8, h => exact absurd h (by omega)
theorem at17_out (r c : Int) (h : ¬ (0 ≤ r ∧ r ≤ 7 ∧ 0 ≤ c ∧ c ≤ 7)) : ∃ st n orc v aa bs, canon st [.val (.int .i64 r), .val (.int .i64 c)] 0 = some (aa, bs) ∧ v.toW = some (.int .i64 (-1)) ∧ runK Try.prog T F1 n Try.f17 aa bs orc (fun r _ => r = some v) := by
  by_cases h1 : r < 0
  · exact ⟨false, 300, [true], li (-1), [di r, di c], [], rfl, rfl, of_run (q := obs [(decide (r < 0), true)] (some (li (-1)) = some (li (-1)))) (by kernel_rfl) (obs_of _ _ (by simp [h1]) rfl)⟩
  · by_cases h2 : r > 7
    · exact ⟨false, 300, [false, true], li (-1), [di r, di c], [], rfl, rfl, of_run (q := obs [(decide (r < 0), false), (decide (r > 7), true)] (some (li (-1)) = some (li (-1)))) (by kernel_rfl) (obs_of _ _ (by simp [h1, h2]) rfl)⟩
    · by_cases h3 : c < 0
      · exact ⟨false, 300, [false, false, true], li (-1), [di r, di c], [], rfl, rfl, of_run (q := obs [(decide (r < 0), false), (decide (r > 7), false), (decide (c < 0), true)] (some (li (-1)) = some (li (-1)))) (by kernel_rfl) (obs_of _ _ (by simp [h1, h2, h3]) rfl)⟩
      · have h4 : c > 7 := by omega
        exact ⟨false, 300, [false, false, false, true], li (-1), [di r, di c], [], rfl, rfl, of_run (q := obs [(decide (r < 0), false), (decide (r > 7), false), (decide (c < 0), false), (decide (c > 7), true)] (some (li (-1)) = some (li (-1)))) (by kernel_rfl) (obs_of _ _ (by simp [h1, h2, h3, h4]) rfl)⟩
theorem con17 : Con Try.prog 17 GAt := by
  refine con_of_run hm hT F1ok Try.func17 Try.call17 fun avs u h => ?_
  unfold GAt at h
  split at h
  · rename_i r c
    simp only [Option.some.injEq] at h; subst h
    by_cases hin : 0 ≤ r ∧ r ≤ 7 ∧ 0 ≤ c ∧ c ≤ 7
    · obtain ⟨h1, h2, h3, h4⟩ := hin
      obtain ⟨a, rfl⟩ := Int.eq_ofNat_of_zero_le h1
      obtain ⟨b, rfl⟩ := Int.eq_ofNat_of_zero_le h3
      have hr := at17_all (8 * a + b) (by omega)
      unfold AtRun17 at hr
      rw [show (8 * a + b) / 8 = a from by omega, show (8 * a + b) % 8 = b from by omega] at hr
      refine ⟨true, 2000, [], _, [li a, li b], [], rfl, ?_, hr⟩
      rw [atI, if_pos ⟨h1, h2, h3, h4⟩, show (8 * (a : Int) + b).toNat = 8 * a + b from by omega]
      rfl
    · have hout := at17_out r c hin
      rw [atI, if_neg hin]
      exact hout
  · cases h
end Go.Proofs.Ytepmmicmipmanaa
