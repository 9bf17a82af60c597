/-
  What is proved here: contracts of zigzag.Place and of the reference's Place. A text to be imported.
-/
import Derived.Test.YteikdpagoojdlaaCon1
namespace Go.Proofs.Yteikdpagoojdlaa
open Sm Go Go.RowKit
set_option maxRecDepth 1000000
def rowOf (n : Nat) : Int := ((orderL.getD n 0 / 8 : Nat) : Int)
def colOf (n : Nat) : Int := ((orderL.getD n 0 % 8 : Nat) : Int)
def pok (k : Int) : Bool := decide (0 ≤ k ∧ k ≤ 63)
def prow (k : Int) : Int := if pok k then rowOf k.toNat else 0
def pcol (k : Int) : Int := if pok k then colOf k.toNat else 0
def placeV (k : Int) : Value := .tuple #[.int .i64 (prow k), .int .i64 (pcol k), .bool (pok k)]
def GPlace : List ArgV → Option Value
  | [.val (.int .i64 k)] => some (placeV k)
  | _ => none
def sI (n : Int) : Bool × List C1 := (false, [.sc (.int .i64 n) true])
def sB (b : Bool) : Bool × List C1 := (false, [.sc (.bool b) true])
def placeA (n : Nat) : AV := .tup [sI (rowOf n), sI (colOf n), sB true]
def noneA : AV := .tup [sI 0, sI 0, sB false]
def PlaceRun (F : Fns) (fn : Func) (n : Nat) : Prop := runK Try.prog T0 F 400 fn [li n] [] [] (fun r _ => r = some (placeA n))
theorem place26_0 : ∀ i, 0 ≤ i → i < 16 → PlaceRun F1 Try.f26 i := by
  intro i h0 h1
  match i, h0, h1 with
  | 0, _, _ => exact of_run (q := some (placeA 0) = some (placeA 0)) (by kernel_rfl) rfl
  | 1, _, _ => exact of_run (q := some (placeA 1) = some (placeA 1)) (by kernel_rfl) rfl
  | 2, _, _ => exact of_run (q := some (placeA 2) = some (placeA 2)) (by kernel_rfl) rfl
  | 3, _, _ => exact of_run (q := some (placeA 3) = some (placeA 3)) (by kernel_rfl) rfl
  | 4, _, _ => exact of_run (q := some (placeA 4) = some (placeA 4)) (by kernel_rfl) rfl
  | 5, _, _ => exact of_run (q := some (placeA 5) = some (placeA 5)) (by kernel_rfl) rfl
  | 6, _, _ => exact of_run (q := some (placeA 6) = some (placeA 6)) (by kernel_rfl) rfl
  | 7, _, _ => exact of_run (q := some (placeA 7) = some (placeA 7)) (by kernel_rfl) rfl
  | 8, _, _ => exact of_run (q := some (placeA 8) = some (placeA 8)) (by kernel_rfl) rfl
  | 9, _, _ => exact of_run (q := some (placeA 9) = some (placeA 9)) (by kernel_rfl) rfl
  | 10, _, _ => exact of_run (q := some (placeA 10) = some (placeA 10)) (by kernel_rfl) rfl
  | 11, _, _ => exact of_run (q := some (placeA 11) = some (placeA 11)) (by kernel_rfl) rfl
  | 12, _, _ => exact of_run (q := some (placeA 12) = some (placeA 12)) (by kernel_rfl) rfl
  | 13, _, _ => exact of_run (q := some (placeA 13) = some (placeA 13)) (by kernel_rfl) rfl
  | 14, _, _ => exact of_run (q := some (placeA 14) = some (placeA 14)) (by kernel_rfl) rfl
  | 15, _, _ => exact of_run (q := some (placeA 15) = some (placeA 15)) (by kernel_rfl) rfl
  | n + 16, _, h => exact absurd h (by omega)
theorem place26_1 : ∀ i, 16 ≤ i → i < 32 → PlaceRun F1 Try.f26 i := by
  intro i h0 h1
  match i, h0, h1 with
  | 16, _, _ => exact of_run (q := some (placeA 16) = some (placeA 16)) (by kernel_rfl) rfl
  | 17, _, _ => exact of_run (q := some (placeA 17) = some (placeA 17)) (by kernel_rfl) rfl
  | 18, _, _ => exact of_run (q := some (placeA 18) = some (placeA 18)) (by kernel_rfl) rfl
  | 19, _, _ => exact of_run (q := some (placeA 19) = some (placeA 19)) (by kernel_rfl) rfl
  | 20, _, _ => exact of_run (q := some (placeA 20) = some (placeA 20)) (by kernel_rfl) rfl
  | 21, _, _ => exact of_run (q := some (placeA 21) = some (placeA 21)) (by kernel_rfl) rfl
  | 22, _, _ => exact of_run (q := some (placeA 22) = some (placeA 22)) (by kernel_rfl) rfl
  | 23, _, _ => exact of_run (q := some (placeA 23) = some (placeA 23)) (by kernel_rfl) rfl
  | 24, _, _ => exact of_run (q := some (placeA 24) = some (placeA 24)) (by kernel_rfl) rfl
  | 25, _, _ => exact of_run (q := some (placeA 25) = some (placeA 25)) (by kernel_rfl) rfl
  | 26, _, _ => exact of_run (q := some (placeA 26) = some (placeA 26)) (by kernel_rfl) rfl
  | 27, _, _ => exact of_run (q := some (placeA 27) = some (placeA 27)) (by kernel_rfl) rfl
  | 28, _, _ => exact of_run (q := some (placeA 28) = some (placeA 28)) (by kernel_rfl) rfl
  | 29, _, _ => exact of_run (q := some (placeA 29) = some (placeA 29)) (by kernel_rfl) rfl
  | 30, _, _ => exact of_run (q := some (placeA 30) = some (placeA 30)) (by kernel_rfl) rfl
  | 31, _, _ => exact of_run (q := some (placeA 31) = some (placeA 31)) (by kernel_rfl) rfl
  | n + 32, _, h => exact absurd h (by omega)
theorem place26_2 : ∀ i, 32 ≤ i → i < 48 → PlaceRun F1 Try.f26 i := by
  intro i h0 h1
  match i, h0, h1 with
  | 32, _, _ => exact of_run (q := some (placeA 32) = some (placeA 32)) (by kernel_rfl) rfl
  | 33, _, _ => exact of_run (q := some (placeA 33) = some (placeA 33)) (by kernel_rfl) rfl
  | 34, _, _ => exact of_run (q := some (placeA 34) = some (placeA 34)) (by kernel_rfl) rfl
  | 35, _, _ => exact of_run (q := some (placeA 35) = some (placeA 35)) (by kernel_rfl) rfl
  | 36, _, _ => exact of_run (q := some (placeA 36) = some (placeA 36)) (by kernel_rfl) rfl
  | 37, _, _ => exact of_run (q := some (placeA 37) = some (placeA 37)) (by kernel_rfl) rfl
  | 38, _, _ => exact of_run (q := some (placeA 38) = some (placeA 38)) (by kernel_rfl) rfl
  | 39, _, _ => exact of_run (q := some (placeA 39) = some (placeA 39)) (by kernel_rfl) rfl
  | 40, _, _ => exact of_run (q := some (placeA 40) = some (placeA 40)) (by kernel_rfl) rfl
  | 41, _, _ => exact of_run (q := some (placeA 41) = some (placeA 41)) (by kernel_rfl) rfl
  | 42, _, _ => exact of_run (q := some (placeA 42) = some (placeA 42)) (by kernel_rfl) rfl
  | 43, _, _ => exact of_run (q := some (placeA 43) = some (placeA 43)) (by kernel_rfl) rfl
  | 44, _, _ => exact of_run (q := some (placeA 44) = some (placeA 44)) (by kernel_rfl) rfl
  | 45, _, _ => exact of_run (q := some (placeA 45) = some (placeA 45)) (by kernel_rfl) rfl
  | 46, _, _ => exact of_run (q := some (placeA 46) = some (placeA 46)) (by kernel_rfl) rfl
  | 47, _, _ => exact of_run (q := some (placeA 47) = some (placeA 47)) (by kernel_rfl) rfl
  | n + 48, _, h => exact absurd h (by omega)
theorem place26_3 : ∀ i, 48 ≤ i → i < 64 → PlaceRun F1 Try.f26 i := by
  intro i h0 h1
  match i, h0, h1 with
  | 48, _, _ => exact of_run (q := some (placeA 48) = some (placeA 48)) (by kernel_rfl) rfl
  | 49, _, _ => exact of_run (q := some (placeA 49) = some (placeA 49)) (by kernel_rfl) rfl
  | 50, _, _ => exact of_run (q := some (placeA 50) = some (placeA 50)) (by kernel_rfl) rfl
  | 51, _, _ => exact of_run (q := some (placeA 51) = some (placeA 51)) (by kernel_rfl) rfl
  | 52, _, _ => exact of_run (q := some (placeA 52) = some (placeA 52)) (by kernel_rfl) rfl
  | 53, _, _ => exact of_run (q := some (placeA 53) = some (placeA 53)) (by kernel_rfl) rfl
  | 54, _, _ => exact of_run (q := some (placeA 54) = some (placeA 54)) (by kernel_rfl) rfl
  | 55, _, _ => exact of_run (q := some (placeA 55) = some (placeA 55)) (by kernel_rfl) rfl
  | 56, _, _ => exact of_run (q := some (placeA 56) = some (placeA 56)) (by kernel_rfl) rfl
  | 57, _, _ => exact of_run (q := some (placeA 57) = some (placeA 57)) (by kernel_rfl) rfl
  | 58, _, _ => exact of_run (q := some (placeA 58) = some (placeA 58)) (by kernel_rfl) rfl
  | 59, _, _ => exact of_run (q := some (placeA 59) = some (placeA 59)) (by kernel_rfl) rfl
  | 60, _, _ => exact of_run (q := some (placeA 60) = some (placeA 60)) (by kernel_rfl) rfl
  | 61, _, _ => exact of_run (q := some (placeA 61) = some (placeA 61)) (by kernel_rfl) rfl
  | 62, _, _ => exact of_run (q := some (placeA 62) = some (placeA 62)) (by kernel_rfl) rfl
  | 63, _, _ => exact of_run (q := some (placeA 63) = some (placeA 63)) (by kernel_rfl) rfl
  | n + 64, _, h => exact absurd h (by omega)
theorem place26_low (k : Int) : runK Try.prog T0 F1 400 Try.f26 [di k] [] [true] (fun r _ => r = some noneA) = obs [(decide (k < 0), true)] (some noneA = some noneA) := by kernel_rfl
theorem place26_high (k : Int) : runK Try.prog T0 F1 400 Try.f26 [di k] [] [false, true] (fun r _ => r = some noneA) = obs [(decide (k < 0), false), (decide (k > 63), true)] (some noneA = some noneA) := by kernel_rfl
theorem con26 : Con Try.prog 26 GPlace := by
  refine con_of_run hm hT0 F1ok Try.func26 Try.call26 fun avs u h => ?_
  unfold GPlace at h
  split at h
  · rename_i k
    simp only [Option.some.injEq] at h; subst h
    by_cases h1 : k < 0
    · refine ⟨false, 400, [true], noneA, [di k], [], rfl, ?_, of_run (place26_low k) (obs_of _ _ (by simp [h1]) rfl)⟩
      rw [placeV, prow, pcol, show pok k = false from decide_eq_false (by omega)]; rfl
    · by_cases h2 : k > 63
      · refine ⟨false, 400, [false, true], noneA, [di k], [], rfl, ?_, of_run (place26_high k) (obs_of _ _ (by simp [h1, h2]) rfl)⟩
        rw [placeV, prow, pcol, show pok k = false from decide_eq_false (by omega)]; rfl
      · obtain ⟨n, rfl⟩ := Int.eq_ofNat_of_zero_le (show 0 ≤ k by omega)
        have hr : PlaceRun F1 Try.f26 n := by
          by_cases a1 : n < 16
          · exact place26_0 n (by omega) a1
          · by_cases a2 : n < 32
            · exact place26_1 n (by omega) a2
            · by_cases a3 : n < 48
              · exact place26_2 n (by omega) a3
              · exact place26_3 n (by omega) (by omega)
        refine ⟨true, 400, [], placeA n, [li n], [], rfl, ?_, hr⟩
        rw [placeV, prow, pcol, show pok (n : Int) = true from decide_eq_true (by omega)]; rfl
  · cases h
theorem place32_0 : ∀ i, 0 ≤ i → i < 16 → PlaceRun F2 Try.f32 i := by
  intro i h0 h1
  match i, h0, h1 with
  | 0, _, _ => exact of_run (q := some (placeA 0) = some (placeA 0)) (by kernel_rfl) rfl
  | 1, _, _ => exact of_run (q := some (placeA 1) = some (placeA 1)) (by kernel_rfl) rfl
  | 2, _, _ => exact of_run (q := some (placeA 2) = some (placeA 2)) (by kernel_rfl) rfl
  | 3, _, _ => exact of_run (q := some (placeA 3) = some (placeA 3)) (by kernel_rfl) rfl
  | 4, _, _ => exact of_run (q := some (placeA 4) = some (placeA 4)) (by kernel_rfl) rfl
  | 5, _, _ => exact of_run (q := some (placeA 5) = some (placeA 5)) (by kernel_rfl) rfl
  | 6, _, _ => exact of_run (q := some (placeA 6) = some (placeA 6)) (by kernel_rfl) rfl
  | 7, _, _ => exact of_run (q := some (placeA 7) = some (placeA 7)) (by kernel_rfl) rfl
  | 8, _, _ => exact of_run (q := some (placeA 8) = some (placeA 8)) (by kernel_rfl) rfl
  | 9, _, _ => exact of_run (q := some (placeA 9) = some (placeA 9)) (by kernel_rfl) rfl
  | 10, _, _ => exact of_run (q := some (placeA 10) = some (placeA 10)) (by kernel_rfl) rfl
  | 11, _, _ => exact of_run (q := some (placeA 11) = some (placeA 11)) (by kernel_rfl) rfl
  | 12, _, _ => exact of_run (q := some (placeA 12) = some (placeA 12)) (by kernel_rfl) rfl
  | 13, _, _ => exact of_run (q := some (placeA 13) = some (placeA 13)) (by kernel_rfl) rfl
  | 14, _, _ => exact of_run (q := some (placeA 14) = some (placeA 14)) (by kernel_rfl) rfl
  | 15, _, _ => exact of_run (q := some (placeA 15) = some (placeA 15)) (by kernel_rfl) rfl
  | n + 16, _, h => exact absurd h (by omega)
theorem place32_1 : ∀ i, 16 ≤ i → i < 32 → PlaceRun F2 Try.f32 i := by
  intro i h0 h1
  match i, h0, h1 with
  | 16, _, _ => exact of_run (q := some (placeA 16) = some (placeA 16)) (by kernel_rfl) rfl
  | 17, _, _ => exact of_run (q := some (placeA 17) = some (placeA 17)) (by kernel_rfl) rfl
  | 18, _, _ => exact of_run (q := some (placeA 18) = some (placeA 18)) (by kernel_rfl) rfl
  | 19, _, _ => exact of_run (q := some (placeA 19) = some (placeA 19)) (by kernel_rfl) rfl
  | 20, _, _ => exact of_run (q := some (placeA 20) = some (placeA 20)) (by kernel_rfl) rfl
  | 21, _, _ => exact of_run (q := some (placeA 21) = some (placeA 21)) (by kernel_rfl) rfl
  | 22, _, _ => exact of_run (q := some (placeA 22) = some (placeA 22)) (by kernel_rfl) rfl
  | 23, _, _ => exact of_run (q := some (placeA 23) = some (placeA 23)) (by kernel_rfl) rfl
  | 24, _, _ => exact of_run (q := some (placeA 24) = some (placeA 24)) (by kernel_rfl) rfl
  | 25, _, _ => exact of_run (q := some (placeA 25) = some (placeA 25)) (by kernel_rfl) rfl
  | 26, _, _ => exact of_run (q := some (placeA 26) = some (placeA 26)) (by kernel_rfl) rfl
  | 27, _, _ => exact of_run (q := some (placeA 27) = some (placeA 27)) (by kernel_rfl) rfl
  | 28, _, _ => exact of_run (q := some (placeA 28) = some (placeA 28)) (by kernel_rfl) rfl
  | 29, _, _ => exact of_run (q := some (placeA 29) = some (placeA 29)) (by kernel_rfl) rfl
  | 30, _, _ => exact of_run (q := some (placeA 30) = some (placeA 30)) (by kernel_rfl) rfl
  | 31, _, _ => exact of_run (q := some (placeA 31) = some (placeA 31)) (by kernel_rfl) rfl
  | n + 32, _, h => exact absurd h (by omega)
theorem place32_2 : ∀ i, 32 ≤ i → i < 48 → PlaceRun F2 Try.f32 i := by
  intro i h0 h1
  match i, h0, h1 with
  | 32, _, _ => exact of_run (q := some (placeA 32) = some (placeA 32)) (by kernel_rfl) rfl
  | 33, _, _ => exact of_run (q := some (placeA 33) = some (placeA 33)) (by kernel_rfl) rfl
  | 34, _, _ => exact of_run (q := some (placeA 34) = some (placeA 34)) (by kernel_rfl) rfl
  | 35, _, _ => exact of_run (q := some (placeA 35) = some (placeA 35)) (by kernel_rfl) rfl
  | 36, _, _ => exact of_run (q := some (placeA 36) = some (placeA 36)) (by kernel_rfl) rfl
  | 37, _, _ => exact of_run (q := some (placeA 37) = some (placeA 37)) (by kernel_rfl) rfl
  | 38, _, _ => exact of_run (q := some (placeA 38) = some (placeA 38)) (by kernel_rfl) rfl
  | 39, _, _ => exact of_run (q := some (placeA 39) = some (placeA 39)) (by kernel_rfl) rfl
  | 40, _, _ => exact of_run (q := some (placeA 40) = some (placeA 40)) (by kernel_rfl) rfl
  | 41, _, _ => exact of_run (q := some (placeA 41) = some (placeA 41)) (by kernel_rfl) rfl
  | 42, _, _ => exact of_run (q := some (placeA 42) = some (placeA 42)) (by kernel_rfl) rfl
  | 43, _, _ => exact of_run (q := some (placeA 43) = some (placeA 43)) (by kernel_rfl) rfl
  | 44, _, _ => exact of_run (q := some (placeA 44) = some (placeA 44)) (by kernel_rfl) rfl
  | 45, _, _ => exact of_run (q := some (placeA 45) = some (placeA 45)) (by kernel_rfl) rfl
  | 46, _, _ => exact of_run (q := some (placeA 46) = some (placeA 46)) (by kernel_rfl) rfl
  | 47, _, _ => exact of_run (q := some (placeA 47) = some (placeA 47)) (by kernel_rfl) rfl
  | n + 48, _, h => exact absurd h (by omega)
theorem place32_3 : ∀ i, 48 ≤ i → i < 64 → PlaceRun F2 Try.f32 i := by
  intro i h0 h1
  match i, h0, h1 with
  | 48, _, _ => exact of_run (q := some (placeA 48) = some (placeA 48)) (by kernel_rfl) rfl
  | 49, _, _ => exact of_run (q := some (placeA 49) = some (placeA 49)) (by kernel_rfl) rfl
  | 50, _, _ => exact of_run (q := some (placeA 50) = some (placeA 50)) (by kernel_rfl) rfl
  | 51, _, _ => exact of_run (q := some (placeA 51) = some (placeA 51)) (by kernel_rfl) rfl
  | 52, _, _ => exact of_run (q := some (placeA 52) = some (placeA 52)) (by kernel_rfl) rfl
  | 53, _, _ => exact of_run (q := some (placeA 53) = some (placeA 53)) (by kernel_rfl) rfl
  | 54, _, _ => exact of_run (q := some (placeA 54) = some (placeA 54)) (by kernel_rfl) rfl
  | 55, _, _ => exact of_run (q := some (placeA 55) = some (placeA 55)) (by kernel_rfl) rfl
  | 56, _, _ => exact of_run (q := some (placeA 56) = some (placeA 56)) (by kernel_rfl) rfl
  | 57, _, _ => exact of_run (q := some (placeA 57) = some (placeA 57)) (by kernel_rfl) rfl
  | 58, _, _ => exact of_run (q := some (placeA 58) = some (placeA 58)) (by kernel_rfl) rfl
  | 59, _, _ => exact of_run (q := some (placeA 59) = some (placeA 59)) (by kernel_rfl) rfl
  | 60, _, _ => exact of_run (q := some (placeA 60) = some (placeA 60)) (by kernel_rfl) rfl
  | 61, _, _ => exact of_run (q := some (placeA 61) = some (placeA 61)) (by kernel_rfl) rfl
  | 62, _, _ => exact of_run (q := some (placeA 62) = some (placeA 62)) (by kernel_rfl) rfl
  | 63, _, _ => exact of_run (q := some (placeA 63) = some (placeA 63)) (by kernel_rfl) rfl
  | n + 64, _, h => exact absurd h (by omega)
theorem place32_low (k : Int) : runK Try.prog T0 F2 400 Try.f32 [di k] [] [true] (fun r _ => r = some noneA) = obs [(decide (k < 0), true)] (some noneA = some noneA) := by kernel_rfl
theorem place32_high (k : Int) : runK Try.prog T0 F2 400 Try.f32 [di k] [] [false, true] (fun r _ => r = some noneA) = obs [(decide (k < 0), false), (decide (k > 63), true)] (some noneA = some noneA) := by kernel_rfl
theorem con32 : Con Try.prog 32 GPlace := by
  refine con_of_run hm hT0 F2ok Try.func32 Try.call32 fun avs u h => ?_
  unfold GPlace at h
  split at h
  · rename_i k
    simp only [Option.some.injEq] at h; subst h
    by_cases h1 : k < 0
    · refine ⟨false, 400, [true], noneA, [di k], [], rfl, ?_, of_run (place32_low k) (obs_of _ _ (by simp [h1]) rfl)⟩
      rw [placeV, prow, pcol, show pok k = false from decide_eq_false (by omega)]; rfl
    · by_cases h2 : k > 63
      · refine ⟨false, 400, [false, true], noneA, [di k], [], rfl, ?_, of_run (place32_high k) (obs_of _ _ (by simp [h1, h2]) rfl)⟩
        rw [placeV, prow, pcol, show pok k = false from decide_eq_false (by omega)]; rfl
      · obtain ⟨n, rfl⟩ := Int.eq_ofNat_of_zero_le (show 0 ≤ k by omega)
        have hr : PlaceRun F2 Try.f32 n := by
          by_cases a1 : n < 16
          · exact place32_0 n (by omega) a1
          · by_cases a2 : n < 32
            · exact place32_1 n (by omega) a2
            · by_cases a3 : n < 48
              · exact place32_2 n (by omega) a3
              · exact place32_3 n (by omega) (by omega)
        refine ⟨true, 400, [], placeA n, [li n], [], rfl, ?_, hr⟩
        rw [placeV, prow, pcol, show pok (n : Int) = true from decide_eq_true (by omega)]; rfl
  · cases h
noncomputable def F3 : Fns := (F2.add 26 GPlace).add 32 GPlace
theorem F3ok : FnsOk Try.prog F3 := (F2ok.add con26).add con32
end Go.Proofs.Yteikdpagoojdlaa
