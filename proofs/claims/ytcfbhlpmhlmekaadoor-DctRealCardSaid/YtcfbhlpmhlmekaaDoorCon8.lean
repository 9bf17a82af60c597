/-
  What is proved here: contracts of the waves as floats (mosaiclaw09.wave, mosaicref09.Wave), place by place. A text to be imported.
-/
import Derived.Test.YtcfbhlpmhlmekaaDoorCon6
import Derived.Test.YtcfbhlpmhlmekaaDoorSimR
namespace Go.Proofs.YtcfbhlpmhlmekaaDoor
open Sm Go Go.RowKit
set_option maxRecDepth 1000000
def cosW : List Nat := [4604544271217802189, 4604544271217802189, 4604544271217802189, 4604544271217802189, 4604544271217802189, 4604544271217802189, 4604544271217802189, 4604544271217802189, 4607009347991985328, 4605664432017547684, 4603179351334086857, 4596196889902818828, 13819568926757594632, 13826551388188862662, 13829036468872323492, 13830381384846761135, 4606496786581982534, 4600565431771507044, 13823937468626282850, 13829868823436758342, 13829868823436758343, 13823937468626282861, 4600565431771507047, 4606496786581982532, 4605664432017547684, 13819568926757594632, 13830381384846761135, 13826551388188862664, 4603179351334086853, 4607009347991985328, 4596196889902818845, 13829036468872323491, 4604544271217802189, 13827916308072577996, 13827916308072577998, 4604544271217802188, 4604544271217802190, 13827916308072577989, 13827916308072577994, 4604544271217802181, 4603179351334086857, 13830381384846761135, 4596196889902818827, 4605664432017547685, 13829036468872323491, 13819568926757594626, 4607009347991985330, 13826551388188862658, 4600565431771507044, 13829868823436758343, 4606496786581982532, 13823937468626282852, 13823937468626282865, 4606496786581982534, 13829868823436758338, 4600565431771507039, 4596196889902818828, 13826551388188862664, 4605664432017547685, 13830381384846761138, 4607009347991985328, 13829036468872323489, 4603179351334086850, 13819568926757594645]
noncomputable def FM0 : Fns := ((Fns.none.addX 36 GBits).addX 35 GFrom).addX 27 GRoot
theorem FM0ok : FnsOk Tryd.prog FM0 := ((FnsOk.none.addX (ext_bits Tryd.func36 (by kernel_rfl) (by kernel_rfl) (by kernel_rfl) (by kernel_rfl))).addX (ext_from Tryd.func35 (by kernel_rfl) (by kernel_rfl) (by kernel_rfl) (by kernel_rfl))).addX (ext_root Tryd.func27 (by kernel_rfl) (by kernel_rfl) (by kernel_rfl) (by kernel_rfl))
def mathL : Nat → Option (List Sg)
  | 25 => some [] | 26 => some [] | 29 => some [] | 30 => some [] | 31 => some [] | 33 => some []
  | _ => none
noncomputable def FM : Fns := { FM0 with co := mathL }
theorem FMok : FnsOk Tryd.prog FM := ⟨FM0ok.pr, FM0ok.pure, FM0ok.pre, FM0ok.ext, FM0ok.gen, FM0ok.gnp, FM0ok.cal, FM0ok.loops⟩
def FRun (fn : Func) (n : Nat) : Prop := ∀ v : Value, runK Tryd.prog T FM 900 fn [li ((n / 8 : Nat) : Int), li ((n % 8 : Nat) : Int)] [] [] (fun r _ => resW r = some v) = (some (Value.float .f64 (cosW.getD n 0)) = some v)
def FRun18 (n : Nat) : Prop := FRun Tryd.f18 n
def FRun20 (n : Nat) : Prop := FRun Tryd.f20 n
def GWave : List ArgV → Option Value
  | [.val (.int .i64 u), .val (.int .i64 x)] => if 0 ≤ u ∧ u < 8 ∧ 0 ≤ x ∧ x < 8 then some (.float .f64 (cosW.getD (8 * u + x).toNat 0)) else none
  | _ => none
theorem fZero18 (x : Int) (v : Value) : runK Tryd.prog T FM 900 Tryd.f18 [li 0, di x] [] [] (fun r _ => resW r = some v) = ((FloatKind.f64.format.sqrt 4602678819172646912).isSome = true ∧ some (Value.float .f64 4604544271217802189) = some v) := by kernel_rfl
theorem fRun18_8 : ∀ i : Nat, 8 ≤ i → i < 24 → FRun18 i := by
  intro i h0 h1
  match i, h0, h1 with
  | 8, _, _ => (unfold FRun18 FRun; intro v; kernel_rfl)
  | 9, _, _ => (unfold FRun18 FRun; intro v; kernel_rfl)
  | 10, _, _ => (unfold FRun18 FRun; intro v; kernel_rfl)
  | 11, _, _ => (unfold FRun18 FRun; intro v; kernel_rfl)
  | 12, _, _ => (unfold FRun18 FRun; intro v; kernel_rfl)
  | 13, _, _ => (unfold FRun18 FRun; intro v; kernel_rfl)
  | 14, _, _ => (unfold FRun18 FRun; intro v; kernel_rfl)
  | 15, _, _ => (unfold FRun18 FRun; intro v; kernel_rfl)
  | 16, _, _ => (unfold FRun18 FRun; intro v; kernel_rfl)
  | 17, _, _ => (unfold FRun18 FRun; intro v; kernel_rfl)
  | 18, _, _ => (unfold FRun18 FRun; intro v; kernel_rfl)
  | 19, _, _ => (unfold FRun18 FRun; intro v; kernel_rfl)
  | 20, _, _ => (unfold FRun18 FRun; intro v; kernel_rfl)
  | 21, _, _ => (unfold FRun18 FRun; intro v; kernel_rfl)
  | 22, _, _ => (unfold FRun18 FRun; intro v; kernel_rfl)
  | 23, _, _ => (unfold FRun18 FRun; intro v; kernel_rfl)
  | n + 24, _, h => exact absurd h (by omega)
theorem fRun18_24 : ∀ i : Nat, 24 ≤ i → i < 40 → FRun18 i := by
  intro i h0 h1
  match i, h0, h1 with
  | 24, _, _ => (unfold FRun18 FRun; intro v; kernel_rfl)
  | 25, _, _ => (unfold FRun18 FRun; intro v; kernel_rfl)
  | 26, _, _ => (unfold FRun18 FRun; intro v; kernel_rfl)
  | 27, _, _ => (unfold FRun18 FRun; intro v; kernel_rfl)
  | 28, _, _ => (unfold FRun18 FRun; intro v; kernel_rfl)
  | 29, _, _ => (unfold FRun18 FRun; intro v; kernel_rfl)
  | 30, _, _ => (unfold FRun18 FRun; intro v; kernel_rfl)
  | 31, _, _ => (unfold FRun18 FRun; intro v; kernel_rfl)
  | 32, _, _ => (unfold FRun18 FRun; intro v; kernel_rfl)
  | 33, _, _ => (unfold FRun18 FRun; intro v; kernel_rfl)
  | 34, _, _ => (unfold FRun18 FRun; intro v; kernel_rfl)
  | 35, _, _ => (unfold FRun18 FRun; intro v; kernel_rfl)
  | 36, _, _ => (unfold FRun18 FRun; intro v; kernel_rfl)
  | 37, _, _ => (unfold FRun18 FRun; intro v; kernel_rfl)
  | 38, _, _ => (unfold FRun18 FRun; intro v; kernel_rfl)
  | 39, _, _ => (unfold FRun18 FRun; intro v; kernel_rfl)
  | n + 40, _, h => exact absurd h (by omega)
theorem fRun18_40 : ∀ i : Nat, 40 ≤ i → i < 56 → FRun18 i := by
  intro i h0 h1
  match i, h0, h1 with
  | 40, _, _ => (unfold FRun18 FRun; intro v; kernel_rfl)
  | 41, _, _ => (unfold FRun18 FRun; intro v; kernel_rfl)
  | 42, _, _ => (unfold FRun18 FRun; intro v; kernel_rfl)
  | 43, _, _ => (unfold FRun18 FRun; intro v; kernel_rfl)
  | 44, _, _ => (unfold FRun18 FRun; intro v; kernel_rfl)
  | 45, _, _ => (unfold FRun18 FRun; intro v; kernel_rfl)
  | 46, _, _ => (unfold FRun18 FRun; intro v; kernel_rfl)
  | 47, _, _ => (unfold FRun18 FRun; intro v; kernel_rfl)
  | 48, _, _ => (unfold FRun18 FRun; intro v; kernel_rfl)
  | 49, _, _ => (unfold FRun18 FRun; intro v; kernel_rfl)
  | 50, _, _ => (unfold FRun18 FRun; intro v; kernel_rfl)
  | 51, _, _ => (unfold FRun18 FRun; intro v; kernel_rfl)
  | 52, _, _ => (unfold FRun18 FRun; intro v; kernel_rfl)
  | 53, _, _ => (unfold FRun18 FRun; intro v; kernel_rfl)
  | 54, _, _ => (unfold FRun18 FRun; intro v; kernel_rfl)
  | 55, _, _ => (unfold FRun18 FRun; intro v; kernel_rfl)
  | n + 56, _, h => exact absurd h (by omega)
theorem fRun18_56 : ∀ i : Nat, 56 ≤ i → i < 64 → FRun18 i := by
  intro i h0 h1
  match i, h0, h1 with
  | 56, _, _ => (unfold FRun18 FRun; intro v; kernel_rfl)
  | 57, _, _ => (unfold FRun18 FRun; intro v; kernel_rfl)
  | 58, _, _ => (unfold FRun18 FRun; intro v; kernel_rfl)
  | 59, _, _ => (unfold FRun18 FRun; intro v; kernel_rfl)
  | 60, _, _ => (unfold FRun18 FRun; intro v; kernel_rfl)
  | 61, _, _ => (unfold FRun18 FRun; intro v; kernel_rfl)
  | 62, _, _ => (unfold FRun18 FRun; intro v; kernel_rfl)
  | 63, _, _ => (unfold FRun18 FRun; intro v; kernel_rfl)
  | n + 64, _, h => exact absurd h (by omega)
theorem fRun18 (i : Nat) (h0 : 8 ≤ i) (h : i < 64) : FRun18 i := by
  if h24 : i < 24 then exact fRun18_8 i (by omega) h24 else
  if h40 : i < 40 then exact fRun18_24 i (by omega) h40 else
  if h56 : i < 56 then exact fRun18_40 i (by omega) h56 else
  exact fRun18_56 i (by omega) h
theorem conW18 : Con Tryd.prog 18 GWave := by
  refine con_of_runW hm hT FMok Tryd.func18 Tryd.call18 fun avs v h => ?_
  unfold GWave at h
  split at h
  · rename_i u x
    split at h
    · rename_i hd
      simp only [Option.some.injEq] at h; subst h
      obtain ⟨h1, h2, h3, h4⟩ := hd
      obtain ⟨a, rfl⟩ := Int.eq_ofNat_of_zero_le h1
      obtain ⟨b, rfl⟩ := Int.eq_ofNat_of_zero_le h3
      by_cases ha : a = 0
      · subst ha
        have e : ∀ b : Nat, b < 8 → cosW.getD b 0 = 4604544271217802189 := by decide
        rw [show (8 * ((0 : Nat) : Int) + (b : Int)).toNat = b from by omega, e b (by omega)]
        exact ⟨[true, false], 900, [], [li 0, di b], [], rfl, of_run (fZero18 _ _) ⟨by decide +kernel, rfl⟩⟩
      have hr := fRun18 (8 * a + b) (by omega) (by omega)
      unfold FRun18 FRun at hr
      rw [show (8 * a + b) / 8 = a from by omega, show (8 * a + b) % 8 = b from by omega] at hr
      rw [show (8 * (a : Int) + (b : Int)).toNat = 8 * a + b from by omega]
      exact ⟨[true, true], 900, [], [li a, li b], [], rfl, of_run (hr _) rfl⟩
    · cases h
  · cases h
theorem fZero20 (x : Int) (v : Value) : runK Tryd.prog T FM 900 Tryd.f20 [li 0, di x] [] [] (fun r _ => resW r = some v) = ((FloatKind.f64.format.sqrt 4602678819172646912).isSome = true ∧ some (Value.float .f64 4604544271217802189) = some v) := by kernel_rfl
theorem fRun20_8 : ∀ i : Nat, 8 ≤ i → i < 24 → FRun20 i := by
  intro i h0 h1
  match i, h0, h1 with
  | 8, _, _ => (unfold FRun20 FRun; intro v; kernel_rfl)
  | 9, _, _ => (unfold FRun20 FRun; intro v; kernel_rfl)
  | 10, _, _ => (unfold FRun20 FRun; intro v; kernel_rfl)
  | 11, _, _ => (unfold FRun20 FRun; intro v; kernel_rfl)
  | 12, _, _ => (unfold FRun20 FRun; intro v; kernel_rfl)
  | 13, _, _ => (unfold FRun20 FRun; intro v; kernel_rfl)
  | 14, _, _ => (unfold FRun20 FRun; intro v; kernel_rfl)
  | 15, _, _ => (unfold FRun20 FRun; intro v; kernel_rfl)
  | 16, _, _ => (unfold FRun20 FRun; intro v; kernel_rfl)
  | 17, _, _ => (unfold FRun20 FRun; intro v; kernel_rfl)
  | 18, _, _ => (unfold FRun20 FRun; intro v; kernel_rfl)
  | 19, _, _ => (unfold FRun20 FRun; intro v; kernel_rfl)
  | 20, _, _ => (unfold FRun20 FRun; intro v; kernel_rfl)
  | 21, _, _ => (unfold FRun20 FRun; intro v; kernel_rfl)
  | 22, _, _ => (unfold FRun20 FRun; intro v; kernel_rfl)
  | 23, _, _ => (unfold FRun20 FRun; intro v; kernel_rfl)
  | n + 24, _, h => exact absurd h (by omega)
theorem fRun20_24 : ∀ i : Nat, 24 ≤ i → i < 40 → FRun20 i := by
  intro i h0 h1
  match i, h0, h1 with
  | 24, _, _ => (unfold FRun20 FRun; intro v; kernel_rfl)
  | 25, _, _ => (unfold FRun20 FRun; intro v; kernel_rfl)
  | 26, _, _ => (unfold FRun20 FRun; intro v; kernel_rfl)
  | 27, _, _ => (unfold FRun20 FRun; intro v; kernel_rfl)
  | 28, _, _ => (unfold FRun20 FRun; intro v; kernel_rfl)
  | 29, _, _ => (unfold FRun20 FRun; intro v; kernel_rfl)
  | 30, _, _ => (unfold FRun20 FRun; intro v; kernel_rfl)
  | 31, _, _ => (unfold FRun20 FRun; intro v; kernel_rfl)
  | 32, _, _ => (unfold FRun20 FRun; intro v; kernel_rfl)
  | 33, _, _ => (unfold FRun20 FRun; intro v; kernel_rfl)
  | 34, _, _ => (unfold FRun20 FRun; intro v; kernel_rfl)
  | 35, _, _ => (unfold FRun20 FRun; intro v; kernel_rfl)
  | 36, _, _ => (unfold FRun20 FRun; intro v; kernel_rfl)
  | 37, _, _ => (unfold FRun20 FRun; intro v; kernel_rfl)
  | 38, _, _ => (unfold FRun20 FRun; intro v; kernel_rfl)
  | 39, _, _ => (unfold FRun20 FRun; intro v; kernel_rfl)
  | n + 40, _, h => exact absurd h (by omega)
theorem fRun20_40 : ∀ i : Nat, 40 ≤ i → i < 56 → FRun20 i := by
  intro i h0 h1
  match i, h0, h1 with
  | 40, _, _ => (unfold FRun20 FRun; intro v; kernel_rfl)
  | 41, _, _ => (unfold FRun20 FRun; intro v; kernel_rfl)
  | 42, _, _ => (unfold FRun20 FRun; intro v; kernel_rfl)
  | 43, _, _ => (unfold FRun20 FRun; intro v; kernel_rfl)
  | 44, _, _ => (unfold FRun20 FRun; intro v; kernel_rfl)
  | 45, _, _ => (unfold FRun20 FRun; intro v; kernel_rfl)
  | 46, _, _ => (unfold FRun20 FRun; intro v; kernel_rfl)
  | 47, _, _ => (unfold FRun20 FRun; intro v; kernel_rfl)
  | 48, _, _ => (unfold FRun20 FRun; intro v; kernel_rfl)
  | 49, _, _ => (unfold FRun20 FRun; intro v; kernel_rfl)
  | 50, _, _ => (unfold FRun20 FRun; intro v; kernel_rfl)
  | 51, _, _ => (unfold FRun20 FRun; intro v; kernel_rfl)
  | 52, _, _ => (unfold FRun20 FRun; intro v; kernel_rfl)
  | 53, _, _ => (unfold FRun20 FRun; intro v; kernel_rfl)
  | 54, _, _ => (unfold FRun20 FRun; intro v; kernel_rfl)
  | 55, _, _ => (unfold FRun20 FRun; intro v; kernel_rfl)
  | n + 56, _, h => exact absurd h (by omega)
theorem fRun20_56 : ∀ i : Nat, 56 ≤ i → i < 64 → FRun20 i := by
  intro i h0 h1
  match i, h0, h1 with
  | 56, _, _ => (unfold FRun20 FRun; intro v; kernel_rfl)
  | 57, _, _ => (unfold FRun20 FRun; intro v; kernel_rfl)
  | 58, _, _ => (unfold FRun20 FRun; intro v; kernel_rfl)
  | 59, _, _ => (unfold FRun20 FRun; intro v; kernel_rfl)
  | 60, _, _ => (unfold FRun20 FRun; intro v; kernel_rfl)
  | 61, _, _ => (unfold FRun20 FRun; intro v; kernel_rfl)
  | 62, _, _ => (unfold FRun20 FRun; intro v; kernel_rfl)
  | 63, _, _ => (unfold FRun20 FRun; intro v; kernel_rfl)
  | n + 64, _, h => exact absurd h (by omega)
theorem fRun20 (i : Nat) (h0 : 8 ≤ i) (h : i < 64) : FRun20 i := by
  if h24 : i < 24 then exact fRun20_8 i (by omega) h24 else
  if h40 : i < 40 then exact fRun20_24 i (by omega) h40 else
  if h56 : i < 56 then exact fRun20_40 i (by omega) h56 else
  exact fRun20_56 i (by omega) h
theorem conW20 : Con Tryd.prog 20 GWave := by
  refine con_of_runW hm hT FMok Tryd.func20 Tryd.call20 fun avs v h => ?_
  unfold GWave at h
  split at h
  · rename_i u x
    split at h
    · rename_i hd
      simp only [Option.some.injEq] at h; subst h
      obtain ⟨h1, h2, h3, h4⟩ := hd
      obtain ⟨a, rfl⟩ := Int.eq_ofNat_of_zero_le h1
      obtain ⟨b, rfl⟩ := Int.eq_ofNat_of_zero_le h3
      by_cases ha : a = 0
      · subst ha
        have e : ∀ b : Nat, b < 8 → cosW.getD b 0 = 4604544271217802189 := by decide
        rw [show (8 * ((0 : Nat) : Int) + (b : Int)).toNat = b from by omega, e b (by omega)]
        exact ⟨[true, false], 900, [], [li 0, di b], [], rfl, of_run (fZero20 _ _) ⟨by decide +kernel, rfl⟩⟩
      have hr := fRun20 (8 * a + b) (by omega) (by omega)
      unfold FRun20 FRun at hr
      rw [show (8 * a + b) / 8 = a from by omega, show (8 * a + b) % 8 = b from by omega] at hr
      rw [show (8 * (a : Int) + (b : Int)).toNat = 8 * a + b from by omega]
      exact ⟨[true, true], 900, [], [li a, li b], [], rfl, of_run (hr _) rfl⟩
    · cases h
  · cases h
end Go.Proofs.YtcfbhlpmhlmekaaDoor
