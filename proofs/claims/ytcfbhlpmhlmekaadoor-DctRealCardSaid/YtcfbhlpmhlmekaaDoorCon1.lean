/-
  What is proved here: contracts of Weight, of settled. A text to be imported.
-/
import Derived.Test.YtcfbhlpmhlmekaaDoorBase
import Derived.Test.YtcfbhlpmhlmekaaDoorSimO
namespace Go.Proofs.YtcfbhlpmhlmekaaDoor
open Sm Go Go.RowKit
set_option maxRecDepth 1000000
set_option linter.unusedVariables false
abbrev W (x : Int) : Int := IntKind.i64.wrap x
def wL : List Int := [370728, 370728, 370728, 370728, 370728, 370728, 370728, 370728, 514214, 435930, 291279, 102284, -102284, -291279, -435930, -514214, 484379, 200636, -200636, -484379, -484379, -200636, 200636, 484379, 435930, -102284, -514214, -291279, 291279, 514214, 102284, -435930, 370728, -370728, -370728, 370728, 370728, -370728, -370728, 370728, 291279, -514214, 102284, 435930, -435930, -102284, 514214, -291279, 200636, -484379, 484379, -200636, -200636, 484379, -484379, 200636, 102284, -291279, 435930, -514214, 514214, -435930, 291279, -102284]
def inR (u x : Int) : Bool := decide (0 ≤ u ∧ u ≤ 7 ∧ 0 ≤ x ∧ x ≤ 7)
def weightI (u x : Int) : Int := if inR u x then wL.getD (8 * u + x).toNat 0 else 0
def GWeight : List ArgV → Option Value
  | [.val (.int .i64 u), .val (.int .i64 x)] => some (.int .i64 (weightI u x))
  | _ => none
def WRun (F : Fns) (fn : Func) (n : Nat) : Prop := ∀ v : Value, runK Tryd.prog T F 500 fn [li ((n / 8 : Nat) : Int), li ((n % 8 : Nat) : Int)] [] [] (fun r _ => resW r = some v) = (some (Value.int .i64 (wL.getD n 0)) = some v)
def WRun9 (n : Nat) : Prop := WRun Fns.none Tryd.f24 n
def outB (u x : Int) : Bool := bif bif bif decide (u < 0) then true else decide (u > 7) then true else decide (x < 0) then true else decide (x > 7)
theorem out_iff (u x : Int) : outB u x = !inR u x := by
  unfold outB inR
  by_cases h1 : u < 0 <;> by_cases h2 : u > 7 <;> by_cases h3 : x < 0 <;> by_cases h4 : x > 7 <;> simp [h1, h2, h3, h4] <;> omega
theorem eight (p : Nat → Prop) (h : ∀ n, n < 64 → p n) : ∀ n, n < 64 → p n := h
theorem wRun9_0 : ∀ i : Nat, 0 ≤ i → i < 16 → WRun9 i := by
  intro i h0 h1
  match i, h0, h1 with
  | 0, _, _ => (unfold WRun9 WRun; intro v; kernel_rfl)
  | 1, _, _ => (unfold WRun9 WRun; intro v; kernel_rfl)
  | 2, _, _ => (unfold WRun9 WRun; intro v; kernel_rfl)
  | 3, _, _ => (unfold WRun9 WRun; intro v; kernel_rfl)
  | 4, _, _ => (unfold WRun9 WRun; intro v; kernel_rfl)
  | 5, _, _ => (unfold WRun9 WRun; intro v; kernel_rfl)
  | 6, _, _ => (unfold WRun9 WRun; intro v; kernel_rfl)
  | 7, _, _ => (unfold WRun9 WRun; intro v; kernel_rfl)
  | 8, _, _ => (unfold WRun9 WRun; intro v; kernel_rfl)
  | 9, _, _ => (unfold WRun9 WRun; intro v; kernel_rfl)
  | 10, _, _ => (unfold WRun9 WRun; intro v; kernel_rfl)
  | 11, _, _ => (unfold WRun9 WRun; intro v; kernel_rfl)
  | 12, _, _ => (unfold WRun9 WRun; intro v; kernel_rfl)
  | 13, _, _ => (unfold WRun9 WRun; intro v; kernel_rfl)
  | 14, _, _ => (unfold WRun9 WRun; intro v; kernel_rfl)
  | 15, _, _ => (unfold WRun9 WRun; intro v; kernel_rfl)
  | n + 16, _, h => exact absurd h (by omega)
theorem wRun9_16 : ∀ i : Nat, 16 ≤ i → i < 32 → WRun9 i := by
  intro i h0 h1
  match i, h0, h1 with
  | 16, _, _ => (unfold WRun9 WRun; intro v; kernel_rfl)
  | 17, _, _ => (unfold WRun9 WRun; intro v; kernel_rfl)
  | 18, _, _ => (unfold WRun9 WRun; intro v; kernel_rfl)
  | 19, _, _ => (unfold WRun9 WRun; intro v; kernel_rfl)
  | 20, _, _ => (unfold WRun9 WRun; intro v; kernel_rfl)
  | 21, _, _ => (unfold WRun9 WRun; intro v; kernel_rfl)
  | 22, _, _ => (unfold WRun9 WRun; intro v; kernel_rfl)
  | 23, _, _ => (unfold WRun9 WRun; intro v; kernel_rfl)
  | 24, _, _ => (unfold WRun9 WRun; intro v; kernel_rfl)
  | 25, _, _ => (unfold WRun9 WRun; intro v; kernel_rfl)
  | 26, _, _ => (unfold WRun9 WRun; intro v; kernel_rfl)
  | 27, _, _ => (unfold WRun9 WRun; intro v; kernel_rfl)
  | 28, _, _ => (unfold WRun9 WRun; intro v; kernel_rfl)
  | 29, _, _ => (unfold WRun9 WRun; intro v; kernel_rfl)
  | 30, _, _ => (unfold WRun9 WRun; intro v; kernel_rfl)
  | 31, _, _ => (unfold WRun9 WRun; intro v; kernel_rfl)
  | n + 32, _, h => exact absurd h (by omega)
theorem wRun9_32 : ∀ i : Nat, 32 ≤ i → i < 48 → WRun9 i := by
  intro i h0 h1
  match i, h0, h1 with
  | 32, _, _ => (unfold WRun9 WRun; intro v; kernel_rfl)
  | 33, _, _ => (unfold WRun9 WRun; intro v; kernel_rfl)
  | 34, _, _ => (unfold WRun9 WRun; intro v; kernel_rfl)
  | 35, _, _ => (unfold WRun9 WRun; intro v; kernel_rfl)
  | 36, _, _ => (unfold WRun9 WRun; intro v; kernel_rfl)
  | 37, _, _ => (unfold WRun9 WRun; intro v; kernel_rfl)
  | 38, _, _ => (unfold WRun9 WRun; intro v; kernel_rfl)
  | 39, _, _ => (unfold WRun9 WRun; intro v; kernel_rfl)
  | 40, _, _ => (unfold WRun9 WRun; intro v; kernel_rfl)
  | 41, _, _ => (unfold WRun9 WRun; intro v; kernel_rfl)
  | 42, _, _ => (unfold WRun9 WRun; intro v; kernel_rfl)
  | 43, _, _ => (unfold WRun9 WRun; intro v; kernel_rfl)
  | 44, _, _ => (unfold WRun9 WRun; intro v; kernel_rfl)
  | 45, _, _ => (unfold WRun9 WRun; intro v; kernel_rfl)
  | 46, _, _ => (unfold WRun9 WRun; intro v; kernel_rfl)
  | 47, _, _ => (unfold WRun9 WRun; intro v; kernel_rfl)
  | n + 48, _, h => exact absurd h (by omega)
theorem wRun9_48 : ∀ i : Nat, 48 ≤ i → i < 64 → WRun9 i := by
  intro i h0 h1
  match i, h0, h1 with
  | 48, _, _ => (unfold WRun9 WRun; intro v; kernel_rfl)
  | 49, _, _ => (unfold WRun9 WRun; intro v; kernel_rfl)
  | 50, _, _ => (unfold WRun9 WRun; intro v; kernel_rfl)
  | 51, _, _ => (unfold WRun9 WRun; intro v; kernel_rfl)
  | 52, _, _ => (unfold WRun9 WRun; intro v; kernel_rfl)
  | 53, _, _ => (unfold WRun9 WRun; intro v; kernel_rfl)
  | 54, _, _ => (unfold WRun9 WRun; intro v; kernel_rfl)
  | 55, _, _ => (unfold WRun9 WRun; intro v; kernel_rfl)
  | 56, _, _ => (unfold WRun9 WRun; intro v; kernel_rfl)
  | 57, _, _ => (unfold WRun9 WRun; intro v; kernel_rfl)
  | 58, _, _ => (unfold WRun9 WRun; intro v; kernel_rfl)
  | 59, _, _ => (unfold WRun9 WRun; intro v; kernel_rfl)
  | 60, _, _ => (unfold WRun9 WRun; intro v; kernel_rfl)
  | 61, _, _ => (unfold WRun9 WRun; intro v; kernel_rfl)
  | 62, _, _ => (unfold WRun9 WRun; intro v; kernel_rfl)
  | 63, _, _ => (unfold WRun9 WRun; intro v; kernel_rfl)
  | n + 64, _, h => exact absurd h (by omega)
theorem wRun9 (i : Nat) (h : i < 64) : WRun9 i := by
  if h16 : i < 16 then exact wRun9_0 i (by omega) h16 else
  if h32 : i < 32 then exact wRun9_16 i (by omega) h32 else
  if h48 : i < 48 then exact wRun9_32 i (by omega) h48 else
  exact wRun9_48 i (by omega) h
theorem wOut9 (u x : Int) (v : Value) : runK Tryd.prog T Fns.none 500 Tryd.f24 [di u, di x] [] [.b true] (fun r _ => resW r = some v) = (outB u x = true ∧ some (Value.int .i64 0) = some v) := by kernel_rfl
theorem con9 : Con Tryd.prog 24 GWeight := by
  refine con_of_runW hm hT FnsOk.none Tryd.func24 Tryd.call24 fun avs v h => ?_
  unfold GWeight at h
  split at h
  · rename_i u x
    simp only [Option.some.injEq] at h; subst h
    cases hin : inR u x with
    | false => exact ⟨[], 500, [.b true], [di u, di x], [], rfl, of_run (wOut9 u x _) ⟨by rw [out_iff, hin]; rfl, by rw [weightI, hin]; rfl⟩⟩
    | true =>
      have hd : 0 ≤ u ∧ u ≤ 7 ∧ 0 ≤ x ∧ x ≤ 7 := by simpa [inR] using hin
      obtain ⟨h1, h2, h3, h4⟩ := hd
      obtain ⟨a, rfl⟩ := Int.eq_ofNat_of_zero_le h1
      obtain ⟨b, rfl⟩ := Int.eq_ofNat_of_zero_le h3
      have hr := wRun9 (8 * a + b) (by omega)
      unfold WRun9 WRun at hr
      rw [show (8 * a + b) / 8 = a from by omega, show (8 * a + b) % 8 = b from by omega] at hr
      refine ⟨[true, true], 500, [], [li a, li b], [], rfl, ?_⟩
      rw [weightI, hin, if_pos rfl, show (8 * (a : Int) + (b : Int)).toNat = 8 * a + b from by omega]
      exact of_run (hr _) rfl
  · cases h
def settledI (n : Int) : Int := (W (n + 549755813888)).fdiv 1099511627776
def GSettled : List ArgV → Option Value
  | [.val (.int .i64 n)] => some (.int .i64 (settledI n))
  | _ => none
theorem run20 (n : Int) (u : Value) : runK Tryd.prog T Fns.none 300 Tryd.f22 [di n] [] [] (fun r _ => resW r = some u) = (some (Value.int .i64 (settledI n)) = some u) := by kernel_rfl
theorem con20 : Con Tryd.prog 22 GSettled := by
  refine con_of_runW hm hT FnsOk.none Tryd.func22 Tryd.call22 fun avs u h => ?_
  unfold GSettled at h
  split at h
  · simp only [Option.some.injEq] at h; subst h
    exact ⟨[], 300, [], _, _, rfl, of_run (run20 _ _) rfl⟩
  · cases h
noncomputable def F1 : Fns := (Fns.none.add 24 GWeight).add 22 GSettled
theorem F1ok : FnsOk Tryd.prog F1 := (FnsOk.none.add con9).add con20
abbrev AI (x : Int) : AV := .one (.sc (.int .i64 x) false)
def p00 : AV := .one (.ptr 0 0)
def p20 : AV := .one (.ptr 2 0)
def ix (i j : Int) : Int := W (W (8 * i) + j)
theorem ix_eq {i j : Int} (h1 : 0 ≤ i) (h2 : i < 8) (h3 : 0 ≤ j) (h4 : j < 8) : ix i j = 8 * i + j := by
  unfold ix
  rw [show W (8 * i) = 8 * i from w64 (by omega) (by omega), show W (8 * i + j) = 8 * i + j from w64 (by omega) (by omega)]
theorem next_eq (i : Nat) (h : i < 8) : W ((i : Int) + 1) = ((i + 1 : Nat) : Int) := by
  rw [show W ((i : Int) + 1) = (i : Int) + 1 from w64 (by omega) (by omega)]; rfl
theorem lt8 (i : Nat) (h : i < 8) : decide ((i : Int) < 8) = true := decide_eq_true (by omega)
theorem not8 : decide (((8 : Nat) : Int) < 8) = false := by decide
def v64 (k : IntKind) (f : Nat → Int) : Value := .agg ((List.range 64).map fun i => Value.int k (f i)).toArray
end Go.Proofs.YtcfbhlpmhlmekaaDoor
