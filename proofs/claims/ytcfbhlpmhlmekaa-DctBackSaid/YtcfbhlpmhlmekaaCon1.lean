/-
  What is proved here: contracts of Weight, of the reference's Weight, of settled, Near, down. A text to be imported.
-/
import Derived.Test.YtcfbhlpmhlmekaaBase
import Derived.Test.YtcfbhlpmhlmekaaSimO
namespace Go.Proofs.Ytcfbhlpmhlmekaa
open Sm Go Go.RowKit
set_option maxRecDepth 1000000
abbrev W (x : Int) : Int := IntKind.i64.wrap x
def wL : List Int := [370728, 370728, 370728, 370728, 370728, 370728, 370728, 370728, 514214, 435930, 291279, 102284, -102284, -291279, -435930, -514214, 484379, 200636, -200636, -484379, -484379, -200636, 200636, 484379, 435930, -102284, -514214, -291279, 291279, 514214, 102284, -435930, 370728, -370728, -370728, 370728, 370728, -370728, -370728, 370728, 291279, -514214, 102284, 435930, -435930, -102284, 514214, -291279, 200636, -484379, 484379, -200636, -200636, 484379, -484379, 200636, 102284, -291279, 435930, -514214, 514214, -435930, 291279, -102284]
def inR (u x : Int) : Bool := decide (0 ≤ u ∧ u ≤ 7 ∧ 0 ≤ x ∧ x ≤ 7)
def weightI (u x : Int) : Int := if inR u x then wL.getD (8 * u + x).toNat 0 else 0
def GWeight : List ArgV → Option Value
  | [.val (.int .i64 u), .val (.int .i64 x)] => some (.int .i64 (weightI u x))
  | _ => none
def kL : List Int := [0, 514214, 484379, 435930, 370728, 291279, 200636, 102284]
def GK : List ArgV → Option Value
  | [.val (.int .i64 i)] => if 0 ≤ i ∧ i < 8 then some (.int .i64 (kL.getD i.toNat 0)) else none
  | _ => none
def KRun (n : Nat) : Prop := ∀ u : Value, runK Try.prog T Fns.none 300 Try.f18 [li n] [] [] (fun r _ => resW r = some u) = (some (Value.int .i64 (kL.getD n 0)) = some u)
theorem kRun_0 : ∀ i : Nat, 0 ≤ i → i < 8 → KRun i := by
  intro i h0 h1
  match i, h0, h1 with
  | 0, _, _ => (unfold KRun; intro u; kernel_rfl)
  | 1, _, _ => (unfold KRun; intro u; kernel_rfl)
  | 2, _, _ => (unfold KRun; intro u; kernel_rfl)
  | 3, _, _ => (unfold KRun; intro u; kernel_rfl)
  | 4, _, _ => (unfold KRun; intro u; kernel_rfl)
  | 5, _, _ => (unfold KRun; intro u; kernel_rfl)
  | 6, _, _ => (unfold KRun; intro u; kernel_rfl)
  | 7, _, _ => (unfold KRun; intro u; kernel_rfl)
  | n + 8, _, h => exact absurd h (by omega)
theorem kRun (i : Nat) (h : i < 8) : KRun i := by
  exact kRun_0 i (by omega) h
theorem con18 : Con Try.prog 18 GK := by
  refine con_of_runW hm hT FnsOk.none Try.func18 Try.call18 fun avs u h => ?_
  unfold GK at h
  split at h
  · rename_i i
    split at h
    · rename_i hi
      obtain ⟨n, rfl⟩ := Int.eq_ofNat_of_zero_le hi.1
      simp only [Option.some.injEq, Int.toNat_natCast] at h; subst h
      have hr := kRun n (by omega)
      unfold KRun at hr
      exact ⟨[true], 300, [], _, _, rfl, of_run (hr _) rfl⟩
    · cases h
  · cases h
noncomputable def F0 : Fns := Fns.none.add 18 GK
theorem F0ok : FnsOk Try.prog F0 := FnsOk.none.add con18
def WRun (F : Fns) (fn : Func) (n : Nat) : Prop := ∀ v : Value, runK Try.prog T F 500 fn [li ((n / 8 : Nat) : Int), li ((n % 8 : Nat) : Int)] [] [] (fun r _ => resW r = some v) = (some (Value.int .i64 (wL.getD n 0)) = some v)
def WRun9 (n : Nat) : Prop := WRun Fns.none Try.f9 n
def WRun10 (n : Nat) : Prop := WRun F0 Try.f10 n
def outB (u x : Int) : Bool := bif bif bif decide (u < 0) then true else decide (u > 7) then true else decide (x < 0) then true else decide (x > 7)
theorem out_iff (u x : Int) : outB u x = !inR u x := by
  unfold outB inR
  by_cases h1 : u < 0 <;> by_cases h2 : u > 7 <;> by_cases h3 : x < 0 <;> by_cases h4 : x > 7 <;> simp [h1, h2, h3, h4] <;> omega
theorem eight (p : Nat → Prop) (h : ∀ n, n < 64 → p n) : ∀ n, n < 64 → p n := h
theorem wRun9_0 : ∀ i : Nat, 0 ≤ i → i < 16 → WRun9 i := by
  intro i h0 h1
  match i, h0, h1 with
  | 0, _, _ => (unfold WRun9 WRun; intro v; kernel_rfl)
  | 1, _, _ => (unfold WRun9 WRun; intro v; kernel_rfl)
  | 2, _, _ => (unfold WRun9 WRun; intro v; kernel_rfl)
  | 3, _, _ => (unfold WRun9 WRun; intro v; kernel_rfl)
  | 4, _, _ => (unfold WRun9 WRun; intro v; kernel_rfl)
  | 5, _, _ => (unfold WRun9 WRun; intro v; kernel_rfl)
  | 6, _, _ => (unfold WRun9 WRun; intro v; kernel_rfl)
  | 7, _, _ => (unfold WRun9 WRun; intro v; kernel_rfl)
  | 8, _, _ => (unfold WRun9 WRun; intro v; kernel_rfl)
  | 9, _, _ => (unfold WRun9 WRun; intro v; kernel_rfl)
  | 10, _, _ => (unfold WRun9 WRun; intro v; kernel_rfl)
  | 11, _, _ => (unfold WRun9 WRun; intro v; kernel_rfl)
  | 12, _, _ => (unfold WRun9 WRun; intro v; kernel_rfl)
  | 13, _, _ => (unfold WRun9 WRun; intro v; kernel_rfl)
  | 14, _, _ => (unfold WRun9 WRun; intro v; kernel_rfl)
  | 15, _, _ => (unfold WRun9 WRun; intro v; kernel_rfl)
  | n + 16, _, h => exact absurd h (by omega)
theorem wRun9_16 : ∀ i : Nat, 16 ≤ i → i < 32 → WRun9 i := by
  intro i h0 h1
  match i, h0, h1 with
  | 16, _, _ => (unfold WRun9 WRun; intro v; kernel_rfl)
  | 17, _, _ => (unfold WRun9 WRun; intro v; kernel_rfl)
  | 18, _, _ => (unfold WRun9 WRun; intro v; kernel_rfl)
  | 19, _, _ => (unfold WRun9 WRun; intro v; kernel_rfl)
  | 20, _, _ => (unfold WRun9 WRun; intro v; kernel_rfl)
  | 21, _, _ => (unfold WRun9 WRun; intro v; kernel_rfl)
  | 22, _, _ => (unfold WRun9 WRun; intro v; kernel_rfl)
  | 23, _, _ => (unfold WRun9 WRun; intro v; kernel_rfl)
  | 24, _, _ => (unfold WRun9 WRun; intro v; kernel_rfl)
  | 25, _, _ => (unfold WRun9 WRun; intro v; kernel_rfl)
  | 26, _, _ => (unfold WRun9 WRun; intro v; kernel_rfl)
  | 27, _, _ => (unfold WRun9 WRun; intro v; kernel_rfl)
  | 28, _, _ => (unfold WRun9 WRun; intro v; kernel_rfl)
  | 29, _, _ => (unfold WRun9 WRun; intro v; kernel_rfl)
  | 30, _, _ => (unfold WRun9 WRun; intro v; kernel_rfl)
  | 31, _, _ => (unfold WRun9 WRun; intro v; kernel_rfl)
  | n + 32, _, h => exact absurd h (by omega)
theorem wRun9_32 : ∀ i : Nat, 32 ≤ i → i < 48 → WRun9 i := by
  intro i h0 h1
  match i, h0, h1 with
  | 32, _, _ => (unfold WRun9 WRun; intro v; kernel_rfl)
  | 33, _, _ => (unfold WRun9 WRun; intro v; kernel_rfl)
  | 34, _, _ => (unfold WRun9 WRun; intro v; kernel_rfl)
  | 35, _, _ => (unfold WRun9 WRun; intro v; kernel_rfl)
  | 36, _, _ => (unfold WRun9 WRun; intro v; kernel_rfl)
  | 37, _, _ => (unfold WRun9 WRun; intro v; kernel_rfl)
  | 38, _, _ => (unfold WRun9 WRun; intro v; kernel_rfl)
  | 39, _, _ => (unfold WRun9 WRun; intro v; kernel_rfl)
  | 40, _, _ => (unfold WRun9 WRun; intro v; kernel_rfl)
  | 41, _, _ => (unfold WRun9 WRun; intro v; kernel_rfl)
  | 42, _, _ => (unfold WRun9 WRun; intro v; kernel_rfl)
  | 43, _, _ => (unfold WRun9 WRun; intro v; kernel_rfl)
  | 44, _, _ => (unfold WRun9 WRun; intro v; kernel_rfl)
  | 45, _, _ => (unfold WRun9 WRun; intro v; kernel_rfl)
  | 46, _, _ => (unfold WRun9 WRun; intro v; kernel_rfl)
  | 47, _, _ => (unfold WRun9 WRun; intro v; kernel_rfl)
  | n + 48, _, h => exact absurd h (by omega)
theorem wRun9_48 : ∀ i : Nat, 48 ≤ i → i < 64 → WRun9 i := by
  intro i h0 h1
  match i, h0, h1 with
  | 48, _, _ => (unfold WRun9 WRun; intro v; kernel_rfl)
  | 49, _, _ => (unfold WRun9 WRun; intro v; kernel_rfl)
  | 50, _, _ => (unfold WRun9 WRun; intro v; kernel_rfl)
  | 51, _, _ => (unfold WRun9 WRun; intro v; kernel_rfl)
  | 52, _, _ => (unfold WRun9 WRun; intro v; kernel_rfl)
  | 53, _, _ => (unfold WRun9 WRun; intro v; kernel_rfl)
  | 54, _, _ => (unfold WRun9 WRun; intro v; kernel_rfl)
  | 55, _, _ => (unfold WRun9 WRun; intro v; kernel_rfl)
  | 56, _, _ => (unfold WRun9 WRun; intro v; kernel_rfl)
  | 57, _, _ => (unfold WRun9 WRun; intro v; kernel_rfl)
  | 58, _, _ => (unfold WRun9 WRun; intro v; kernel_rfl)
  | 59, _, _ => (unfold WRun9 WRun; intro v; kernel_rfl)
  | 60, _, _ => (unfold WRun9 WRun; intro v; kernel_rfl)
  | 61, _, _ => (unfold WRun9 WRun; intro v; kernel_rfl)
  | 62, _, _ => (unfold WRun9 WRun; intro v; kernel_rfl)
  | 63, _, _ => (unfold WRun9 WRun; intro v; kernel_rfl)
  | n + 64, _, h => exact absurd h (by omega)
theorem wRun9 (i : Nat) (h : i < 64) : WRun9 i := by
  if h16 : i < 16 then exact wRun9_0 i (by omega) h16 else
  if h32 : i < 32 then exact wRun9_16 i (by omega) h32 else
  if h48 : i < 48 then exact wRun9_32 i (by omega) h48 else
  exact wRun9_48 i (by omega) h
theorem wOut9 (u x : Int) (v : Value) : runK Try.prog T Fns.none 500 Try.f9 [di u, di x] [] [.b true] (fun r _ => resW r = some v) = (outB u x = true ∧ some (Value.int .i64 0) = some v) := by kernel_rfl
theorem con9 : Con Try.prog 9 GWeight := by
  refine con_of_runW hm hT FnsOk.none Try.func9 Try.call9 fun avs v h => ?_
  unfold GWeight at h
  split at h
  · rename_i u x
    simp only [Option.some.injEq] at h; subst h
    cases hin : inR u x with
    | false => exact ⟨[], 500, [.b true], [di u, di x], [], rfl, of_run (wOut9 u x _) ⟨by rw [out_iff, hin]; rfl, by rw [weightI, hin]; rfl⟩⟩
    | true =>
      have hd : 0 ≤ u ∧ u ≤ 7 ∧ 0 ≤ x ∧ x ≤ 7 := by simpa [inR] using hin
      obtain ⟨h1, h2, h3, h4⟩ := hd
      obtain ⟨a, rfl⟩ := Int.eq_ofNat_of_zero_le h1
      obtain ⟨b, rfl⟩ := Int.eq_ofNat_of_zero_le h3
      have hr := wRun9 (8 * a + b) (by omega)
      unfold WRun9 WRun at hr
      rw [show (8 * a + b) / 8 = a from by omega, show (8 * a + b) % 8 = b from by omega] at hr
      refine ⟨[true, true], 500, [], [li a, li b], [], rfl, ?_⟩
      rw [weightI, hin, if_pos rfl, show (8 * (a : Int) + (b : Int)).toNat = 8 * a + b from by omega]
      exact of_run (hr _) rfl
  · cases h
theorem wRun10_0 : ∀ i : Nat, 0 ≤ i → i < 16 → WRun10 i := by
  intro i h0 h1
  match i, h0, h1 with
  | 0, _, _ => (unfold WRun10 WRun; intro v; kernel_rfl)
  | 1, _, _ => (unfold WRun10 WRun; intro v; kernel_rfl)
  | 2, _, _ => (unfold WRun10 WRun; intro v; kernel_rfl)
  | 3, _, _ => (unfold WRun10 WRun; intro v; kernel_rfl)
  | 4, _, _ => (unfold WRun10 WRun; intro v; kernel_rfl)
  | 5, _, _ => (unfold WRun10 WRun; intro v; kernel_rfl)
  | 6, _, _ => (unfold WRun10 WRun; intro v; kernel_rfl)
  | 7, _, _ => (unfold WRun10 WRun; intro v; kernel_rfl)
  | 8, _, _ => (unfold WRun10 WRun; intro v; kernel_rfl)
  | 9, _, _ => (unfold WRun10 WRun; intro v; kernel_rfl)
  | 10, _, _ => (unfold WRun10 WRun; intro v; kernel_rfl)
  | 11, _, _ => (unfold WRun10 WRun; intro v; kernel_rfl)
  | 12, _, _ => (unfold WRun10 WRun; intro v; kernel_rfl)
  | 13, _, _ => (unfold WRun10 WRun; intro v; kernel_rfl)
  | 14, _, _ => (unfold WRun10 WRun; intro v; kernel_rfl)
  | 15, _, _ => (unfold WRun10 WRun; intro v; kernel_rfl)
  | n + 16, _, h => exact absurd h (by omega)
theorem wRun10_16 : ∀ i : Nat, 16 ≤ i → i < 32 → WRun10 i := by
  intro i h0 h1
  match i, h0, h1 with
  | 16, _, _ => (unfold WRun10 WRun; intro v; kernel_rfl)
  | 17, _, _ => (unfold WRun10 WRun; intro v; kernel_rfl)
  | 18, _, _ => (unfold WRun10 WRun; intro v; kernel_rfl)
  | 19, _, _ => (unfold WRun10 WRun; intro v; kernel_rfl)
  | 20, _, _ => (unfold WRun10 WRun; intro v; kernel_rfl)
  | 21, _, _ => (unfold WRun10 WRun; intro v; kernel_rfl)
  | 22, _, _ => (unfold WRun10 WRun; intro v; kernel_rfl)
  | 23, _, _ => (unfold WRun10 WRun; intro v; kernel_rfl)
  | 24, _, _ => (unfold WRun10 WRun; intro v; kernel_rfl)
  | 25, _, _ => (unfold WRun10 WRun; intro v; kernel_rfl)
  | 26, _, _ => (unfold WRun10 WRun; intro v; kernel_rfl)
  | 27, _, _ => (unfold WRun10 WRun; intro v; kernel_rfl)
  | 28, _, _ => (unfold WRun10 WRun; intro v; kernel_rfl)
  | 29, _, _ => (unfold WRun10 WRun; intro v; kernel_rfl)
  | 30, _, _ => (unfold WRun10 WRun; intro v; kernel_rfl)
  | 31, _, _ => (unfold WRun10 WRun; intro v; kernel_rfl)
  | n + 32, _, h => exact absurd h (by omega)
theorem wRun10_32 : ∀ i : Nat, 32 ≤ i → i < 48 → WRun10 i := by
  intro i h0 h1
  match i, h0, h1 with
  | 32, _, _ => (unfold WRun10 WRun; intro v; kernel_rfl)
  | 33, _, _ => (unfold WRun10 WRun; intro v; kernel_rfl)
  | 34, _, _ => (unfold WRun10 WRun; intro v; kernel_rfl)
  | 35, _, _ => (unfold WRun10 WRun; intro v; kernel_rfl)
  | 36, _, _ => (unfold WRun10 WRun; intro v; kernel_rfl)
  | 37, _, _ => (unfold WRun10 WRun; intro v; kernel_rfl)
  | 38, _, _ => (unfold WRun10 WRun; intro v; kernel_rfl)
  | 39, _, _ => (unfold WRun10 WRun; intro v; kernel_rfl)
  | 40, _, _ => (unfold WRun10 WRun; intro v; kernel_rfl)
  | 41, _, _ => (unfold WRun10 WRun; intro v; kernel_rfl)
  | 42, _, _ => (unfold WRun10 WRun; intro v; kernel_rfl)
  | 43, _, _ => (unfold WRun10 WRun; intro v; kernel_rfl)
  | 44, _, _ => (unfold WRun10 WRun; intro v; kernel_rfl)
  | 45, _, _ => (unfold WRun10 WRun; intro v; kernel_rfl)
  | 46, _, _ => (unfold WRun10 WRun; intro v; kernel_rfl)
  | 47, _, _ => (unfold WRun10 WRun; intro v; kernel_rfl)
  | n + 48, _, h => exact absurd h (by omega)
theorem wRun10_48 : ∀ i : Nat, 48 ≤ i → i < 64 → WRun10 i := by
  intro i h0 h1
  match i, h0, h1 with
  | 48, _, _ => (unfold WRun10 WRun; intro v; kernel_rfl)
  | 49, _, _ => (unfold WRun10 WRun; intro v; kernel_rfl)
  | 50, _, _ => (unfold WRun10 WRun; intro v; kernel_rfl)
  | 51, _, _ => (unfold WRun10 WRun; intro v; kernel_rfl)
  | 52, _, _ => (unfold WRun10 WRun; intro v; kernel_rfl)
  | 53, _, _ => (unfold WRun10 WRun; intro v; kernel_rfl)
  | 54, _, _ => (unfold WRun10 WRun; intro v; kernel_rfl)
  | 55, _, _ => (unfold WRun10 WRun; intro v; kernel_rfl)
  | 56, _, _ => (unfold WRun10 WRun; intro v; kernel_rfl)
  | 57, _, _ => (unfold WRun10 WRun; intro v; kernel_rfl)
  | 58, _, _ => (unfold WRun10 WRun; intro v; kernel_rfl)
  | 59, _, _ => (unfold WRun10 WRun; intro v; kernel_rfl)
  | 60, _, _ => (unfold WRun10 WRun; intro v; kernel_rfl)
  | 61, _, _ => (unfold WRun10 WRun; intro v; kernel_rfl)
  | 62, _, _ => (unfold WRun10 WRun; intro v; kernel_rfl)
  | 63, _, _ => (unfold WRun10 WRun; intro v; kernel_rfl)
  | n + 64, _, h => exact absurd h (by omega)
theorem wRun10 (i : Nat) (h : i < 64) : WRun10 i := by
  if h16 : i < 16 then exact wRun10_0 i (by omega) h16 else
  if h32 : i < 32 then exact wRun10_16 i (by omega) h32 else
  if h48 : i < 48 then exact wRun10_32 i (by omega) h48 else
  exact wRun10_48 i (by omega) h
theorem wOut10 (u x : Int) (v : Value) : runK Try.prog T F0 500 Try.f10 [di u, di x] [] [.b true] (fun r _ => resW r = some v) = (outB u x = true ∧ some (Value.int .i64 0) = some v) := by kernel_rfl
theorem con10 : Con Try.prog 10 GWeight := by
  refine con_of_runW hm hT F0ok Try.func10 Try.call10 fun avs v h => ?_
  unfold GWeight at h
  split at h
  · rename_i u x
    simp only [Option.some.injEq] at h; subst h
    cases hin : inR u x with
    | false => exact ⟨[], 500, [.b true], [di u, di x], [], rfl, of_run (wOut10 u x _) ⟨by rw [out_iff, hin]; rfl, by rw [weightI, hin]; rfl⟩⟩
    | true =>
      have hd : 0 ≤ u ∧ u ≤ 7 ∧ 0 ≤ x ∧ x ≤ 7 := by simpa [inR] using hin
      obtain ⟨h1, h2, h3, h4⟩ := hd
      obtain ⟨a, rfl⟩ := Int.eq_ofNat_of_zero_le h1
      obtain ⟨b, rfl⟩ := Int.eq_ofNat_of_zero_le h3
      have hr := wRun10 (8 * a + b) (by omega)
      unfold WRun10 WRun at hr
      rw [show (8 * a + b) / 8 = a from by omega, show (8 * a + b) % 8 = b from by omega] at hr
      refine ⟨[true, true], 500, [], [li a, li b], [], rfl, ?_⟩
      rw [weightI, hin, if_pos rfl, show (8 * (a : Int) + (b : Int)).toNat = 8 * a + b from by omega]
      exact of_run (hr _) rfl
  · cases h
def settledI (n : Int) : Int := (W (n + 549755813888)).fdiv 1099511627776
def GSettled : List ArgV → Option Value
  | [.val (.int .i64 n)] => some (.int .i64 (settledI n))
  | _ => none
theorem run20 (n : Int) (u : Value) : runK Try.prog T Fns.none 300 Try.f20 [di n] [] [] (fun r _ => resW r = some u) = (some (Value.int .i64 (settledI n)) = some u) := by kernel_rfl
theorem con20 : Con Try.prog 20 GSettled := by
  refine con_of_runW hm hT FnsOk.none Try.func20 Try.call20 fun avs u h => ?_
  unfold GSettled at h
  split at h
  · simp only [Option.some.injEq] at h; subst h
    exact ⟨[], 300, [], _, _, rfl, of_run (run20 _ _) rfl⟩
  · cases h
def nearI (v lo hi : Int) : Int := bif decide (v < lo) then lo else bif decide (v > hi) then hi else v
def GNear : List ArgV → Option Value
  | [.val (.int .i64 v), .val (.int .i64 lo), .val (.int .i64 hi)] => some (.int .i64 (nearI v lo hi))
  | _ => none
theorem run21 (v lo hi : Int) (u : Value) : runK Try.prog T Fns.none 300 Try.f21 [di v, di lo, di hi] [] [] (fun r _ => resW r = some u) =
    ((decide (v < lo) = true → some (Value.int .i64 lo) = some u) ∧ (decide (v < lo) = false → ((decide (v > hi) = true → some (Value.int .i64 hi) = some u) ∧ (decide (v > hi) = false → some (Value.int .i64 v) = some u)))) := by kernel_rfl
theorem con21 : Con Try.prog 21 GNear := by
  refine con_of_runW hm hT FnsOk.none Try.func21 Try.call21 fun avs u h => ?_
  unfold GNear at h
  split at h
  · simp only [Option.some.injEq] at h; subst h
    exact ⟨[], 300, [], _, _, rfl, of_run (run21 _ _ _ _) ⟨(fun h => by rw [nearI, h]; rfl), (fun h => ⟨(fun h2 => by rw [nearI, h, h2]; rfl), (fun h2 => by rw [nearI, h, h2]; rfl)⟩)⟩⟩
  · cases h
def downI (v : Int) : Int := bif decide (v.tmod 1099511627776 < 0) then W (W (v.tdiv 1099511627776) - 1) else W (v.tdiv 1099511627776)
def GDown : List ArgV → Option Value
  | [.val (.int .i64 v)] => some (.int .i64 (downI v))
  | _ => none
theorem run22 (v : Int) (u : Value) : runK Try.prog T Fns.none 300 Try.f22 [di v] [] [] (fun r _ => resW r = some u) = (some (Value.int .i64 (downI v)) = some u) := by kernel_rfl
theorem con22 : Con Try.prog 22 GDown := by
  refine con_of_runW hm hT FnsOk.none Try.func22 Try.call22 fun avs u h => ?_
  unfold GDown at h
  split at h
  · simp only [Option.some.injEq] at h; subst h
    exact ⟨[], 300, [], _, _, rfl, of_run (run22 _ _) rfl⟩
  · cases h
noncomputable def F1 : Fns := ((((Fns.none.add 9 GWeight).add 10 GWeight).add 20 GSettled).add 21 GNear).add 22 GDown
theorem F1ok : FnsOk Try.prog F1 := ((((FnsOk.none.add con9).add con10).add con20).add con21).add con22
end Go.Proofs.Ytcfbhlpmhlmekaa
