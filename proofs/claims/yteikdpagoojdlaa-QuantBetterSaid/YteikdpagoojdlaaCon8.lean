/-
  What is proved here: a contract of math.Floor; of quant.Table at quality 50; of alive, ends, size, step. A text to be imported.
-/
import Derived.Test.YteikdpagoojdlaaCon7
import Derived.Test.YteikdpagoojdlaaSimQ
namespace Go.Proofs.Yteikdpagoojdlaa
open Sm Go Go.RowKit
set_option maxRecDepth 1000000
theorem floorX : ∀ (vs : List Value) (p : Option Prop) (u : Value), GWhole .down vs = some (p, u) → (∀ q, p = some q → q) → ∀ w, (callFunc 37 vs.toArray).run Try.prog w = .ok (.value u) w :=
  ext_whole (name := "math.archFloor") Try.func37 (by kernel_rfl) (by kernel_rfl) (by kernel_rfl) (by kernel_rfl)
noncomputable def FX : Fns := Fns.none.addX 37 (GWhole .down)
theorem FXok : FnsOk Try.prog FX := FnsOk.none.addX floorX
theorem run35 (x : Nat) (u : Value) : runK Try.prog T FX 300 Try.f35 [.one (.sc (.float .f64 x) false)] [] [] (fun r _ => resW r = some u) = (numF x = true ∧ some (Value.float .f64 (wholeF .down x)) = some u) := by kernel_rfl
/-- Of a number that can be looked at. -/
def GFloorS : List ArgV → Option Value
  | [.val (.float .f64 x)] => match numF x with
    | true => some (.float .f64 (wholeF .down x))
    | false => none
  | _ => none
def GFloor : List ArgV → Option (Prop × Value)
  | [.val (.float .f64 x)] => some (numF x = true, .float .f64 (wholeF .down x))
  | _ => none
theorem con35S : Con Try.prog 35 GFloorS := by
  refine con_of_runW hm hT FXok Try.func35 Try.call35 fun avs u h => ?_
  unfold GFloorS at h
  split at h
  · rename_i x
    split at h
    · rename_i hx
      simp only [Option.some.injEq] at h; subst h
      exact ⟨[], 300, [], _, _, rfl, of_run (run35 x _) ⟨hx, rfl⟩⟩
    · cases h
  · cases h
theorem con35 : ConP Try.prog 35 GFloor := by
  refine conP_of_runW hm hT FXok Try.func35 Try.call35 fun avs p u h hp => ?_
  unfold GFloor at h
  split at h
  · rename_i x
    simp only [Option.some.injEq, Prod.mk.injEq] at h
    obtain ⟨rfl, rfl⟩ := h
    exact ⟨[], 300, [], _, _, rfl, of_run (run35 x _) ⟨hp, rfl⟩⟩
  · cases h
def t50 (k : Nat) : Int := ((8 + 3 * (ord k / 8 + ord k % 8) : Nat) : Int)
def vU16 (f : Nat → Int) : Value := .agg ((List.range 64).map fun i => Value.int .u16 (f i)).toArray
def q50 : Nat := 4632233691727265792
noncomputable def FH : Fns := FD.add 35 GFloorS
theorem FHok : FnsOk Try.prog FH := FDok.add con35S
theorem run20_50 (u : Value) : runK Try.prog T FH 6000 Try.f20 [.one (.sc (.float .f64 q50) true), .one (.sc (.bool false) true)] [] [] (fun r _ => resW r = some u) = (some (Value.tuple #[vU16 t50, .int .i64 0]) = some u) := by kernel_rfl
def GTab50 : List ArgV → Option Value
  | [.val (.float .f64 q), .val (.bool false)] => match Nat.beq q q50 with
    | true => some (.tuple #[vU16 t50, .int .i64 0])
    | false => none
  | _ => none
theorem con20_50 : Con Try.prog 20 GTab50 := by
  refine con_of_runW hm hT FHok Try.func20 Try.call20 fun avs u h => ?_
  unfold GTab50 at h
  split at h
  · rename_i q
    split at h
    · rename_i hq
      simp only [Option.some.injEq] at h; subst h
      rw [beq_eq] at hq
      obtain rfl : q = q50 := by simpa using hq
      exact ⟨[true, true], 6000, [], _, _, rfl, of_run (run20_50 _) rfl⟩
    · cases h
  · cases h
noncomputable def FI : Fns := FG.add 20 GTab50
theorem FIok : FnsOk Try.prog FI := FGok.add con20_50
/-- What the small example asks of the way: its numbers fit. -/
def aliveF (i : Nat) : Int := bif Nat.beq i 1 then 25 else bif Nat.beq i 8 then -14 else 0
theorem run22 (u : Value) : runK Try.prog T FI 6000 Try.f22 [] [] [] (fun r _ => resW r = some u) = (fitsN aliveF (fun i => stepV (t50 i)) 64 0 ∧ some (Value.bool true) = some u) := by kernel_rfl
theorem alive_fits : fits aliveF (fun i => stepV (t50 i)) := by
  constructor <;> decide
def GAlive : List ArgV → Option Value
  | [] => some (.bool true)
  | _ => none
theorem con22 : Con Try.prog 22 GAlive := by
  refine con_of_runW hm hT FIok Try.func22 Try.call22 fun avs u h => ?_
  cases avs with
  | nil =>
    simp only [GAlive, Option.some.injEq] at h; subst h
    exact ⟨[], 6000, [], [], [], rfl, of_run (run22 _) ⟨fitsN_of alive_fits, rfl⟩⟩
  | cons a l => cases h
/-- May a coefficient stand in a block? -/
def endsB (k n : Int) : Bool := bif decide (n ≤ 1023) then bif decide (n ≥ -1023) then true else bif k == 0 then n == -1024 else false else false
def GEnds : List ArgV → Option Value
  | [.val (.int .i64 k), .val (.int .i64 n)] => some (.bool (endsB k n))
  | _ => none
theorem run23 (k n : Int) (u : Value) : runK Try.prog T Fns.none 300 Try.f23 [di k, di n] [] [] (fun r _ => resW r = some u) = (some (Value.bool (endsB k n)) = some u) := by kernel_rfl
theorem con23 : Con Try.prog 23 GEnds := by
  refine con_of_runW hm hT FnsOk.none Try.func23 Try.call23 fun avs u h => ?_
  unfold GEnds at h
  split at h
  · simp only [Option.some.injEq] at h; subst h
    exact ⟨[], 300, [], _, _, rfl, of_run (run23 _ _ _) rfl⟩
  · cases h
def sizeI (n : Int) : Int := bif decide (n < 0) then W (0 - n) else n
def GSize : List ArgV → Option Value
  | [.val (.int .i64 n)] => some (.int .i64 (sizeI n))
  | _ => none
theorem run24 (n : Int) (u : Value) : runK Try.prog T Fns.none 300 Try.f24 [di n] [] [] (fun r _ => resW r = some u) = ((decide (n < 0) = true → some (Value.int .i64 (W (0 - n))) = some u) ∧ (decide (n < 0) = false → some (Value.int .i64 n) = some u)) := by kernel_rfl
theorem con24 : Con Try.prog 24 GSize := by
  refine con_of_runW hm hT FnsOk.none Try.func24 Try.call24 fun avs u h => ?_
  unfold GSize at h
  split at h
  · simp only [Option.some.injEq] at h; subst h
    exact ⟨[], 300, [], _, _, rfl, of_run (run24 _ _) ⟨(fun h => by rw [sizeI, h]; rfl), (fun h => by rw [sizeI, h]; rfl)⟩⟩
  · cases h
def stepM (x : Int) : Int := mx (W x) 1
def GStepM : List ArgV → Option Value
  | [.val (.agg cs), .val (.int .i64 k)] => intsK .u16 cs.toList (vecN 64 fun c => if 0 ≤ k ∧ k < 64 then some (.int .i64 (stepM (c k.toNat))) else none)
  | _ => none
def StepMRun (n : Nat) : Prop := ∀ (c : Nat → Int) (u : Value), runK Try.prog T Fns.none 300 Try.f25 [.agg (cellsK .u16 false 64 c), li n] [] [] (fun r _ => resW r = some u) = (some (Value.int .i64 (stepM (c n))) = some u)
theorem stepMRun_0 : ∀ i : Nat, 0 ≤ i → i < 16 → StepMRun i := by
  intro i h0 h1
  match i, h0, h1 with
  | 0, _, _ => (unfold StepMRun; intro c u; kernel_rfl)
  | 1, _, _ => (unfold StepMRun; intro c u; kernel_rfl)
  | 2, _, _ => (unfold StepMRun; intro c u; kernel_rfl)
  | 3, _, _ => (unfold StepMRun; intro c u; kernel_rfl)
  | 4, _, _ => (unfold StepMRun; intro c u; kernel_rfl)
  | 5, _, _ => (unfold StepMRun; intro c u; kernel_rfl)
  | 6, _, _ => (unfold StepMRun; intro c u; kernel_rfl)
  | 7, _, _ => (unfold StepMRun; intro c u; kernel_rfl)
  | 8, _, _ => (unfold StepMRun; intro c u; kernel_rfl)
  | 9, _, _ => (unfold StepMRun; intro c u; kernel_rfl)
  | 10, _, _ => (unfold StepMRun; intro c u; kernel_rfl)
  | 11, _, _ => (unfold StepMRun; intro c u; kernel_rfl)
  | 12, _, _ => (unfold StepMRun; intro c u; kernel_rfl)
  | 13, _, _ => (unfold StepMRun; intro c u; kernel_rfl)
  | 14, _, _ => (unfold StepMRun; intro c u; kernel_rfl)
  | 15, _, _ => (unfold StepMRun; intro c u; kernel_rfl)
  | n + 16, _, h => exact absurd h (by omega)
theorem stepMRun_16 : ∀ i : Nat, 16 ≤ i → i < 32 → StepMRun i := by
  intro i h0 h1
  match i, h0, h1 with
  | 16, _, _ => (unfold StepMRun; intro c u; kernel_rfl)
  | 17, _, _ => (unfold StepMRun; intro c u; kernel_rfl)
  | 18, _, _ => (unfold StepMRun; intro c u; kernel_rfl)
  | 19, _, _ => (unfold StepMRun; intro c u; kernel_rfl)
  | 20, _, _ => (unfold StepMRun; intro c u; kernel_rfl)
  | 21, _, _ => (unfold StepMRun; intro c u; kernel_rfl)
  | 22, _, _ => (unfold StepMRun; intro c u; kernel_rfl)
  | 23, _, _ => (unfold StepMRun; intro c u; kernel_rfl)
  | 24, _, _ => (unfold StepMRun; intro c u; kernel_rfl)
  | 25, _, _ => (unfold StepMRun; intro c u; kernel_rfl)
  | 26, _, _ => (unfold StepMRun; intro c u; kernel_rfl)
  | 27, _, _ => (unfold StepMRun; intro c u; kernel_rfl)
  | 28, _, _ => (unfold StepMRun; intro c u; kernel_rfl)
  | 29, _, _ => (unfold StepMRun; intro c u; kernel_rfl)
  | 30, _, _ => (unfold StepMRun; intro c u; kernel_rfl)
  | 31, _, _ => (unfold StepMRun; intro c u; kernel_rfl)
  | n + 32, _, h => exact absurd h (by omega)
theorem stepMRun_32 : ∀ i : Nat, 32 ≤ i → i < 48 → StepMRun i := by
  intro i h0 h1
  match i, h0, h1 with
  | 32, _, _ => (unfold StepMRun; intro c u; kernel_rfl)
  | 33, _, _ => (unfold StepMRun; intro c u; kernel_rfl)
  | 34, _, _ => (unfold StepMRun; intro c u; kernel_rfl)
  | 35, _, _ => (unfold StepMRun; intro c u; kernel_rfl)
  | 36, _, _ => (unfold StepMRun; intro c u; kernel_rfl)
  | 37, _, _ => (unfold StepMRun; intro c u; kernel_rfl)
  | 38, _, _ => (unfold StepMRun; intro c u; kernel_rfl)
  | 39, _, _ => (unfold StepMRun; intro c u; kernel_rfl)
  | 40, _, _ => (unfold StepMRun; intro c u; kernel_rfl)
  | 41, _, _ => (unfold StepMRun; intro c u; kernel_rfl)
  | 42, _, _ => (unfold StepMRun; intro c u; kernel_rfl)
  | 43, _, _ => (unfold StepMRun; intro c u; kernel_rfl)
  | 44, _, _ => (unfold StepMRun; intro c u; kernel_rfl)
  | 45, _, _ => (unfold StepMRun; intro c u; kernel_rfl)
  | 46, _, _ => (unfold StepMRun; intro c u; kernel_rfl)
  | 47, _, _ => (unfold StepMRun; intro c u; kernel_rfl)
  | n + 48, _, h => exact absurd h (by omega)
theorem stepMRun_48 : ∀ i : Nat, 48 ≤ i → i < 64 → StepMRun i := by
  intro i h0 h1
  match i, h0, h1 with
  | 48, _, _ => (unfold StepMRun; intro c u; kernel_rfl)
  | 49, _, _ => (unfold StepMRun; intro c u; kernel_rfl)
  | 50, _, _ => (unfold StepMRun; intro c u; kernel_rfl)
  | 51, _, _ => (unfold StepMRun; intro c u; kernel_rfl)
  | 52, _, _ => (unfold StepMRun; intro c u; kernel_rfl)
  | 53, _, _ => (unfold StepMRun; intro c u; kernel_rfl)
  | 54, _, _ => (unfold StepMRun; intro c u; kernel_rfl)
  | 55, _, _ => (unfold StepMRun; intro c u; kernel_rfl)
  | 56, _, _ => (unfold StepMRun; intro c u; kernel_rfl)
  | 57, _, _ => (unfold StepMRun; intro c u; kernel_rfl)
  | 58, _, _ => (unfold StepMRun; intro c u; kernel_rfl)
  | 59, _, _ => (unfold StepMRun; intro c u; kernel_rfl)
  | 60, _, _ => (unfold StepMRun; intro c u; kernel_rfl)
  | 61, _, _ => (unfold StepMRun; intro c u; kernel_rfl)
  | 62, _, _ => (unfold StepMRun; intro c u; kernel_rfl)
  | 63, _, _ => (unfold StepMRun; intro c u; kernel_rfl)
  | n + 64, _, h => exact absurd h (by omega)
theorem stepMRun (i : Nat) (h : i < 64) : StepMRun i := by
  if h16 : i < 16 then exact stepMRun_0 i (by omega) h16 else
  if h32 : i < 32 then exact stepMRun_16 i (by omega) h32 else
  if h48 : i < 48 then exact stepMRun_32 i (by omega) h48 else
  exact stepMRun_48 i (by omega) h
theorem con25 : Con Try.prog 25 GStepM := by
  refine con_of_runW hm hT FnsOk.none Try.func25 Try.call25 fun avs u h => ?_
  unfold GStepM at h
  split at h
  · rename_i cs k
    obtain ⟨b, rfl, h2⟩ := arrA_spec h
    split at h2
    · rename_i hk
      obtain ⟨n, rfl⟩ := Int.eq_ofNat_of_zero_le hk.1
      simp only [Option.some.injEq, Int.toNat_natCast] at h2; subst h2
      have hr := stepMRun n (by omega)
      unfold StepMRun at hr
      exact ⟨[false, true], 300, [], _, _, canonS b n, of_run (hr b _) rfl⟩
    · cases h2
  · cases h
noncomputable def FJ : Fns := (((FI.add 22 GAlive).add 23 GEnds).add 24 GSize).add 25 GStepM
theorem FJok : FnsOk Try.prog FJ := (((FIok.add con22).add con23).add con24).add con25
end Go.Proofs.Yteikdpagoojdlaa
