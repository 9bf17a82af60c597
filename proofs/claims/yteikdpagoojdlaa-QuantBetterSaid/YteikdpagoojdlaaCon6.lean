/-
  What is proved here: contracts of quant's table and fine and of the reference's step. A text to be imported.
-/
import Derived.Test.YteikdpagoojdlaaCon5
import Derived.Test.YteikdpagoojdlaaCon3
namespace Go.Proofs.Yteikdpagoojdlaa
open Sm Go Go.RowKit
set_option maxRecDepth 1000000
/-- A step, 0 as 1. -/
def stepV (x : Int) : Int := bif x == 0 then 1 else W x
def vI64 (f : Nat → Int) : Value := .agg ((List.range 64).map fun i => Value.int .i64 (f i)).toArray
def vI32 (f : Nat → Int) : Value := .agg ((List.range 64).map fun i => Value.int .i32 (f i)).toArray
def vI16 (f : Nat → Int) : Value := .agg ((List.range 64).map fun i => Value.int .i16 (f i)).toArray
def mbK (k : IntKind) (e : TypeId) (c : Nat → Int) : Blk := { body := .li (cellsK k false 64 c), elem := e, live := true, ro := true }
def nilA : AV := .one (.sc (.pointer none) true)
theorem run28 (e : TypeId) (c : Nat → Int) (u : Value) : runK Try.prog T Fns.none 3000 Try.f28 [.one (.ptr 0 0)] [mbK .u16 e c] [] (fun r _ => resW r = some u) = (some (vI64 fun i => bif c i != 0 then W (c i) else 1) = some u) := by kernel_rfl
theorem run28n (u : Value) : runK Try.prog T Fns.none 3000 Try.f28 [nilA] [] [] (fun r _ => resW r = some u) = (some (vI64 fun _ => 1) = some u) := by kernel_rfl
def GTab : List ArgV → Option Value
  | [.val (.pointer none)] => some (vI64 fun _ => 1)
  | [.mem _ cs] => intsK .u16 cs (vecN 64 fun c => some (vI64 fun i => stepV (c i)))
  | _ => none
theorem step_eq (x : Int) : (bif x != 0 then W x else 1) = stepV x := by
  unfold stepV
  rw [bne]
  cases x == 0 <;> rfl
theorem con28 : Con Try.prog 28 GTab := by
  refine con_of_runW hm hT FnsOk.none Try.func28 Try.call28 fun avs u h => ?_
  unfold GTab at h
  split at h
  · simp only [Option.some.injEq] at h; subst h
    exact ⟨[true], 3000, [], _, _, rfl, of_run (run28n _) rfl⟩
  · rename_i e cs
    obtain ⟨b, rfl, h2⟩ := arrK_spec h
    simp only [Option.some.injEq] at h2; subst h2
    exact ⟨[], 3000, [], _, _, by kernel_rfl, of_run (run28 e b _) (by simp only [step_eq])⟩
  · cases h
theorem run29 (e : TypeId) (c : Nat → Int) (u : Value) : runK Try.prog T Fns.none 3000 Try.f29 [.one (.ptr 0 0)] [mbK .i32 e c] [] (fun r _ => resW r = some u) = (some (vI32 c) = some u) := by kernel_rfl
theorem run29n (u : Value) : runK Try.prog T Fns.none 3000 Try.f29 [.one (.sc (.pointer none) true)] [] [] (fun r _ => resW r = some u) = (some (vI32 fun _ => 0) = some u) := by kernel_rfl
def GFine0 : List ArgV → Option Value
  | [.val (.pointer none)] => some (vI32 fun _ => 0)
  | [.mem _ cs] => intsK .i32 cs (vecN 64 fun c => some (vI32 c))
  | _ => none
theorem con29 : Con Try.prog 29 GFine0 := by
  refine con_of_runW hm hT FnsOk.none Try.func29 Try.call29 fun avs u h => ?_
  unfold GFine0 at h
  split at h
  · simp only [Option.some.injEq] at h; subst h
    exact ⟨[true], 3000, [], _, _, rfl, of_run (run29n _) rfl⟩
  · rename_i e cs
    obtain ⟨b, rfl, h2⟩ := arrK_spec h
    simp only [Option.some.injEq] at h2; subst h2
    exact ⟨[], 3000, [], _, _, by kernel_rfl, of_run (run29 e b _) rfl⟩
  · cases h
def GStep : List ArgV → Option Value
  | [.val (.agg cs), .val (.int .i64 k)] => intsK .u16 cs.toList (vecN 64 fun c => if 0 ≤ k ∧ k < 64 then some (.int .i64 (stepV (c k.toNat))) else none)
  | _ => none
def StepRun (n : Nat) : Prop := ∀ (c : Nat → Int) (u : Value), runK Try.prog T Fns.none 300 Try.f34 [.agg (cellsK .u16 false 64 c), li n] [] [] (fun r _ => resW r = some u) = (((c n == 0) = true → some (Value.int .i64 1) = some u) ∧ ((c n == 0) = false → some (Value.int .i64 (W (c n))) = some u))
theorem stepRun_0 : ∀ i : Nat, 0 ≤ i → i < 16 → StepRun i := by
  intro i h0 h1
  match i, h0, h1 with
  | 0, _, _ => (unfold StepRun; intro c u; kernel_rfl)
  | 1, _, _ => (unfold StepRun; intro c u; kernel_rfl)
  | 2, _, _ => (unfold StepRun; intro c u; kernel_rfl)
  | 3, _, _ => (unfold StepRun; intro c u; kernel_rfl)
  | 4, _, _ => (unfold StepRun; intro c u; kernel_rfl)
  | 5, _, _ => (unfold StepRun; intro c u; kernel_rfl)
  | 6, _, _ => (unfold StepRun; intro c u; kernel_rfl)
  | 7, _, _ => (unfold StepRun; intro c u; kernel_rfl)
  | 8, _, _ => (unfold StepRun; intro c u; kernel_rfl)
  | 9, _, _ => (unfold StepRun; intro c u; kernel_rfl)
  | 10, _, _ => (unfold StepRun; intro c u; kernel_rfl)
  | 11, _, _ => (unfold StepRun; intro c u; kernel_rfl)
  | 12, _, _ => (unfold StepRun; intro c u; kernel_rfl)
  | 13, _, _ => (unfold StepRun; intro c u; kernel_rfl)
  | 14, _, _ => (unfold StepRun; intro c u; kernel_rfl)
  | 15, _, _ => (unfold StepRun; intro c u; kernel_rfl)
  | n + 16, _, h => exact absurd h (by omega)
theorem stepRun_16 : ∀ i : Nat, 16 ≤ i → i < 32 → StepRun i := by
  intro i h0 h1
  match i, h0, h1 with
  | 16, _, _ => (unfold StepRun; intro c u; kernel_rfl)
  | 17, _, _ => (unfold StepRun; intro c u; kernel_rfl)
  | 18, _, _ => (unfold StepRun; intro c u; kernel_rfl)
  | 19, _, _ => (unfold StepRun; intro c u; kernel_rfl)
  | 20, _, _ => (unfold StepRun; intro c u; kernel_rfl)
  | 21, _, _ => (unfold StepRun; intro c u; kernel_rfl)
  | 22, _, _ => (unfold StepRun; intro c u; kernel_rfl)
  | 23, _, _ => (unfold StepRun; intro c u; kernel_rfl)
  | 24, _, _ => (unfold StepRun; intro c u; kernel_rfl)
  | 25, _, _ => (unfold StepRun; intro c u; kernel_rfl)
  | 26, _, _ => (unfold StepRun; intro c u; kernel_rfl)
  | 27, _, _ => (unfold StepRun; intro c u; kernel_rfl)
  | 28, _, _ => (unfold StepRun; intro c u; kernel_rfl)
  | 29, _, _ => (unfold StepRun; intro c u; kernel_rfl)
  | 30, _, _ => (unfold StepRun; intro c u; kernel_rfl)
  | 31, _, _ => (unfold StepRun; intro c u; kernel_rfl)
  | n + 32, _, h => exact absurd h (by omega)
theorem stepRun_32 : ∀ i : Nat, 32 ≤ i → i < 48 → StepRun i := by
  intro i h0 h1
  match i, h0, h1 with
  | 32, _, _ => (unfold StepRun; intro c u; kernel_rfl)
  | 33, _, _ => (unfold StepRun; intro c u; kernel_rfl)
  | 34, _, _ => (unfold StepRun; intro c u; kernel_rfl)
  | 35, _, _ => (unfold StepRun; intro c u; kernel_rfl)
  | 36, _, _ => (unfold StepRun; intro c u; kernel_rfl)
  | 37, _, _ => (unfold StepRun; intro c u; kernel_rfl)
  | 38, _, _ => (unfold StepRun; intro c u; kernel_rfl)
  | 39, _, _ => (unfold StepRun; intro c u; kernel_rfl)
  | 40, _, _ => (unfold StepRun; intro c u; kernel_rfl)
  | 41, _, _ => (unfold StepRun; intro c u; kernel_rfl)
  | 42, _, _ => (unfold StepRun; intro c u; kernel_rfl)
  | 43, _, _ => (unfold StepRun; intro c u; kernel_rfl)
  | 44, _, _ => (unfold StepRun; intro c u; kernel_rfl)
  | 45, _, _ => (unfold StepRun; intro c u; kernel_rfl)
  | 46, _, _ => (unfold StepRun; intro c u; kernel_rfl)
  | 47, _, _ => (unfold StepRun; intro c u; kernel_rfl)
  | n + 48, _, h => exact absurd h (by omega)
theorem stepRun_48 : ∀ i : Nat, 48 ≤ i → i < 64 → StepRun i := by
  intro i h0 h1
  match i, h0, h1 with
  | 48, _, _ => (unfold StepRun; intro c u; kernel_rfl)
  | 49, _, _ => (unfold StepRun; intro c u; kernel_rfl)
  | 50, _, _ => (unfold StepRun; intro c u; kernel_rfl)
  | 51, _, _ => (unfold StepRun; intro c u; kernel_rfl)
  | 52, _, _ => (unfold StepRun; intro c u; kernel_rfl)
  | 53, _, _ => (unfold StepRun; intro c u; kernel_rfl)
  | 54, _, _ => (unfold StepRun; intro c u; kernel_rfl)
  | 55, _, _ => (unfold StepRun; intro c u; kernel_rfl)
  | 56, _, _ => (unfold StepRun; intro c u; kernel_rfl)
  | 57, _, _ => (unfold StepRun; intro c u; kernel_rfl)
  | 58, _, _ => (unfold StepRun; intro c u; kernel_rfl)
  | 59, _, _ => (unfold StepRun; intro c u; kernel_rfl)
  | 60, _, _ => (unfold StepRun; intro c u; kernel_rfl)
  | 61, _, _ => (unfold StepRun; intro c u; kernel_rfl)
  | 62, _, _ => (unfold StepRun; intro c u; kernel_rfl)
  | 63, _, _ => (unfold StepRun; intro c u; kernel_rfl)
  | n + 64, _, h => exact absurd h (by omega)
theorem stepRun (i : Nat) (h : i < 64) : StepRun i := by
  if h16 : i < 16 then exact stepRun_0 i (by omega) h16 else
  if h32 : i < 32 then exact stepRun_16 i (by omega) h32 else
  if h48 : i < 48 then exact stepRun_32 i (by omega) h48 else
  exact stepRun_48 i (by omega) h
theorem canonS (c : Nat → Int) (n : Nat) : canon2 [false, true] [.val (.agg (valsK .u16 64 c).toArray), .val (.int .i64 n)] 0 = some ([.agg (cellsK .u16 false 64 c), li n], []) := by kernel_rfl
theorem con34 : Con Try.prog 34 GStep := by
  refine con_of_runW hm hT FnsOk.none Try.func34 Try.call34 fun avs u h => ?_
  unfold GStep at h
  split at h
  · rename_i cs k
    obtain ⟨b, rfl, h2⟩ := arrA_spec h
    split at h2
    · rename_i hk
      obtain ⟨n, rfl⟩ := Int.eq_ofNat_of_zero_le hk.1
      simp only [Option.some.injEq, Int.toNat_natCast] at h2; subst h2
      have hr := stepRun n (by omega)
      unfold StepRun at hr
      refine ⟨[false, true], 300, [], _, _, canonS b n, of_run (hr b _) ⟨fun h0 => ?_, fun h0 => ?_⟩⟩ <;> simp only [stepV, h0, cond_true, cond_false]
    · cases h2
  · cases h
noncomputable def FD : Fns := (((((FC.add 28 GTab).add 29 GFine0).add 34 GStep).addP 31 GNear).addP 33 GNear).add 30 G30
theorem FDok : FnsOk Try.prog FD := (((((FCok.add con28).add con29).add con34).addP con31).addP con33).add con30
noncomputable def FE : Fns := ((FD.add 26 GPlace).add 32 GPlace).add 27 GAt
theorem FEok : FnsOk Try.prog FE := ((FDok.add con26).add con32).add con27
end Go.Proofs.Yteikdpagoojdlaa
