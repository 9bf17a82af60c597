/-
  What is proved here: contracts of zigzag.Order and of the reference's Order. A text to be imported.
-/
import Derived.Test.YteikdpagoojdlaaBase
namespace Go.Proofs.Yteikdpagoojdlaa
open Sm Go Go.RowKit
set_option maxRecDepth 1000000
def orderL : List Nat := [0, 1, 8, 16, 9, 2, 3, 10, 17, 24, 32, 25, 18, 11, 4, 5, 12, 19, 26, 33, 40, 48, 41, 34, 27, 20, 13, 6, 7, 14, 21, 28, 35, 42, 49, 56, 57, 50, 43, 36, 29, 22, 15, 23, 30, 37, 44, 51, 58, 59, 52, 45, 38, 31, 39, 46, 53, 60, 61, 54, 47, 55, 62, 63]
def posL : List Nat := [0, 1, 5, 6, 14, 15, 27, 28, 2, 4, 7, 13, 16, 26, 29, 42, 3, 8, 12, 17, 25, 30, 41, 43, 9, 11, 18, 24, 31, 40, 44, 53, 10, 19, 23, 32, 39, 45, 52, 54, 20, 22, 33, 38, 46, 51, 55, 60, 21, 34, 37, 47, 50, 56, 59, 61, 35, 36, 48, 49, 57, 58, 62, 63]
def orderV : Value := .agg (orderL.map fun (n : Nat) => .int .i8 (n : Int)).toArray
def G30 : List ArgV → Option Value
  | [] => some orderV
  | _ => none
def orderA : AV := .agg (orderL.map fun (n : Nat) => .sc (.int .i8 (n : Int)) true)

theorem run30 : runK Try.prog T0 Fns.none 5000 Try.f30 [] [] [] (fun r _ => r = some orderA) = (some orderA = some orderA) := by kernel_rfl
theorem con30 : Con Try.prog 30 G30 := by
  refine con_of_run hm hT0 FnsOk.none Try.func30 Try.call30 fun avs u h => ?_
  cases avs with
  | nil =>
    simp only [G30, Option.some.injEq] at h; subst h
    exact ⟨true, 5000, [], orderA, [], [], rfl, rfl, of_run run30 rfl⟩
  | cons a l => cases h

noncomputable def F1 : Fns := Fns.none.add 30 G30
theorem F1ok : FnsOk Try.prog F1 := FnsOk.none.add con30

def spotsB : Blk := { body := .li (orderL.flatMap fun n => [.sc (.int .i64 ((n / 8 : Nat) : Int)) true, .sc (.int .i64 ((n % 8 : Nat) : Int)) true]), elem := 67, live := true, ro := false }
def spotsV : List Value := orderL.flatMap fun n => [.int .i64 ((n / 8 : Nat) : Int), .int .i64 ((n % 8 : Nat) : Int)]
theorem run36 : runK Try.prog T0 Fns.none 5000 Try.f36 [] [] [] (fun r hp => r = some (.one (.sl 127 0 64 2)) ∧ getB hp 127 = some spotsB) = (some (AV.one (C1.sl 127 0 64 2)) = some (.one (.sl 127 0 64 2)) ∧ some spotsB = some spotsB) := by kernel_rfl
noncomputable def F2 : Fns := F1.addGen 36 (sliceG 64 2 spotsB)
theorem F2ok : FnsOk Try.prog F2 :=
  FnsOk.addSlice hm hT0 FnsOk.none F1ok Try.func36 Try.call36 (vs := spotsV) rfl (by decide) rfl rfl (of_run run36 ⟨rfl, rfl⟩)
end Go.Proofs.Yteikdpagoojdlaa
