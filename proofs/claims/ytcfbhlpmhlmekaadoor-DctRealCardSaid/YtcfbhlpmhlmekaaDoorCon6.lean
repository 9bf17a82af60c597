/-
  What is proved here: contracts of Flat, of the examples. A text to be imported.
-/
import Derived.Test.YtcfbhlpmhlmekaaDoorCon5
namespace Go.Proofs.YtcfbhlpmhlmekaaDoor
open Sm Go Go.RowKit
set_option maxRecDepth 1000000
set_option linter.unusedVariables false
def lst (s : Nat → Int) (i : Nat) : Int := ((List.range 64).map s).getD i 0
theorem lst_eq (s : Nat → Int) (i : Nat) (h : i < 64) : lst s i = s i := by simp [lst, h]
def onlyD (d : Int) (i : Nat) : Int := (d :: List.replicate 63 0).getD i 0
def flatV (d : Int) : Int := IntKind.u8.wrap (mn (mx (W (settledI (W (W (weightI 0 0 * weightI 0 0) * W (mn (mx d (-32767)) 32767))) + 128)) 0) 255)
theorem run15 (d : Int) (u : Value) : runK Tryd.prog T F1 300 Tryd.f23 [.one (.sc (.int .i32 d) false)] [] [] (fun r _ => resW r = some u) = (some (Value.int .u8 (flatV d)) = some u) := by kernel_rfl
def GFlat : List ArgV → Option Value
  | [.val (.int .i32 d)] => some (.int .u8 (flatV d))
  | _ => none
theorem con15 : Con Tryd.prog 23 GFlat := by
  refine con_of_runW hm hT F1ok Tryd.func23 Tryd.call23 fun avs u h => ?_
  unfold GFlat at h
  split at h
  · simp only [Option.some.injEq] at h; subst h
    exact ⟨[], 300, [], _, _, rfl, of_run (run15 _ _) rfl⟩
  · cases h
noncomputable def FE : Fns := ((F2.add 14 GP_11).add 13 GP_13).add 23 GFlat
theorem FEok : FnsOk Tryd.prog FE := ((F2ok.add conP_11).add conP_13).add con15
theorem run17 (u : Value) : runK Tryd.prog T FE 3000 Tryd.f15 [] [] [] (fun r _ => resW r = some u) = (some (Value.bool true) = some u) := by kernel_rfl
def GAwake : List ArgV → Option Value
  | [] => some (.bool true)
  | _ => none
theorem con17 : Con Tryd.prog 15 GAwake := by
  refine con_of_runW hm hT FEok Tryd.func15 Tryd.call15 fun avs u h => ?_
  cases avs with
  | nil =>
    simp only [GAwake, Option.some.injEq] at h; subst h
    exact ⟨[], 3000, [], [], [], rfl, of_run (run17 _) rfl⟩
  | cons a l => cases h
noncomputable def FG : Fns := FE.add 15 GAwake
theorem FGok : FnsOk Tryd.prog FG := FEok.add con17
end Go.Proofs.YtcfbhlpmhlmekaaDoor
