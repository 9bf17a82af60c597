/-
  What is proved here: the contract of the laws' examples. A text to be imported.
-/
import Derived.Test.YtcfbhlpmhlmekaaCon6
namespace Go.Proofs.Ytcfbhlpmhlmekaa
open Sm Go Go.RowKit
set_option maxRecDepth 1000000
theorem run17 (u : Value) : runK Try.prog T FE 3000 Try.f17 [] [] [] (fun r _ => resW r = some u) = (some (Value.bool true) = some u) := by kernel_rfl
def GAwake : List ArgV → Option Value
  | [] => some (.bool true)
  | _ => none
theorem con17 : Con Try.prog 17 GAwake := by
  refine con_of_runW hm hT FEok Try.func17 Try.call17 fun avs u h => ?_
  cases avs with
  | nil =>
    simp only [GAwake, Option.some.injEq] at h; subst h
    exact ⟨[], 3000, [], [], [], rfl, of_run (run17 _) rfl⟩
  | cons a l => cases h
noncomputable def FG : Fns := FE.add 17 GAwake
theorem FGok : FnsOk Try.prog FG := FEok.add con17
end Go.Proofs.Ytcfbhlpmhlmekaa
