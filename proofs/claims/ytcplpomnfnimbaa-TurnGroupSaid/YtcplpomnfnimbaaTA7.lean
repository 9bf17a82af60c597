/-
  What is proved here: the contract of the small examples of stage 28. A text to be imported.
-/
import Derived.Test.YtcplpomnfnimbaaTA6
namespace Go.Proofs.Ytcplpomnfnimbaa
open Sm Go Go.RowKit
set_option maxRecDepth 1000000
set_option linter.unusedVariables false
def G20 : List ArgV → Option Value
  | [] => some (.bool true)
  | _ => none
theorem con20 : Con Try.prog 20 G20 := by
  refine con_of_runW hm hT FE0ok Try.func20 Try.call20 fun avs u h => ?_
  unfold G20 at h
  split at h
  · simp only [Option.some.injEq] at h; subst h
    exact ⟨[], 900, [], [], [], rfl, of_run (alive20 _) rfl⟩
  · cases h
def FL : Fns := Fns.none.add 20 G20
theorem FLok : FnsOk Try.prog FL := FnsOk.none.add con20
def FG : Fns := (Fns.none.add 20 G20).add 14 GThen
theorem FGok : FnsOk Try.prog FG := (FnsOk.none.add con20).add con14
end Go.Proofs.Ytcplpomnfnimbaa
