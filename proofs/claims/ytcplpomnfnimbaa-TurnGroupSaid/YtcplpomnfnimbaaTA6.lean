/-
  What is proved here: the whole run of the small examples of stage 28. A text to be imported.
-/
import Derived.Test.YtcplpomnfnimbaaTA5
namespace Go.Proofs.Ytcplpomnfnimbaa
open Sm Go Go.RowKit
set_option maxRecDepth 1000000
set_option linter.unusedVariables false
def FE0 : Fns := { FD0 with co := fun f => match f with
  | 21 => some [.e 4 1 6]
  | _ => some [] }
theorem FE0ok : FnsOk Try.prog FE0 :=
  have h : FnsOk Try.prog FD0 := FD0ok
  ⟨h.pr, h.pure, h.pre, h.ext, h.gen, h.gnp, h.cal, h.loops⟩
theorem alive20 (u : Value) : runK Try.prog T FE0 900 Try.f20 [] [] [] (fun r _ => resW r = some u) = (some (Value.bool true) = some u) := by kernel_rfl
end Go.Proofs.Ytcplpomnfnimbaa
