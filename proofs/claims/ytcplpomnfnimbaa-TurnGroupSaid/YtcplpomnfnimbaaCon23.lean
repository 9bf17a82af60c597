/-
  What is proved here: the reference's Then and the program's, one after another (3). A text to be imported.
-/
import Derived.Test.YtcplpomnfnimbaaCon1
namespace Go.Proofs.Ytcplpomnfnimbaa
open Sm Go Go.RowKit
set_option maxRecDepth 1000000
set_option linter.unusedSimpArgs false
set_option linter.unusedVariables false
theorem r15_31 (u : Value) : runK Try.prog T0 F3 2000 Try.f15 [li8 3, li8 1] [] [] (fun r _ => resW r = some u) = (some (Value.int .i8 (thenI 3 1)) = some u) := by kernel_rfl
theorem r14_31 (u : Value) : runK Try.prog T0 F3 500 Try.f14 [li8 3, li8 1] [] [] (fun r _ => resW r = some u) = (some (Value.int .i8 (thenI 3 1)) = some u) := by kernel_rfl
theorem r15_32 (u : Value) : runK Try.prog T0 F3 2000 Try.f15 [li8 3, li8 2] [] [] (fun r _ => resW r = some u) = (some (Value.int .i8 (thenI 3 2)) = some u) := by kernel_rfl
theorem r14_32 (u : Value) : runK Try.prog T0 F3 500 Try.f14 [li8 3, li8 2] [] [] (fun r _ => resW r = some u) = (some (Value.int .i8 (thenI 3 2)) = some u) := by kernel_rfl
theorem r15_33 (u : Value) : runK Try.prog T0 F3 2000 Try.f15 [li8 3, li8 3] [] [] (fun r _ => resW r = some u) = (some (Value.int .i8 (thenI 3 3)) = some u) := by kernel_rfl
theorem r14_33 (u : Value) : runK Try.prog T0 F3 500 Try.f14 [li8 3, li8 3] [] [] (fun r _ => resW r = some u) = (some (Value.int .i8 (thenI 3 3)) = some u) := by kernel_rfl
theorem r15_34 (u : Value) : runK Try.prog T0 F3 2000 Try.f15 [li8 3, li8 4] [] [] (fun r _ => resW r = some u) = (some (Value.int .i8 (thenI 3 4)) = some u) := by kernel_rfl
theorem r14_34 (u : Value) : runK Try.prog T0 F3 500 Try.f14 [li8 3, li8 4] [] [] (fun r _ => resW r = some u) = (some (Value.int .i8 (thenI 3 4)) = some u) := by kernel_rfl
theorem r15_35 (u : Value) : runK Try.prog T0 F3 2000 Try.f15 [li8 3, li8 5] [] [] (fun r _ => resW r = some u) = (some (Value.int .i8 (thenI 3 5)) = some u) := by kernel_rfl
theorem r14_35 (u : Value) : runK Try.prog T0 F3 500 Try.f14 [li8 3, li8 5] [] [] (fun r _ => resW r = some u) = (some (Value.int .i8 (thenI 3 5)) = some u) := by kernel_rfl
theorem r15_36 (u : Value) : runK Try.prog T0 F3 2000 Try.f15 [li8 3, li8 6] [] [] (fun r _ => resW r = some u) = (some (Value.int .i8 (thenI 3 6)) = some u) := by kernel_rfl
theorem r14_36 (u : Value) : runK Try.prog T0 F3 500 Try.f14 [li8 3, li8 6] [] [] (fun r _ => resW r = some u) = (some (Value.int .i8 (thenI 3 6)) = some u) := by kernel_rfl
theorem r15_37 (u : Value) : runK Try.prog T0 F3 2000 Try.f15 [li8 3, li8 7] [] [] (fun r _ => resW r = some u) = (some (Value.int .i8 (thenI 3 7)) = some u) := by kernel_rfl
theorem r14_37 (u : Value) : runK Try.prog T0 F3 500 Try.f14 [li8 3, li8 7] [] [] (fun r _ => resW r = some u) = (some (Value.int .i8 (thenI 3 7)) = some u) := by kernel_rfl
theorem r15_38 (u : Value) : runK Try.prog T0 F3 2000 Try.f15 [li8 3, li8 8] [] [] (fun r _ => resW r = some u) = (some (Value.int .i8 (thenI 3 8)) = some u) := by kernel_rfl
theorem r14_38 (u : Value) : runK Try.prog T0 F3 500 Try.f14 [li8 3, li8 8] [] [] (fun r _ => resW r = some u) = (some (Value.int .i8 (thenI 3 8)) = some u) := by kernel_rfl
end Go.Proofs.Ytcplpomnfnimbaa
