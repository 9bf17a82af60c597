/-
  What is proved here: the reference's Then and the program's, one after another (2). A text to be imported.
-/
import Derived.Test.YtcplpomnfnimbaaCon1
namespace Go.Proofs.Ytcplpomnfnimbaa
open Sm Go Go.RowKit
set_option maxRecDepth 1000000
set_option linter.unusedSimpArgs false
set_option linter.unusedVariables false
theorem r15_21 (u : Value) : runK Try.prog T0 F3 2000 Try.f15 [li8 2, li8 1] [] [] (fun r _ => resW r = some u) = (some (Value.int .i8 (thenI 2 1)) = some u) := by kernel_rfl
theorem r14_21 (u : Value) : runK Try.prog T0 F3 500 Try.f14 [li8 2, li8 1] [] [] (fun r _ => resW r = some u) = (some (Value.int .i8 (thenI 2 1)) = some u) := by kernel_rfl
theorem r15_22 (u : Value) : runK Try.prog T0 F3 2000 Try.f15 [li8 2, li8 2] [] [] (fun r _ => resW r = some u) = (some (Value.int .i8 (thenI 2 2)) = some u) := by kernel_rfl
theorem r14_22 (u : Value) : runK Try.prog T0 F3 500 Try.f14 [li8 2, li8 2] [] [] (fun r _ => resW r = some u) = (some (Value.int .i8 (thenI 2 2)) = some u) := by kernel_rfl
theorem r15_23 (u : Value) : runK Try.prog T0 F3 2000 Try.f15 [li8 2, li8 3] [] [] (fun r _ => resW r = some u) = (some (Value.int .i8 (thenI 2 3)) = some u) := by kernel_rfl
theorem r14_23 (u : Value) : runK Try.prog T0 F3 500 Try.f14 [li8 2, li8 3] [] [] (fun r _ => resW r = some u) = (some (Value.int .i8 (thenI 2 3)) = some u) := by kernel_rfl
theorem r15_24 (u : Value) : runK Try.prog T0 F3 2000 Try.f15 [li8 2, li8 4] [] [] (fun r _ => resW r = some u) = (some (Value.int .i8 (thenI 2 4)) = some u) := by kernel_rfl
theorem r14_24 (u : Value) : runK Try.prog T0 F3 500 Try.f14 [li8 2, li8 4] [] [] (fun r _ => resW r = some u) = (some (Value.int .i8 (thenI 2 4)) = some u) := by kernel_rfl
theorem r15_25 (u : Value) : runK Try.prog T0 F3 2000 Try.f15 [li8 2, li8 5] [] [] (fun r _ => resW r = some u) = (some (Value.int .i8 (thenI 2 5)) = some u) := by kernel_rfl
theorem r14_25 (u : Value) : runK Try.prog T0 F3 500 Try.f14 [li8 2, li8 5] [] [] (fun r _ => resW r = some u) = (some (Value.int .i8 (thenI 2 5)) = some u) := by kernel_rfl
theorem r15_26 (u : Value) : runK Try.prog T0 F3 2000 Try.f15 [li8 2, li8 6] [] [] (fun r _ => resW r = some u) = (some (Value.int .i8 (thenI 2 6)) = some u) := by kernel_rfl
theorem r14_26 (u : Value) : runK Try.prog T0 F3 500 Try.f14 [li8 2, li8 6] [] [] (fun r _ => resW r = some u) = (some (Value.int .i8 (thenI 2 6)) = some u) := by kernel_rfl
theorem r15_27 (u : Value) : runK Try.prog T0 F3 2000 Try.f15 [li8 2, li8 7] [] [] (fun r _ => resW r = some u) = (some (Value.int .i8 (thenI 2 7)) = some u) := by kernel_rfl
theorem r14_27 (u : Value) : runK Try.prog T0 F3 500 Try.f14 [li8 2, li8 7] [] [] (fun r _ => resW r = some u) = (some (Value.int .i8 (thenI 2 7)) = some u) := by kernel_rfl
theorem r15_28 (u : Value) : runK Try.prog T0 F3 2000 Try.f15 [li8 2, li8 8] [] [] (fun r _ => resW r = some u) = (some (Value.int .i8 (thenI 2 8)) = some u) := by kernel_rfl
theorem r14_28 (u : Value) : runK Try.prog T0 F3 500 Try.f14 [li8 2, li8 8] [] [] (fun r _ => resW r = some u) = (some (Value.int .i8 (thenI 2 8)) = some u) := by kernel_rfl
end Go.Proofs.Ytcplpomnfnimbaa
