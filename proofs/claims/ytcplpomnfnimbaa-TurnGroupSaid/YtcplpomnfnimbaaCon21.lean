/-
  What is proved here: the reference's Then and the program's, one after another (1). A text to be imported.
-/
import Derived.Test.YtcplpomnfnimbaaCon1
namespace Go.Proofs.Ytcplpomnfnimbaa
open Sm Go Go.RowKit
set_option maxRecDepth 1000000
set_option linter.unusedSimpArgs false
set_option linter.unusedVariables false
theorem r15_11 (u : Value) : runK Try.prog T0 F3 2000 Try.f15 [li8 1, li8 1] [] [] (fun r _ => resW r = some u) = (some (Value.int .i8 (thenI 1 1)) = some u) := by kernel_rfl
theorem r14_11 (u : Value) : runK Try.prog T0 F3 500 Try.f14 [li8 1, li8 1] [] [] (fun r _ => resW r = some u) = (some (Value.int .i8 (thenI 1 1)) = some u) := by kernel_rfl
theorem r15_12 (u : Value) : runK Try.prog T0 F3 2000 Try.f15 [li8 1, li8 2] [] [] (fun r _ => resW r = some u) = (some (Value.int .i8 (thenI 1 2)) = some u) := by kernel_rfl
theorem r14_12 (u : Value) : runK Try.prog T0 F3 500 Try.f14 [li8 1, li8 2] [] [] (fun r _ => resW r = some u) = (some (Value.int .i8 (thenI 1 2)) = some u) := by kernel_rfl
theorem r15_13 (u : Value) : runK Try.prog T0 F3 2000 Try.f15 [li8 1, li8 3] [] [] (fun r _ => resW r = some u) = (some (Value.int .i8 (thenI 1 3)) = some u) := by kernel_rfl
theorem r14_13 (u : Value) : runK Try.prog T0 F3 500 Try.f14 [li8 1, li8 3] [] [] (fun r _ => resW r = some u) = (some (Value.int .i8 (thenI 1 3)) = some u) := by kernel_rfl
theorem r15_14 (u : Value) : runK Try.prog T0 F3 2000 Try.f15 [li8 1, li8 4] [] [] (fun r _ => resW r = some u) = (some (Value.int .i8 (thenI 1 4)) = some u) := by kernel_rfl
theorem r14_14 (u : Value) : runK Try.prog T0 F3 500 Try.f14 [li8 1, li8 4] [] [] (fun r _ => resW r = some u) = (some (Value.int .i8 (thenI 1 4)) = some u) := by kernel_rfl
theorem r15_15 (u : Value) : runK Try.prog T0 F3 2000 Try.f15 [li8 1, li8 5] [] [] (fun r _ => resW r = some u) = (some (Value.int .i8 (thenI 1 5)) = some u) := by kernel_rfl
theorem r14_15 (u : Value) : runK Try.prog T0 F3 500 Try.f14 [li8 1, li8 5] [] [] (fun r _ => resW r = some u) = (some (Value.int .i8 (thenI 1 5)) = some u) := by kernel_rfl
theorem r15_16 (u : Value) : runK Try.prog T0 F3 2000 Try.f15 [li8 1, li8 6] [] [] (fun r _ => resW r = some u) = (some (Value.int .i8 (thenI 1 6)) = some u) := by kernel_rfl
theorem r14_16 (u : Value) : runK Try.prog T0 F3 500 Try.f14 [li8 1, li8 6] [] [] (fun r _ => resW r = some u) = (some (Value.int .i8 (thenI 1 6)) = some u) := by kernel_rfl
theorem r15_17 (u : Value) : runK Try.prog T0 F3 2000 Try.f15 [li8 1, li8 7] [] [] (fun r _ => resW r = some u) = (some (Value.int .i8 (thenI 1 7)) = some u) := by kernel_rfl
theorem r14_17 (u : Value) : runK Try.prog T0 F3 500 Try.f14 [li8 1, li8 7] [] [] (fun r _ => resW r = some u) = (some (Value.int .i8 (thenI 1 7)) = some u) := by kernel_rfl
theorem r15_18 (u : Value) : runK Try.prog T0 F3 2000 Try.f15 [li8 1, li8 8] [] [] (fun r _ => resW r = some u) = (some (Value.int .i8 (thenI 1 8)) = some u) := by kernel_rfl
theorem r14_18 (u : Value) : runK Try.prog T0 F3 500 Try.f14 [li8 1, li8 8] [] [] (fun r _ => resW r = some u) = (some (Value.int .i8 (thenI 1 8)) = some u) := by kernel_rfl
end Go.Proofs.Ytcplpomnfnimbaa
