/-
  What is proved here: the reference's Then and the program's, one after another (8). A text to be imported.
-/
import Derived.Test.YtcplpomnfnimbaaCon1
namespace Go.Proofs.Ytcplpomnfnimbaa
open Sm Go Go.RowKit
set_option maxRecDepth 1000000
set_option linter.unusedSimpArgs false
set_option linter.unusedVariables false
theorem r15_81 (u : Value) : runK Try.prog T0 F3 2000 Try.f15 [li8 8, li8 1] [] [] (fun r _ => resW r = some u) = (some (Value.int .i8 (thenI 8 1)) = some u) := by kernel_rfl
theorem r14_81 (u : Value) : runK Try.prog T0 F3 500 Try.f14 [li8 8, li8 1] [] [] (fun r _ => resW r = some u) = (some (Value.int .i8 (thenI 8 1)) = some u) := by kernel_rfl
theorem r15_82 (u : Value) : runK Try.prog T0 F3 2000 Try.f15 [li8 8, li8 2] [] [] (fun r _ => resW r = some u) = (some (Value.int .i8 (thenI 8 2)) = some u) := by kernel_rfl
theorem r14_82 (u : Value) : runK Try.prog T0 F3 500 Try.f14 [li8 8, li8 2] [] [] (fun r _ => resW r = some u) = (some (Value.int .i8 (thenI 8 2)) = some u) := by kernel_rfl
theorem r15_83 (u : Value) : runK Try.prog T0 F3 2000 Try.f15 [li8 8, li8 3] [] [] (fun r _ => resW r = some u) = (some (Value.int .i8 (thenI 8 3)) = some u) := by kernel_rfl
theorem r14_83 (u : Value) : runK Try.prog T0 F3 500 Try.f14 [li8 8, li8 3] [] [] (fun r _ => resW r = some u) = (some (Value.int .i8 (thenI 8 3)) = some u) := by kernel_rfl
theorem r15_84 (u : Value) : runK Try.prog T0 F3 2000 Try.f15 [li8 8, li8 4] [] [] (fun r _ => resW r = some u) = (some (Value.int .i8 (thenI 8 4)) = some u) := by kernel_rfl
theorem r14_84 (u : Value) : runK Try.prog T0 F3 500 Try.f14 [li8 8, li8 4] [] [] (fun r _ => resW r = some u) = (some (Value.int .i8 (thenI 8 4)) = some u) := by kernel_rfl
theorem r15_85 (u : Value) : runK Try.prog T0 F3 2000 Try.f15 [li8 8, li8 5] [] [] (fun r _ => resW r = some u) = (some (Value.int .i8 (thenI 8 5)) = some u) := by kernel_rfl
theorem r14_85 (u : Value) : runK Try.prog T0 F3 500 Try.f14 [li8 8, li8 5] [] [] (fun r _ => resW r = some u) = (some (Value.int .i8 (thenI 8 5)) = some u) := by kernel_rfl
theorem r15_86 (u : Value) : runK Try.prog T0 F3 2000 Try.f15 [li8 8, li8 6] [] [] (fun r _ => resW r = some u) = (some (Value.int .i8 (thenI 8 6)) = some u) := by kernel_rfl
theorem r14_86 (u : Value) : runK Try.prog T0 F3 500 Try.f14 [li8 8, li8 6] [] [] (fun r _ => resW r = some u) = (some (Value.int .i8 (thenI 8 6)) = some u) := by kernel_rfl
theorem r15_87 (u : Value) : runK Try.prog T0 F3 2000 Try.f15 [li8 8, li8 7] [] [] (fun r _ => resW r = some u) = (some (Value.int .i8 (thenI 8 7)) = some u) := by kernel_rfl
theorem r14_87 (u : Value) : runK Try.prog T0 F3 500 Try.f14 [li8 8, li8 7] [] [] (fun r _ => resW r = some u) = (some (Value.int .i8 (thenI 8 7)) = some u) := by kernel_rfl
theorem r15_88 (u : Value) : runK Try.prog T0 F3 2000 Try.f15 [li8 8, li8 8] [] [] (fun r _ => resW r = some u) = (some (Value.int .i8 (thenI 8 8)) = some u) := by kernel_rfl
theorem r14_88 (u : Value) : runK Try.prog T0 F3 500 Try.f14 [li8 8, li8 8] [] [] (fun r _ => resW r = some u) = (some (Value.int .i8 (thenI 8 8)) = some u) := by kernel_rfl
end Go.Proofs.Ytcplpomnfnimbaa
