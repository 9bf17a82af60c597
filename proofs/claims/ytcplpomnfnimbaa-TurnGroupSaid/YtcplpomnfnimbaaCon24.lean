/-
  What is proved here: the reference's Then and the program's, one after another (4). A text to be imported.
-/
import Derived.Test.YtcplpomnfnimbaaCon1
namespace Go.Proofs.Ytcplpomnfnimbaa
open Sm Go Go.RowKit
set_option maxRecDepth 1000000
set_option linter.unusedSimpArgs false
set_option linter.unusedVariables false
theorem r15_41 (u : Value) : runK Try.prog T0 F3 2000 Try.f15 [li8 4, li8 1] [] [] (fun r _ => resW r = some u) = (some (Value.int .i8 (thenI 4 1)) = some u) := by kernel_rfl
theorem r14_41 (u : Value) : runK Try.prog T0 F3 500 Try.f14 [li8 4, li8 1] [] [] (fun r _ => resW r = some u) = (some (Value.int .i8 (thenI 4 1)) = some u) := by kernel_rfl
theorem r15_42 (u : Value) : runK Try.prog T0 F3 2000 Try.f15 [li8 4, li8 2] [] [] (fun r _ => resW r = some u) = (some (Value.int .i8 (thenI 4 2)) = some u) := by kernel_rfl
theorem r14_42 (u : Value) : runK Try.prog T0 F3 500 Try.f14 [li8 4, li8 2] [] [] (fun r _ => resW r = some u) = (some (Value.int .i8 (thenI 4 2)) = some u) := by kernel_rfl
theorem r15_43 (u : Value) : runK Try.prog T0 F3 2000 Try.f15 [li8 4, li8 3] [] [] (fun r _ => resW r = some u) = (some (Value.int .i8 (thenI 4 3)) = some u) := by kernel_rfl
theorem r14_43 (u : Value) : runK Try.prog T0 F3 500 Try.f14 [li8 4, li8 3] [] [] (fun r _ => resW r = some u) = (some (Value.int .i8 (thenI 4 3)) = some u) := by kernel_rfl
theorem r15_44 (u : Value) : runK Try.prog T0 F3 2000 Try.f15 [li8 4, li8 4] [] [] (fun r _ => resW r = some u) = (some (Value.int .i8 (thenI 4 4)) = some u) := by kernel_rfl
theorem r14_44 (u : Value) : runK Try.prog T0 F3 500 Try.f14 [li8 4, li8 4] [] [] (fun r _ => resW r = some u) = (some (Value.int .i8 (thenI 4 4)) = some u) := by kernel_rfl
theorem r15_45 (u : Value) : runK Try.prog T0 F3 2000 Try.f15 [li8 4, li8 5] [] [] (fun r _ => resW r = some u) = (some (Value.int .i8 (thenI 4 5)) = some u) := by kernel_rfl
theorem r14_45 (u : Value) : runK Try.prog T0 F3 500 Try.f14 [li8 4, li8 5] [] [] (fun r _ => resW r = some u) = (some (Value.int .i8 (thenI 4 5)) = some u) := by kernel_rfl
theorem r15_46 (u : Value) : runK Try.prog T0 F3 2000 Try.f15 [li8 4, li8 6] [] [] (fun r _ => resW r = some u) = (some (Value.int .i8 (thenI 4 6)) = some u) := by kernel_rfl
theorem r14_46 (u : Value) : runK Try.prog T0 F3 500 Try.f14 [li8 4, li8 6] [] [] (fun r _ => resW r = some u) = (some (Value.int .i8 (thenI 4 6)) = some u) := by kernel_rfl
theorem r15_47 (u : Value) : runK Try.prog T0 F3 2000 Try.f15 [li8 4, li8 7] [] [] (fun r _ => resW r = some u) = (some (Value.int .i8 (thenI 4 7)) = some u) := by kernel_rfl
theorem r14_47 (u : Value) : runK Try.prog T0 F3 500 Try.f14 [li8 4, li8 7] [] [] (fun r _ => resW r = some u) = (some (Value.int .i8 (thenI 4 7)) = some u) := by kernel_rfl
theorem r15_48 (u : Value) : runK Try.prog T0 F3 2000 Try.f15 [li8 4, li8 8] [] [] (fun r _ => resW r = some u) = (some (Value.int .i8 (thenI 4 8)) = some u) := by kernel_rfl
theorem r14_48 (u : Value) : runK Try.prog T0 F3 500 Try.f14 [li8 4, li8 8] [] [] (fun r _ => resW r = some u) = (some (Value.int .i8 (thenI 4 8)) = some u) := by kernel_rfl
end Go.Proofs.Ytcplpomnfnimbaa
