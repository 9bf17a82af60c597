/-
  What is proved here: the reference's Then and the program's, one after another (6). A text to be imported.
-/
import Derived.Test.YtcplpomnfnimbaaCon1
namespace Go.Proofs.Ytcplpomnfnimbaa
open Sm Go Go.RowKit
set_option maxRecDepth 1000000
set_option linter.unusedSimpArgs false
set_option linter.unusedVariables false
theorem r15_61 (u : Value) : runK Try.prog T0 F3 2000 Try.f15 [li8 6, li8 1] [] [] (fun r _ => resW r = some u) = (some (Value.int .i8 (thenI 6 1)) = some u) := by kernel_rfl
theorem r14_61 (u : Value) : runK Try.prog T0 F3 500 Try.f14 [li8 6, li8 1] [] [] (fun r _ => resW r = some u) = (some (Value.int .i8 (thenI 6 1)) = some u) := by kernel_rfl
theorem r15_62 (u : Value) : runK Try.prog T0 F3 2000 Try.f15 [li8 6, li8 2] [] [] (fun r _ => resW r = some u) = (some (Value.int .i8 (thenI 6 2)) = some u) := by kernel_rfl
theorem r14_62 (u : Value) : runK Try.prog T0 F3 500 Try.f14 [li8 6, li8 2] [] [] (fun r _ => resW r = some u) = (some (Value.int .i8 (thenI 6 2)) = some u) := by kernel_rfl
theorem r15_63 (u : Value) : runK Try.prog T0 F3 2000 Try.f15 [li8 6, li8 3] [] [] (fun r _ => resW r = some u) = (some (Value.int .i8 (thenI 6 3)) = some u) := by kernel_rfl
theorem r14_63 (u : Value) : runK Try.prog T0 F3 500 Try.f14 [li8 6, li8 3] [] [] (fun r _ => resW r = some u) = (some (Value.int .i8 (thenI 6 3)) = some u) := by kernel_rfl
theorem r15_64 (u : Value) : runK Try.prog T0 F3 2000 Try.f15 [li8 6, li8 4] [] [] (fun r _ => resW r = some u) = (some (Value.int .i8 (thenI 6 4)) = some u) := by kernel_rfl
theorem r14_64 (u : Value) : runK Try.prog T0 F3 500 Try.f14 [li8 6, li8 4] [] [] (fun r _ => resW r = some u) = (some (Value.int .i8 (thenI 6 4)) = some u) := by kernel_rfl
theorem r15_65 (u : Value) : runK Try.prog T0 F3 2000 Try.f15 [li8 6, li8 5] [] [] (fun r _ => resW r = some u) = (some (Value.int .i8 (thenI 6 5)) = some u) := by kernel_rfl
theorem r14_65 (u : Value) : runK Try.prog T0 F3 500 Try.f14 [li8 6, li8 5] [] [] (fun r _ => resW r = some u) = (some (Value.int .i8 (thenI 6 5)) = some u) := by kernel_rfl
theorem r15_66 (u : Value) : runK Try.prog T0 F3 2000 Try.f15 [li8 6, li8 6] [] [] (fun r _ => resW r = some u) = (some (Value.int .i8 (thenI 6 6)) = some u) := by kernel_rfl
theorem r14_66 (u : Value) : runK Try.prog T0 F3 500 Try.f14 [li8 6, li8 6] [] [] (fun r _ => resW r = some u) = (some (Value.int .i8 (thenI 6 6)) = some u) := by kernel_rfl
theorem r15_67 (u : Value) : runK Try.prog T0 F3 2000 Try.f15 [li8 6, li8 7] [] [] (fun r _ => resW r = some u) = (some (Value.int .i8 (thenI 6 7)) = some u) := by kernel_rfl
theorem r14_67 (u : Value) : runK Try.prog T0 F3 500 Try.f14 [li8 6, li8 7] [] [] (fun r _ => resW r = some u) = (some (Value.int .i8 (thenI 6 7)) = some u) := by kernel_rfl
theorem r15_68 (u : Value) : runK Try.prog T0 F3 2000 Try.f15 [li8 6, li8 8] [] [] (fun r _ => resW r = some u) = (some (Value.int .i8 (thenI 6 8)) = some u) := by kernel_rfl
theorem r14_68 (u : Value) : runK Try.prog T0 F3 500 Try.f14 [li8 6, li8 8] [] [] (fun r _ => resW r = some u) = (some (Value.int .i8 (thenI 6 8)) = some u) := by kernel_rfl
end Go.Proofs.Ytcplpomnfnimbaa
