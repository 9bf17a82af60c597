/-
  What is proved here: the reference's Then and the program's, one after another (5). A text to be imported.
-/
import Derived.Test.YtcplpomnfnimbaaCon1
namespace Go.Proofs.Ytcplpomnfnimbaa
open Sm Go Go.RowKit
set_option maxRecDepth 1000000
set_option linter.unusedSimpArgs false
set_option linter.unusedVariables false
theorem r15_51 (u : Value) : runK Try.prog T0 F3 2000 Try.f15 [li8 5, li8 1] [] [] (fun r _ => resW r = some u) = (some (Value.int .i8 (thenI 5 1)) = some u) := by kernel_rfl
theorem r14_51 (u : Value) : runK Try.prog T0 F3 500 Try.f14 [li8 5, li8 1] [] [] (fun r _ => resW r = some u) = (some (Value.int .i8 (thenI 5 1)) = some u) := by kernel_rfl
theorem r15_52 (u : Value) : runK Try.prog T0 F3 2000 Try.f15 [li8 5, li8 2] [] [] (fun r _ => resW r = some u) = (some (Value.int .i8 (thenI 5 2)) = some u) := by kernel_rfl
theorem r14_52 (u : Value) : runK Try.prog T0 F3 500 Try.f14 [li8 5, li8 2] [] [] (fun r _ => resW r = some u) = (some (Value.int .i8 (thenI 5 2)) = some u) := by kernel_rfl
theorem r15_53 (u : Value) : runK Try.prog T0 F3 2000 Try.f15 [li8 5, li8 3] [] [] (fun r _ => resW r = some u) = (some (Value.int .i8 (thenI 5 3)) = some u) := by kernel_rfl
theorem r14_53 (u : Value) : runK Try.prog T0 F3 500 Try.f14 [li8 5, li8 3] [] [] (fun r _ => resW r = some u) = (some (Value.int .i8 (thenI 5 3)) = some u) := by kernel_rfl
theorem r15_54 (u : Value) : runK Try.prog T0 F3 2000 Try.f15 [li8 5, li8 4] [] [] (fun r _ => resW r = some u) = (some (Value.int .i8 (thenI 5 4)) = some u) := by kernel_rfl
theorem r14_54 (u : Value) : runK Try.prog T0 F3 500 Try.f14 [li8 5, li8 4] [] [] (fun r _ => resW r = some u) = (some (Value.int .i8 (thenI 5 4)) = some u) := by kernel_rfl
theorem r15_55 (u : Value) : runK Try.prog T0 F3 2000 Try.f15 [li8 5, li8 5] [] [] (fun r _ => resW r = some u) = (some (Value.int .i8 (thenI 5 5)) = some u) := by kernel_rfl
theorem r14_55 (u : Value) : runK Try.prog T0 F3 500 Try.f14 [li8 5, li8 5] [] [] (fun r _ => resW r = some u) = (some (Value.int .i8 (thenI 5 5)) = some u) := by kernel_rfl
theorem r15_56 (u : Value) : runK Try.prog T0 F3 2000 Try.f15 [li8 5, li8 6] [] [] (fun r _ => resW r = some u) = (some (Value.int .i8 (thenI 5 6)) = some u) := by kernel_rfl
theorem r14_56 (u : Value) : runK Try.prog T0 F3 500 Try.f14 [li8 5, li8 6] [] [] (fun r _ => resW r = some u) = (some (Value.int .i8 (thenI 5 6)) = some u) := by kernel_rfl
theorem r15_57 (u : Value) : runK Try.prog T0 F3 2000 Try.f15 [li8 5, li8 7] [] [] (fun r _ => resW r = some u) = (some (Value.int .i8 (thenI 5 7)) = some u) := by kernel_rfl
theorem r14_57 (u : Value) : runK Try.prog T0 F3 500 Try.f14 [li8 5, li8 7] [] [] (fun r _ => resW r = some u) = (some (Value.int .i8 (thenI 5 7)) = some u) := by kernel_rfl
theorem r15_58 (u : Value) : runK Try.prog T0 F3 2000 Try.f15 [li8 5, li8 8] [] [] (fun r _ => resW r = some u) = (some (Value.int .i8 (thenI 5 8)) = some u) := by kernel_rfl
theorem r14_58 (u : Value) : runK Try.prog T0 F3 500 Try.f14 [li8 5, li8 8] [] [] (fun r _ => resW r = some u) = (some (Value.int .i8 (thenI 5 8)) = some u) := by kernel_rfl
end Go.Proofs.Ytcplpomnfnimbaa
