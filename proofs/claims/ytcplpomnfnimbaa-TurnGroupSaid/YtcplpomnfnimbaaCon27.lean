/-
  What is proved here: the reference's Then and the program's, one after another (7). A text to be imported.
-/
import Derived.Test.YtcplpomnfnimbaaCon1
namespace Go.Proofs.Ytcplpomnfnimbaa
open Sm Go Go.RowKit
set_option maxRecDepth 1000000
set_option linter.unusedSimpArgs false
set_option linter.unusedVariables false
theorem r15_71 (u : Value) : runK Try.prog T0 F3 2000 Try.f15 [li8 7, li8 1] [] [] (fun r _ => resW r = some u) = (some (Value.int .i8 (thenI 7 1)) = some u) := by kernel_rfl
theorem r14_71 (u : Value) : runK Try.prog T0 F3 500 Try.f14 [li8 7, li8 1] [] [] (fun r _ => resW r = some u) = (some (Value.int .i8 (thenI 7 1)) = some u) := by kernel_rfl
theorem r15_72 (u : Value) : runK Try.prog T0 F3 2000 Try.f15 [li8 7, li8 2] [] [] (fun r _ => resW r = some u) = (some (Value.int .i8 (thenI 7 2)) = some u) := by kernel_rfl
theorem r14_72 (u : Value) : runK Try.prog T0 F3 500 Try.f14 [li8 7, li8 2] [] [] (fun r _ => resW r = some u) = (some (Value.int .i8 (thenI 7 2)) = some u) := by kernel_rfl
theorem r15_73 (u : Value) : runK Try.prog T0 F3 2000 Try.f15 [li8 7, li8 3] [] [] (fun r _ => resW r = some u) = (some (Value.int .i8 (thenI 7 3)) = some u) := by kernel_rfl
theorem r14_73 (u : Value) : runK Try.prog T0 F3 500 Try.f14 [li8 7, li8 3] [] [] (fun r _ => resW r = some u) = (some (Value.int .i8 (thenI 7 3)) = some u) := by kernel_rfl
theorem r15_74 (u : Value) : runK Try.prog T0 F3 2000 Try.f15 [li8 7, li8 4] [] [] (fun r _ => resW r = some u) = (some (Value.int .i8 (thenI 7 4)) = some u) := by kernel_rfl
theorem r14_74 (u : Value) : runK Try.prog T0 F3 500 Try.f14 [li8 7, li8 4] [] [] (fun r _ => resW r = some u) = (some (Value.int .i8 (thenI 7 4)) = some u) := by kernel_rfl
theorem r15_75 (u : Value) : runK Try.prog T0 F3 2000 Try.f15 [li8 7, li8 5] [] [] (fun r _ => resW r = some u) = (some (Value.int .i8 (thenI 7 5)) = some u) := by kernel_rfl
theorem r14_75 (u : Value) : runK Try.prog T0 F3 500 Try.f14 [li8 7, li8 5] [] [] (fun r _ => resW r = some u) = (some (Value.int .i8 (thenI 7 5)) = some u) := by kernel_rfl
theorem r15_76 (u : Value) : runK Try.prog T0 F3 2000 Try.f15 [li8 7, li8 6] [] [] (fun r _ => resW r = some u) = (some (Value.int .i8 (thenI 7 6)) = some u) := by kernel_rfl
theorem r14_76 (u : Value) : runK Try.prog T0 F3 500 Try.f14 [li8 7, li8 6] [] [] (fun r _ => resW r = some u) = (some (Value.int .i8 (thenI 7 6)) = some u) := by kernel_rfl
theorem r15_77 (u : Value) : runK Try.prog T0 F3 2000 Try.f15 [li8 7, li8 7] [] [] (fun r _ => resW r = some u) = (some (Value.int .i8 (thenI 7 7)) = some u) := by kernel_rfl
theorem r14_77 (u : Value) : runK Try.prog T0 F3 500 Try.f14 [li8 7, li8 7] [] [] (fun r _ => resW r = some u) = (some (Value.int .i8 (thenI 7 7)) = some u) := by kernel_rfl
theorem r15_78 (u : Value) : runK Try.prog T0 F3 2000 Try.f15 [li8 7, li8 8] [] [] (fun r _ => resW r = some u) = (some (Value.int .i8 (thenI 7 8)) = some u) := by kernel_rfl
theorem r14_78 (u : Value) : runK Try.prog T0 F3 500 Try.f14 [li8 7, li8 8] [] [] (fun r _ => resW r = some u) = (some (Value.int .i8 (thenI 7 8)) = some u) := by kernel_rfl
end Go.Proofs.Ytcplpomnfnimbaa
