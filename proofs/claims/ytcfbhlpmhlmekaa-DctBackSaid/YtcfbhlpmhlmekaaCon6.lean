/-
  What is proved here: contracts of Flat, the program's and the reference's; the table for the laws. A text to be imported.
-/
import Derived.Test.YtcfbhlpmhlmekaaCon5
namespace Go.Proofs.Ytcfbhlpmhlmekaa
open Sm Go Go.RowKit
set_option maxRecDepth 1000000
/-- The numbers as a list hands them on. -/
def lst (s : Nat → Int) (i : Nat) : Int := ((List.range 64).map s).getD i 0
theorem lst_eq (s : Nat → Int) (i : Nat) (h : i < 64) : lst s i = s i := by simp [lst, h]
def onlyD (d : Int) (i : Nat) : Int := (d :: List.replicate 63 0).getD i 0
noncomputable def FE0 : Fns := (((F2.add 11 GP_11).add 13 GP_13).add 12 GR_12).add 14 GR_14
theorem FE0ok : FnsOk Try.prog FE0 := (((F2ok.add conP_11).add conP_13).add con12).add con14
def flatV (d : Int) : Int := IntKind.u8.wrap (mn (mx (W (settledI (W (W (weightI 0 0 * weightI 0 0) * W (mn (mx d (-32767)) 32767))) + 128)) 0) 255)
theorem run15 (d : Int) (u : Value) : runK Try.prog T F1 300 Try.f15 [.one (.sc (.int .i32 d) false)] [] [] (fun r _ => resW r = some u) = (some (Value.int .u8 (flatV d)) = some u) := by kernel_rfl
def GFlat : List ArgV → Option Value
  | [.val (.int .i32 d)] => some (.int .u8 (flatV d))
  | _ => none
theorem con15 : Con Try.prog 15 GFlat := by
  refine con_of_runW hm hT F1ok Try.func15 Try.call15 fun avs u h => ?_
  unfold GFlat at h
  split at h
  · simp only [Option.some.injEq] at h; subst h
    exact ⟨[], 300, [], _, _, rfl, of_run (run15 _ _) rfl⟩
  · cases h
theorem run16 (d : Int) (u : Value) : runK Try.prog T FE0 300 Try.f16 [.one (.sc (.int .i32 d) false)] [] [] (fun r _ => resW r = some u) = (some (Value.int .u8 (res_14 (onlyD d) 0)) = some u) := by kernel_rfl
def GFlatR : List ArgV → Option Value
  | [.val (.int .i32 d)] => some (.int .u8 (res_14 (onlyD d) 0))
  | _ => none
theorem con16 : Con Try.prog 16 GFlatR := by
  refine con_of_runW hm hT FE0ok Try.func16 Try.call16 fun avs u h => ?_
  unfold GFlatR at h
  split at h
  · simp only [Option.some.injEq] at h; subst h
    exact ⟨[], 300, [], _, _, rfl, of_run (run16 _ _) rfl⟩
  · cases h
noncomputable def FE : Fns := (FE0.add 15 GFlat).add 16 GFlatR
theorem FEok : FnsOk Try.prog FE := (FE0ok.add con15).add con16
end Go.Proofs.Ytcfbhlpmhlmekaa
