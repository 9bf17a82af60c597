/-
  What is proved here: the weights of the program. A text to be imported.
-/
import Derived.Test.YtcfbhlpmhlmekaaDoorCon1
import Derived.Test.YtcfbhlpmhlmekaaDoorSimS
namespace Go.Proofs.YtcfbhlpmhlmekaaDoor
open Sm Go Go.RowKit
set_option maxRecDepth 1000000
set_option linter.unusedVariables false
theorem run19 (u : Value) : runK Tryd.prog T F1 3000 Tryd.f21 [] [] [] (fun r _ => resW r = some u) = (some (v64 .i64 fun i => wL.getD i 0) = some u) := by kernel_rfl
def GWeights : List ArgV → Option Value
  | [] => some (v64 .i64 fun i => wL.getD i 0)
  | _ => none
theorem con19 : Con Tryd.prog 21 GWeights := by
  refine con_of_runW hm hT F1ok Tryd.func21 Tryd.call21 fun avs u h => ?_
  cases avs with
  | nil =>
    simp only [GWeights, Option.some.injEq] at h; subst h
    exact ⟨[], 3000, [], [], [], rfl, of_run (run19 _) rfl⟩
  | cons a l => cases h
noncomputable def F2 : Fns := F1.add 21 GWeights
theorem F2ok : FnsOk Tryd.prog F2 := F1ok.add con19
def mx (x y : Int) : Int := if y > x then y else x
def mn (x y : Int) : Int := if y < x then y else x
def wF (j : Nat) : Int := wL.getD j 0
def sumW : Nat → (Nat → Int) → Int
  | 0, _ => 0
  | n + 1, g => W (sumW n g + W (g n))
theorem in8 {i : Int} (h1 : 0 ≤ i) (h2 : i < 8) : 0 ≤ i ∧ i < ((8 : Nat) : Int) := ⟨h1, h2⟩
end Go.Proofs.YtcfbhlpmhlmekaaDoor
