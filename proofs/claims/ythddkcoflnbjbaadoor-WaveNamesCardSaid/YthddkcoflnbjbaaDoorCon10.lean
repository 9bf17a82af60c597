/-
  What is proved here: contracts of wave.fits and wave.Forward. A text to be imported.
-/
import Derived.Test.YthddkcoflnbjbaaDoorCon9
namespace Go.Proofs.YthddkcoflnbjbaaDoor
open Sm Go Go.RowKit Fl Ieee
set_option maxRecDepth 1000000
set_option linter.unusedVariables false
def andI (x m : Int) : Int := W (BitVec.ofInt IntKind.i64.bits x &&& BitVec.ofInt IntKind.i64.bits m).toNat
def fitB (n : Int) : Bool := bif (bif decide (n ≥ 1) then decide (n ≤ 4096) else false) then (andI n (W (n - 1)) == 0) else false
theorem run31 (n : Int) (u : Value) : runK Tryd.prog T FB 300 Tryd.f31 [iv n] [] [] (fun r _ => resW r = some u) = (some (Value.bool (fitB n)) = some u) := by kernel_rfl
def GFits : List ArgV → Option Value
  | [.val (.int .i64 n)] => some (.bool (fitB n))
  | _ => none
theorem con31 : Con Tryd.prog 31 GFits := by
  refine con_of_runW hm hT FBok Tryd.func31 Tryd.call31 fun avs u h => ?_
  unfold GFits at h
  split at h
  · simp only [Option.some.injEq] at h; subst h
    exact ⟨[false], 300, [], _, _, rfl, of_run (run31 _ _) rfl⟩
  · cases h
theorem fit_pow {p : Nat} (hp : p ≤ 12) : fitB ((2 ^ p : Nat) : Int) = true := by
  have : ∀ p : Nat, p ≤ 12 → fitB ((2 ^ p : Nat) : Int) = true := by decide +kernel
  exact this p hp
noncomputable def FD0 : Fns := (FB.add 31 GFits).addG 32 GTr
theorem FD0ok : FnsOk Tryd.prog FD0 := (FBok.add con31).addG gcon32
end Go.Proofs.YthddkcoflnbjbaaDoor
