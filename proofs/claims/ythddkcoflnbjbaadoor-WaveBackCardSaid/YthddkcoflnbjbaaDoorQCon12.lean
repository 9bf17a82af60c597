/-
  What is proved here: contracts of wave.fits and wave.Forward. the contract of wave.Forward. the law's own check of four numbers. A text to be imported.
-/
import Derived.Test.YthddkcoflnbjbaaDoorQCon9
namespace Go.Proofs.YthddkcoflnbjbaaDoor
open Sm Go Go.RowKit Fl Ieee
set_option maxRecDepth 1000000
set_option linter.unusedVariables false
def andI (x m : Int) : Int := W (BitVec.ofInt IntKind.i64.bits x &&& BitVec.ofInt IntKind.i64.bits m).toNat
def fitB (n : Int) : Bool := bif (bif decide (n ≥ 1) then decide (n ≤ 4096) else false) then (andI n (W (n - 1)) == 0) else false
theorem run31 (n : Int) (u : Value) : runK Tryd.prog T FB 300 Tryd.f31 [iv n] [] [] (fun r _ => resW r = some u) = (some (Value.bool (fitB n)) = some u) := by kernel_rfl
def GFits : List ArgV → Option Value
  | [.val (.int .i64 n)] => some (.bool (fitB n))
  | _ => none
theorem con31 : Con Tryd.prog 31 GFits := by
  refine con_of_runW hm hT FBok Tryd.func31 Tryd.call31 fun avs u h => ?_
  unfold GFits at h
  split at h
  · simp only [Option.some.injEq] at h; subst h
    exact ⟨[false], 300, [], _, _, rfl, of_run (run31 _ _) rfl⟩
  · cases h
theorem fit_pow {p : Nat} (hp : p ≤ 12) : fitB ((2 ^ p : Nat) : Int) = true := by
  have : ∀ p : Nat, p ≤ 12 → fitB ((2 ^ p : Nat) : Int) = true := by decide +kernel
  exact this p hp
noncomputable def FD0 : Fns := (FB.add 31 GFits).addG 32 GTr
theorem FD0ok : FnsOk Tryd.prog FD0 := (FBok.add con31).addG gcon32
end Go.Proofs.YthddkcoflnbjbaaDoor
namespace Go.Proofs.YthddkcoflnbjbaaDoor
open Sm Go Go.RowKit Fl Ieee
set_option maxRecDepth 1000000
set_option linter.unusedVariables false
def okP (way : Int) (n N : Nat) (f : Nat → List C1) : Prop := (∃ p, p ≤ 12 ∧ n = 2 ^ p ∧ okTr way p (ofC f)) ∧ (way = 1 ∨ way = -1) ∧ n ≤ N ∧ ∀ k, k < n → f k = fX (ofC f) k
def two (i n : Nat) (e : Int) : AV := .tup [(false, [.sl i 0 n 1]), (false, [.sc (.int .i64 e) true])]
def none2 : AV := .tup [(false, [.sc (.slice none 0 0) true]), (false, [.sc (.int .i64 3) true])]
def GFw : List AV → Option (Prop × AV × Blk)
  | [.one (.lst n N 1 f)] => some (okP 1 n N f, two 0 n 0, bY n (trY 1 n.log2 (ofC f)))
  | _ => none
def GFwN : List AV → Option (Prop × AV × Blk)
  | [.one (.lst n N 1 f)] => some (fitB n = false, none2, deadB)
  | _ => none
end Go.Proofs.YthddkcoflnbjbaaDoor
namespace Go.Proofs.YthddkcoflnbjbaaDoor
open Sm Go Go.RowKit Fl Ieee
set_option maxRecDepth 1000000
set_option linter.unusedVariables false
instance (a b c d : Nat) : Decidable (cmOk a b c d) := by unfold cmOk; infer_instance
instance (t a b : Nat × Nat) : Decidable (okBf t a b) := by unfold okBf; infer_instance
instance (way : Int) (p : Nat) (X : Nat → Nat × Nat) : Decidable (okTr way p X) := by unfold okTr okSt okF okK; infer_instance
end Go.Proofs.YthddkcoflnbjbaaDoor
