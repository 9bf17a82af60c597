import Derived.Test.YtcplpomnfnimbaaBase
import Derived.Test.YtcplpomnfnimbaaSimO
import Derived.Test.YtcplpomnfnimbaaSimW
import Derived.Test.YtcplpomnfnimbaaSimV
namespace Go.Proofs.Ytcplpomnfnimbaa
open Sm Go Go.RowKit
set_option maxRecDepth 1000000
set_option linter.unusedVariables false
theorem bool_ne {b : Bool} (h : ¬ b = true) : b = false := by cases b <;> simp_all
def up (a b : Int) : Int := IntKind.i64.wrap ((IntKind.i64.wrap (IntKind.i64.wrap (a + b) - 1)).tdiv b)
theorem run71 (a b : Int) (u : Value) : runK Try.prog T Fns.none 100 Try.f71 [.one (.sc (.int .i64 a) false), .one (.sc (.int .i64 b) false)] [] [] (fun r _ => resW r = some u) = ((b == 0) = false ∧ some (Value.int .i64 (up a b)) = some u) := by kernel_rfl
def GUp : List ArgV → Option Value
  | [.val (.int .i64 a), .val (.int .i64 b)] => bif b == 0 then none else some (.int .i64 (up a b))
  | _ => none
theorem con71 : Con Try.prog 71 GUp := by
  refine con_of_runW hm hT FnsOk.none Try.func71 Try.call71 fun avs u h => ?_
  unfold GUp at h
  split at h
  · rename_i a b
    cases hb : b == 0 with
    | true => rw [hb] at h; cases h
    | false =>
      rw [hb] at h
      simp only [cond_false, Option.some.injEq] at h; subst h
      exact ⟨[false, false], 100, [], _, _, rfl, of_run (run71 a b _) ⟨hb, rfl⟩⟩
  · cases h
def FA0 : Fns := Fns.none.add 71 GUp
def FA : Fns := { FA0 with co := fun f => match f with
  | 21 => some [.d 4]
  | _ => some [] }

noncomputable def sm (K : AV → List Blk → Prop) : Prop := runK Try.prog T FA 900 Try.f45 [] [deadB] [] (fun r hp => match r with | some v => K v hp | none => False)
def fr : AV → AV | .agg l => .agg (l.take 4) | a => a
def ai8 (x : Int) : AV := .one (.sc (.int .i8 x) true)
end Go.Proofs.Ytcplpomnfnimbaa
