/-
  What is proved here: the contract of zigzag.Flip on two blocks. A text to be imported.
-/
import Derived.Test.YtcplpomnfnimbaaTA4
namespace Go.Proofs.Ytcplpomnfnimbaa
open Sm Go Go.RowKit
set_option maxRecDepth 1000000
set_option linter.unusedVariables false
def eqI : List Value → List Int → Bool
  | .int .i16 x :: l, y :: m => (x == y) && eqI l m
  | [], [] => true
  | _, _ => false
theorem eqI_spec : ∀ {l : List Value} {m : List Int}, eqI l m = true → l = m.map (Value.int .i16)
  | [], [], _ => rfl
  | .int .i16 x :: l, y :: m, h => by
    simp only [eqI, Bool.and_eq_true] at h
    rw [eq_of_beq h.1, eqI_spec h.2]; rfl
def b123 : List Int := 1 :: 2 :: 3 :: List.replicate 61 0
def b456 : List Int := 4 :: 5 :: 6 :: List.replicate 61 0
def f123 : List Int := 1 :: -2 :: 3 :: List.replicate 61 0
def f456 : List Int := 4 :: -5 :: 6 :: List.replicate 61 0
def aI (m : List Int) : Value := .agg (m.map (Value.int .i16)).toArray
def cI (m : List Int) : AV := .agg (m.map fun x => .sc (.int .i16 x) false)
def FF0 : Fns := { Fns.none with co := fun _ => some [] }
theorem FF0ok : FnsOk Try.prog FF0 :=
  have h : FnsOk Try.prog Fns.none := FnsOk.none
  ⟨h.pr, h.pure, h.pre, h.ext, h.gen, h.gnp, h.cal, h.loops⟩
theorem run101a (u : Value) : runK Try.prog T FF0 300 Try.f101 [cI b123, .one (.sc (.bool false) true)] [] [] (fun r _ => resW r = some u) = (some (aI f123) = some u) := by kernel_rfl
theorem run101b (u : Value) : runK Try.prog T FF0 300 Try.f101 [cI b456, .one (.sc (.bool false) true)] [] [] (fun r _ => resW r = some u) = (some (aI f456) = some u) := by kernel_rfl
def G101 : List ArgV → Option Value
  | [.val (.agg a), .val (.bool false)] => bif eqI a.toList b123 then some (aI f123) else bif eqI a.toList b456 then some (aI f456) else none
  | _ => none
theorem con101 : Con Try.prog 101 G101 := by
  refine con_of_runW hm hT FF0ok Try.func101 Try.call101 fun avs u h => ?_
  unfold G101 at h
  split at h
  · rename_i a
    cases h4 : eqI a.toList b123 with
    | true =>
      rw [h4] at h
      simp only [cond_true, Option.some.injEq] at h; subst h
      have e : a = (b123.map (Value.int .i16)).toArray := by rw [← eqI_spec h4]
      rw [e]
      exact ⟨[false, true], 300, [], [cI b123, .one (.sc (.bool false) true)], [], by kernel_rfl, of_run (run101a _) rfl⟩
    | false =>
      rw [h4] at h
      cases h0 : eqI a.toList b456 with
      | true =>
        rw [h0] at h
        simp only [cond_true, cond_false, Option.some.injEq] at h; subst h
        have e : a = (b456.map (Value.int .i16)).toArray := by rw [← eqI_spec h0]
        rw [e]
        exact ⟨[false, true], 300, [], [cI b456, .one (.sc (.bool false) true)], [], by kernel_rfl, of_run (run101b _) rfl⟩
      | false => rw [h0] at h; cases h
  · cases h
def FD0 : Fns := FC0.add 101 G101
theorem FD0ok : FnsOk Try.prog FD0 := FC0ok.add con101
end Go.Proofs.Ytcplpomnfnimbaa
