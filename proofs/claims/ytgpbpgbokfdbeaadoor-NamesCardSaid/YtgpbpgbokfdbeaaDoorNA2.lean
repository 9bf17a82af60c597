/-
  What is proved here: contracts of Itoa and of an error's text, at the numbers asked. A text to be imported.
-/
import Derived.Test.YtgpbpgbokfdbeaaDoorNA1
namespace Go.Proofs.YtgpbpgbokfdbeaaDoor
open Sm Go Go.RowKit
set_option maxRecDepth 1000000
set_option linter.unusedVariables false
def sv (l : List UInt8) : Value := .string ⟨l.toArray⟩
def ai (x : Int) : AV := .one (.sc (.int .i64 x) true)
theorem run7_17 (u : Value) : runK Tryd.prog T FN 900 Tryd.f7 [ai 17] [] [] (fun r _ => resW r = some u) = (some (sv [49, 55]) = some u) := by kernel_rfl
theorem run7_152 (u : Value) : runK Tryd.prog T FN 900 Tryd.f7 [ai 152] [] [] (fun r _ => resW r = some u) = (some (sv [49, 53, 50]) = some u) := by kernel_rfl
theorem run7_41 (u : Value) : runK Tryd.prog T FN 900 Tryd.f7 [ai 41] [] [] (fun r _ => resW r = some u) = (some (sv [52, 49]) = some u) := by kernel_rfl
def G7 : List ArgV → Option Value
  | [.val (.int .i64 n)] => bif n == 17 then some (sv [49, 55]) else bif n == 152 then some (sv [49, 53, 50]) else bif n == 41 then some (sv [52, 49]) else none
  | _ => none
theorem con7 : Con Tryd.prog 7 G7 := by
  refine con_of_runW hm hT FNok Tryd.func7 Tryd.call7 fun avs u h => ?_
  unfold G7 at h
  split at h
  · rename_i n
    cases h1 : n == 17 with
    | true =>
      rw [h1] at h
      simp only [cond_true, Option.some.injEq] at h; subst h
      obtain rfl := eq_of_beq h1
      exact ⟨[true], 900, [], _, _, rfl, of_run (run7_17 _) rfl⟩
    | false =>
      rw [h1] at h
      cases h2 : n == 152 with
      | true =>
        rw [h2] at h
        simp only [cond_true, cond_false, Option.some.injEq] at h; subst h
        obtain rfl := eq_of_beq h2
        exact ⟨[true], 900, [], _, _, rfl, of_run (run7_152 _) rfl⟩
      | false =>
        rw [h2] at h
        cases h3 : n == 41 with
        | true =>
          rw [h3] at h
          simp only [cond_true, cond_false, Option.some.injEq] at h; subst h
          obtain rfl := eq_of_beq h3
          exact ⟨[true], 900, [], _, _, rfl, of_run (run7_41 _) rfl⟩
        | false => rw [h3] at h; cases h
  · cases h
def FN7 : Fns := Fns.none.add 7 G7
theorem FN7ok : FnsOk Tryd.prog FN7 := FnsOk.none.add con7
theorem run5_152 (u : Value) : runK Tryd.prog T FN7 900 Tryd.f5 [ai 152] [] [] (fun r _ => resW r = some u) = (some (sv [101, 114, 114, 111, 114, 32, 49, 53, 50]) = some u) := by kernel_rfl
theorem run5_41 (u : Value) : runK Tryd.prog T FN7 900 Tryd.f5 [ai 41] [] [] (fun r _ => resW r = some u) = (some (sv [101, 114, 114, 111, 114, 32, 52, 49]) = some u) := by kernel_rfl
def G5 : List ArgV → Option Value
  | [.val (.int .i64 n)] => bif n == 152 then some (sv [101, 114, 114, 111, 114, 32, 49, 53, 50]) else bif n == 41 then some (sv [101, 114, 114, 111, 114, 32, 52, 49]) else none
  | _ => none
theorem con5 : Con Tryd.prog 5 G5 := by
  refine con_of_runW hm hT FN7ok Tryd.func5 Tryd.call5 fun avs u h => ?_
  unfold G5 at h
  split at h
  · rename_i n
    cases h2 : n == 152 with
    | true =>
      rw [h2] at h
      simp only [cond_true, Option.some.injEq] at h; subst h
      obtain rfl := eq_of_beq h2
      exact ⟨[true], 900, [], _, _, rfl, of_run (run5_152 _) rfl⟩
    | false =>
      rw [h2] at h
      cases h3 : n == 41 with
      | true =>
        rw [h3] at h
        simp only [cond_true, cond_false, Option.some.injEq] at h; subst h
        obtain rfl := eq_of_beq h3
        exact ⟨[true], 900, [], _, _, rfl, of_run (run5_41 _) rfl⟩
      | false => rw [h3] at h; cases h
  · cases h
def FN5 : Fns := { FN7.add 5 G5 with co := fun _ => some [] }
theorem FN5ok : FnsOk Tryd.prog FN5 :=
  have h : FnsOk Tryd.prog (FN7.add 5 G5) := FN7ok.add con5
  ⟨h.pr, h.pure, h.pre, h.ext, h.gen, h.gnp, h.cal, h.loops⟩
theorem run3 (u : Value) : runK Tryd.prog T FN5 900 Tryd.f3 [] [] [] (fun r _ => resW r = some u) = (some (Value.bool true) = some u) := by kernel_rfl
end Go.Proofs.YtgpbpgbokfdbeaaDoor
