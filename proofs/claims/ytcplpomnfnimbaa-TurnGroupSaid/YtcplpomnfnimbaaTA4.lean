/-
  What is proved here: the contract of recon.noughts on two tables. A text to be imported.
-/
import Derived.Test.YtcplpomnfnimbaaTA1
import Derived.Test.YtcplpomnfnimbaaCon3
namespace Go.Proofs.Ytcplpomnfnimbaa
open Sm Go Go.RowKit
set_option maxRecDepth 1000000
set_option linter.unusedVariables false
def isN (k : Int) : Value → Bool
  | .int .u16 n => n == k
  | _ => false
theorem isN_spec {k : Int} {v : Value} (h : isN k v = true) : v = .int .u16 k := by
  unfold isN at h
  split at h
  · rw [eq_of_beq h]
  · cases h
def allU (k : Int) (l : List Value) : Bool := l.all (isN k) && Nat.beq l.length 64
theorem allU_spec {k : Int} {a : Array Value} (h : allU k a.toList = true) : a = (List.replicate 64 (Value.int .u16 k)).toArray := by
  unfold allU at h
  rw [Bool.and_eq_true] at h
  have h1 := List.eq_replicate_of_mem fun v hv => isN_spec (List.all_eq_true.1 h.1 v hv)
  have h2 : a.toList.length = 64 := Nat.eq_of_beq_eq_true h.2
  rw [h2] at h1
  rw [← h1]
def G87 : List ArgV → Option Value
  | [.val (.agg a)] => bif allU 4 a.toList then some (.int .i64 0) else bif allU 0 a.toList then some (.int .i64 64) else none
  | _ => none
theorem run87a (u : Value) : runK Try.prog T Fns.none 300 Try.f87 [.agg (List.replicate 64 (.sc (.int .u16 4) false))] [] [] (fun r _ => resW r = some u) = (some (Value.int .i64 0) = some u) := by kernel_rfl
theorem run87b (u : Value) : runK Try.prog T Fns.none 300 Try.f87 [.agg (List.replicate 64 (.sc (.int .u16 0) false))] [] [] (fun r _ => resW r = some u) = (some (Value.int .i64 64) = some u) := by kernel_rfl
theorem con87 : Con Try.prog 87 G87 := by
  refine con_of_runW hm hT FnsOk.none Try.func87 Try.call87 fun avs u h => ?_
  unfold G87 at h
  split at h
  · rename_i a
    cases h4 : allU 4 a.toList with
    | true =>
      rw [h4] at h
      simp only [cond_true, Option.some.injEq] at h; subst h
      rw [allU_spec h4]
      exact ⟨[false], 300, [], [.agg (List.replicate 64 (.sc (.int .u16 4) false))], [], by kernel_rfl, of_run (run87a _) rfl⟩
    | false =>
      rw [h4] at h
      cases h0 : allU 0 a.toList with
      | true =>
        rw [h0] at h
        simp only [cond_true, cond_false, Option.some.injEq] at h; subst h
        rw [allU_spec h0]
        exact ⟨[false], 300, [], [.agg (List.replicate 64 (.sc (.int .u16 0) false))], [], by kernel_rfl, of_run (run87b _) rfl⟩
      | false => rw [h0] at h; cases h
  · cases h
def FC0 : Fns := ((Fns.none.add 71 GUp).add 14 GThen).add 87 G87
theorem FC0ok : FnsOk Try.prog FC0 := ((FnsOk.none.add con71).add con14).add con87
end Go.Proofs.Ytcplpomnfnimbaa
