/-
  What is proved here: contracts of Last, of the reference's too, and of awake. A text to be imported.
-/
import Derived.Test.YtepmmicmipmanaaCon6
namespace Go.Proofs.Ytepmmicmipmanaa
open Sm Go Go.RowKit
set_option maxRecDepth 1000000
def lastU : Nat → (Nat → Int) → Int
  | 0, _ => -1
  | n + 1, b => bif b n != 0 then (n : Int) else lastU n b
def lastV (xs : List Int) : Option Value := if xs.length = 64 then some (.int .i64 (lastU 64 fun i => xs.getD i 0)) else none
def cellsD (b : Nat → Int) : List C1 := (List.range 64).map fun i => .sc (.int .i16 (b i)) false
theorem lastV_spec {xs : List Int} {u : Value} (h : lastV xs = some u) : ∃ b : Nat → Int, xs.map (Value.int .i16) = valsB b ∧ u = .int .i64 (lastU 64 b) := by
  unfold lastV at h
  split at h
  · rename_i hl
    simp only [Option.some.injEq] at h
    refine ⟨fun i => xs.getD i 0, ?_, h.symm⟩
    conv => lhs; rw [list_of_fn xs 64 hl]
    simp [valsB]
  · cases h
theorem canonD (b : Nat → Int) : canon false [.val (.agg (valsB b).toArray)] 0 = some ([.agg (cellsD b)], []) := by kernel_rfl
def GLastR : List ArgV → Option Value
  | [.val (.agg cs)] => ints16 cs.toList lastV
  | _ => none
def GLast : List ArgV → Option Value
  | [.val (.pointer none)] => some (.int .i64 (-1))
  | [.mem _ cs] => ints16 cs lastV
  | _ => none
def lastA (b : Nat → Int) : AV := .one (.sc (.int .i64 (lastU 64 b)) false)
theorem run23 (b : Nat → Int) : runK Try.prog T F5 3000 Try.f23 [.agg (cellsD b)] [] [] (fun r _ => r = some (lastA b)) = (some (lastA b) = some (lastA b)) := by kernel_rfl
theorem run20 (e : TypeId) (b : Nat → Int) : runK Try.prog T F5 3000 Try.f20 [.one (.ptr 0 0)] [{ cells := cellsD b, elem := e, live := true, ro := true }] [] (fun r _ => r = some (lastA b)) = (some (lastA b) = some (lastA b)) := by kernel_rfl
theorem run20n : runK Try.prog T F5 3000 Try.f20 [.one (.sc (.pointer none) true)] [] [] (fun r _ => r = some (li (-1))) = (some (li (-1)) = some (li (-1))) := by kernel_rfl
theorem con23 : Con Try.prog 23 GLastR := by
  refine con_of_run hm hT F5ok Try.func23 Try.call23 fun avs u h => ?_
  unfold GLastR at h
  split at h
  · rename_i cs
    obtain ⟨xs, hx, hv⟩ := ints16_spec _ _ _ h
    obtain ⟨b, hb, rfl⟩ := lastV_spec hv
    obtain rfl : cs = (valsB b).toArray := by apply Array.ext'; rw [hx, hb]
    exact ⟨false, 3000, [], lastA b, _, _, canonD b, rfl, of_run (run23 b) rfl⟩
  · cases h
theorem con20 : Con Try.prog 20 GLast := by
  refine con_of_run hm hT F5ok Try.func20 Try.call20 fun avs u h => ?_
  unfold GLast at h
  split at h
  · simp only [Option.some.injEq] at h; subst h
    exact ⟨true, 3000, [], _, _, _, rfl, rfl, of_run run20n rfl⟩
  · rename_i e cs
    obtain ⟨xs, hx, hv⟩ := ints16_spec _ _ _ h
    obtain ⟨b, hb, rfl⟩ := lastV_spec hv
    obtain rfl : cs = valsB b := by rw [hx, hb]
    exact ⟨false, 3000, [], lastA b, _, _, by kernel_rfl, rfl, of_run (run20 e b) rfl⟩
  · cases h
noncomputable def F7 : Fns := (F6.add 20 GLast).add 23 GLastR
theorem F7ok : FnsOk Try.prog F7 := (F6ok.add con20).add con23
def GAwake : List ArgV → Option Value
  | [] => some (.bool true)
  | _ => none
theorem run28 : runK Try.prog T F7 3000 Try.f28 [] [] [] (fun r _ => r = some (.one (.sc (.bool true) true))) = (some (AV.one (.sc (.bool true) true)) = some (.one (.sc (.bool true) true))) := by kernel_rfl
theorem con28 : Con Try.prog 28 GAwake := by
  refine con_of_run hm hT F7ok Try.func28 Try.call28 fun avs u h => ?_
  cases avs with
  | nil =>
    simp only [GAwake, Option.some.injEq] at h; subst h
    exact ⟨true, 3000, [], _, [], [], rfl, rfl, of_run run28 rfl⟩
  | cons a l => cases h
noncomputable def F8 : Fns := F7.add 28 GAwake
theorem F8ok : FnsOk Try.prog F8 := F7ok.add con28
end Go.Proofs.Ytepmmicmipmanaa
