/-
  What is proved here: contracts of Flip, Swap, of the reference's too, and of awake. A text to be imported.
-/
import Derived.Test.YtepmmicmipmanaaCon5
namespace Go.Proofs.Ytepmmicmipmanaa
open Sm Go Go.RowKit
set_option maxRecDepth 1000000
def flipN (d : Bool) (i : Nat) : Bool := if d then (orderL.getD i 0 / 8) % 2 == 1 else (orderL.getD i 0) % 2 == 1
def neg16 (n : Int) : Int := IntKind.wrap .i16 (0 - n)
def flipI (d : Bool) (i : Nat) (n : Int) : Int := match flipN d i with
  | true => neg16 n
  | false => n
def flipV (d : Bool) (xs : List Int) : Option Value := if xs.length = 64 then some (.agg ((List.range 64).map fun i => .int .i16 (flipI d i (xs.getD i 0))).toArray) else none
def flipA (d : Bool) (b : Nat → Int) : AV := .agg ((List.range 64).map fun i => .sc (.int .i16 (flipI d i (b i))) true)
theorem flipV_spec {d : Bool} {xs : List Int} {u : Value} (h : flipV d xs = some u) : ∃ b : Nat → Int, xs.map (Value.int .i16) = valsB b ∧ u = .agg ((List.range 64).map fun i => .int .i16 (flipI d i (b i))).toArray := by
  unfold flipV at h
  split at h
  · rename_i hl
    simp only [Option.some.injEq] at h
    refine ⟨fun i => xs.getD i 0, ?_, h.symm⟩
    conv => lhs; rw [list_of_fn xs 64 hl]
    simp [valsB]
  · cases h
def GFlip : List ArgV → Option Value
  | [.val (.agg cs), .val (.bool d)] => ints16 cs.toList (flipV d)
  | _ => none
theorem canonBd (b : Nat → Int) (d : Bool) : canon true [.val (.agg (valsB b).toArray), .val (.bool d)] 0 = some ([.agg (cellsB b), .one (.sc (.bool d) true)], []) := by kernel_rfl
def swL : List Nat := orderL.map fun i => posL.getD (i % 8 * 8 + i / 8) 0
theorem flipA_W (d : Bool) (b : Nat → Int) : (flipA d b).toW = some (.agg ((List.range 64).map fun i => .int .i16 (flipI d i (b i))).toArray) := by cases d <;> kernel_rfl
theorem run24_true (b : Nat → Int) : runK Try.prog T F5 3000 Try.f24 [.agg (cellsB b), .one (.sc (.bool true) true)] [] [] (fun r _ => r = some (flipA true b)) = (some (flipA true b) = some (flipA true b)) := by kernel_rfl
theorem run24_false (b : Nat → Int) : runK Try.prog T F5 3000 Try.f24 [.agg (cellsB b), .one (.sc (.bool false) true)] [] [] (fun r _ => r = some (flipA false b)) = (some (flipA false b) = some (flipA false b)) := by kernel_rfl
theorem con24 : Con Try.prog 24 GFlip := by
  refine con_of_run hm hT F5ok Try.func24 Try.call24 fun avs u h => ?_
  unfold GFlip at h
  split at h
  · rename_i cs d
    obtain ⟨xs, hx, hv⟩ := ints16_spec _ _ _ h
    obtain ⟨b, hb, rfl⟩ := flipV_spec hv
    obtain rfl : cs = (valsB b).toArray := by apply Array.ext'; rw [hx, hb]
    refine ⟨true, 3000, [], flipA d b, _, _, canonBd b d, flipA_W d b, ?_⟩
    cases d with
    | true => exact of_run (run24_true b) rfl
    | false => exact of_run (run24_false b) rfl
  · cases h
theorem run25_true (b : Nat → Int) : runK Try.prog T F5 3000 Try.f25 [.agg (cellsB b), .one (.sc (.bool true) true)] [] [] (fun r _ => r = some (flipA true b)) = (some (flipA true b) = some (flipA true b)) := by kernel_rfl
theorem run25_false (b : Nat → Int) : runK Try.prog T F5 3000 Try.f25 [.agg (cellsB b), .one (.sc (.bool false) true)] [] [] (fun r _ => r = some (flipA false b)) = (some (flipA false b) = some (flipA false b)) := by kernel_rfl
theorem con25 : Con Try.prog 25 GFlip := by
  refine con_of_run hm hT F5ok Try.func25 Try.call25 fun avs u h => ?_
  unfold GFlip at h
  split at h
  · rename_i cs d
    obtain ⟨xs, hx, hv⟩ := ints16_spec _ _ _ h
    obtain ⟨b, hb, rfl⟩ := flipV_spec hv
    obtain rfl : cs = (valsB b).toArray := by apply Array.ext'; rw [hx, hb]
    refine ⟨true, 3000, [], flipA d b, _, _, canonBd b d, flipA_W d b, ?_⟩
    cases d with
    | true => exact of_run (run25_true b) rfl
    | false => exact of_run (run25_false b) rfl
  · cases h
def GSwap : List ArgV → Option Value
  | [.val (.agg cs)] => ints16 cs.toList (vecV swL)
  | _ => none
theorem run26 (b : Nat → Int) : runK Try.prog T F5 3000 Try.f26 [.agg (cellsB b)] [] [] (fun r _ => r = some (vecA swL b)) = (some (vecA swL b) = some (vecA swL b)) := by kernel_rfl
theorem con26 : Con Try.prog 26 GSwap := by
  refine con_of_run hm hT F5ok Try.func26 Try.call26 fun avs u h => ?_
  unfold GSwap at h
  split at h
  · rename_i cs
    obtain ⟨xs, hx, hv⟩ := ints16_spec _ _ _ h
    obtain ⟨b, hb, rfl⟩ := vecV_spec hv
    obtain rfl : cs = (valsB b).toArray := by apply Array.ext'; rw [hx, hb]
    exact ⟨true, 3000, [], vecA swL b, _, _, canonB b, by kernel_rfl, of_run (run26 b) rfl⟩
  · cases h
theorem run27 (b : Nat → Int) : runK Try.prog T F5 3000 Try.f27 [.agg (cellsB b)] [] [] (fun r _ => r = some (vecA swL b)) = (some (vecA swL b) = some (vecA swL b)) := by kernel_rfl
theorem con27 : Con Try.prog 27 GSwap := by
  refine con_of_run hm hT F5ok Try.func27 Try.call27 fun avs u h => ?_
  unfold GSwap at h
  split at h
  · rename_i cs
    obtain ⟨xs, hx, hv⟩ := ints16_spec _ _ _ h
    obtain ⟨b, hb, rfl⟩ := vecV_spec hv
    obtain rfl : cs = (valsB b).toArray := by apply Array.ext'; rw [hx, hb]
    exact ⟨true, 3000, [], vecA swL b, _, _, canonB b, by kernel_rfl, of_run (run27 b) rfl⟩
  · cases h
noncomputable def F6 : Fns := (((F5.add 24 GFlip).add 25 GFlip).add 26 GSwap).add 27 GSwap
theorem F6ok : FnsOk Try.prog F6 := (((F5ok.add con24).add con25).add con26).add con27
end Go.Proofs.Ytepmmicmipmanaa
