/-
  What is proved here: contracts of Natural, Zig, Flip and Swap, of the reference's too. A text to be imported.
-/
import Derived.Test.YtepmmicmipmanaaCon4
import Derived.Test.YtepmmicmipmanaaSimN
namespace Go.Proofs.Ytepmmicmipmanaa
open Sm Go Go.RowKit
set_option maxRecDepth 1000000
def ints16 : List Value → (List Int → Option Value) → Option Value
  | [], k => k []
  | .int .i16 n :: l, k => ints16 l fun xs => k (n :: xs)
  | _ :: _, _ => none
theorem ints16_spec : ∀ (cs : List Value) (k : List Int → Option Value) (u : Value), ints16 cs k = some u → ∃ xs : List Int, cs = xs.map (Value.int .i16) ∧ k xs = some u
  | [], k, u, h => ⟨[], rfl, h⟩
  | c :: l, k, u, h => by
    unfold ints16 at h
    split at h
    · cases ‹_ = []›
    · rename_i k' n l' e
      obtain ⟨rfl, rfl⟩ := List.cons.inj e
      obtain ⟨xs, rfl, hk⟩ := ints16_spec _ _ u h
      exact ⟨n :: xs, rfl, hk⟩
    · cases h
def vecV (p : List Nat) (xs : List Int) : Option Value := if xs.length = 64 then some (.agg (p.map fun i => .int .i16 (xs.getD i 0)).toArray) else none
def cellsB (b : Nat → Int) : List C1 := (List.range 64).map fun i => .sc (.int .i16 (b i)) true
def valsB (b : Nat → Int) : List Value := (List.range 64).map fun i => .int .i16 (b i)
def vecA (p : List Nat) (b : Nat → Int) : AV := .agg (p.map fun i => .sc (.int .i16 (b i)) true)
theorem vecV_spec {p : List Nat} {xs : List Int} {u : Value} (h : vecV p xs = some u) : ∃ b : Nat → Int, xs.map (Value.int .i16) = valsB b ∧ u = .agg (p.map fun i => .int .i16 (b i)).toArray := by
  unfold vecV at h
  split at h
  · rename_i hl
    simp only [Option.some.injEq] at h
    refine ⟨fun i => xs.getD i 0, ?_, h.symm⟩
    conv => lhs; rw [list_of_fn xs 64 hl]
    simp [valsB]
  · cases h
theorem canonB (b : Nat → Int) : canon true [.val (.agg (valsB b).toArray)] 0 = some ([.agg (cellsB b)], []) := by kernel_rfl
def GNat : List ArgV → Option Value
  | [.val (.agg cs)] => ints16 cs.toList (vecV posL)
  | _ => none
theorem run21 (b : Nat → Int) : runK Try.prog T F4 2000 Try.f21 [.agg (cellsB b)] [] [] (fun r _ => r = some (vecA posL b)) = (some (vecA posL b) = some (vecA posL b)) := by kernel_rfl
theorem con21 : Con Try.prog 21 GNat := by
  refine con_of_run hm hT F4ok Try.func21 Try.call21 fun avs u h => ?_
  unfold GNat at h
  split at h
  · rename_i cs
    obtain ⟨xs, hx, hv⟩ := ints16_spec _ _ _ h
    obtain ⟨b, hb, rfl⟩ := vecV_spec hv
    obtain rfl : cs = (valsB b).toArray := by apply Array.ext'; rw [hx, hb]
    exact ⟨true, 2000, [], vecA posL b, _, _, canonB b, by kernel_rfl, of_run (run21 b) rfl⟩
  · cases h
theorem run22 (b : Nat → Int) : runK Try.prog T F4 2000 Try.f22 [.agg (cellsB b)] [] [] (fun r _ => r = some (vecA posL b)) = (some (vecA posL b) = some (vecA posL b)) := by kernel_rfl
theorem con22 : Con Try.prog 22 GNat := by
  refine con_of_run hm hT F4ok Try.func22 Try.call22 fun avs u h => ?_
  unfold GNat at h
  split at h
  · rename_i cs
    obtain ⟨xs, hx, hv⟩ := ints16_spec _ _ _ h
    obtain ⟨b, hb, rfl⟩ := vecV_spec hv
    obtain rfl : cs = (valsB b).toArray := by apply Array.ext'; rw [hx, hb]
    exact ⟨true, 2000, [], vecA posL b, _, _, canonB b, by kernel_rfl, of_run (run22 b) rfl⟩
  · cases h
def GZig : List ArgV → Option Value
  | [.val (.pointer none)] => some (.agg (Array.replicate 64 (.int .i16 0)))
  | [.mem _ cs] => ints16 cs (vecV orderL)
  | _ => none
theorem run19 (e : TypeId) (b : Nat → Int) : runK Try.prog T F4 2000 Try.f19 [.one (.ptr 0 0)] [{ cells := cellsB b, elem := e, live := true, ro := true }] [] (fun r _ => r = some (vecA orderL b)) = (some (vecA orderL b) = some (vecA orderL b)) := by kernel_rfl
theorem run19n : runK Try.prog T F4 2000 Try.f19 [.one (.sc (.pointer none) true)] [] [] (fun r _ => r = some (.agg (List.replicate 64 (.sc (.int .i16 0) true)))) = (some (AV.agg (List.replicate 64 (.sc (.int .i16 0) true))) = some (.agg (List.replicate 64 (.sc (.int .i16 0) true)))) := by kernel_rfl
theorem con19 : Con Try.prog 19 GZig := by
  refine con_of_run hm hT F4ok Try.func19 Try.call19 fun avs u h => ?_
  unfold GZig at h
  split at h
  · simp only [Option.some.injEq] at h; subst h
    exact ⟨true, 2000, [], _, _, _, rfl, by kernel_rfl, of_run run19n rfl⟩
  · rename_i e cs
    obtain ⟨xs, hx, hv⟩ := ints16_spec _ _ _ h
    obtain ⟨b, hb, rfl⟩ := vecV_spec hv
    obtain rfl : cs = valsB b := by rw [hx, hb]
    exact ⟨true, 2000, [], vecA orderL b, _, _, by kernel_rfl, by kernel_rfl, of_run (run19 e b) rfl⟩
  · cases h
noncomputable def F5 : Fns := ((F4.add 21 GNat).add 22 GNat).add 19 GZig
theorem F5ok : FnsOk Try.prog F5 := ((F4ok.add con21).add con22).add con19
end Go.Proofs.Ytepmmicmipmanaa
