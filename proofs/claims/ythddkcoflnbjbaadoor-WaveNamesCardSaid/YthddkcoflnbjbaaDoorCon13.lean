/-
  What is proved here: contracts of the transforms where lists may not be; the run of the law of names. A text to be imported.
-/
import Derived.Test.YthddkcoflnbjbaaDoorCon12
namespace Go.Proofs.YthddkcoflnbjbaaDoor
open Sm Go Go.RowKit Fl Ieee
set_option maxRecDepth 1000000
set_option linter.unusedVariables false
noncomputable def FN0 : Fns := FD0.addG 16 GFwN
theorem FN0ok : FnsOk Tryd.prog FN0 := FD0ok.addG gcon16n
theorem run21n (n N : Nat) (f : Nat → List C1) (K : Option AV → List Blk → Prop) : runK Tryd.prog T FD0 300 Tryd.f21 [.one (.lst n N 1 f)] [deadB] [.b true] K =
    ((!(fitB n)) = true ∧ K (some none2) [deadB]) := by kernel_rfl
theorem gcon21n : GCon Tryd.prog 21 GFwN := by
  refine gcon_of_run hm hT Tryd.func21 Tryd.call21 fun args p v b h hp => ?_
  unfold GFwN at h
  split at h
  · rename_i n N f
    simp only [Option.some.injEq, Prod.mk.injEq] at h
    obtain ⟨rfl, rfl, rfl⟩ := h
    refine ⟨.inl rfl, dead_free, FD0, FD0ok, 300, [.b true], [], ?_⟩
    refine of_run (run21n n N f _) ⟨by rw [hp]; rfl, _, rfl, ?_⟩
    exact nothing_left noFroz ⟨⟨rfl, scC_eq rfl, trivial⟩, ⟨rfl, scC_eq rfl, trivial⟩, trivial⟩
  · cases h
theorem run23n (K : Option AV → List Blk → Prop) : runK Tryd.prog T FN0 300 Tryd.f23 [.one (.sc (.slice none 0 0) false)] [deadB] [.b false] K =
    ((0 ≤ ((0 : Nat) : Int) ∧ ((0 : Nat) : Int) ≤ ((0 : Nat) : Int) ∧ (16 : Int) * ((0 : Nat) : Int) ≤ 281474976710656 ∧ ((0 : Nat) : Int) ≤ 9223372036854775807) ∧ decide ((0 : Int) < ((0 : Nat) : Int)) = false ∧
     (((((0 : Nat) : Int).toNat ≤ ((0 : Nat) : Int).toNat ∧ ∀ k : Nat, freeC ((fun x : Nat => C1.sc (Value.complex FloatKind.f64 0 0) true) k)) ∧ True) ∧ fitB (((0 : Nat) : Int).toNat : Int) = false) ∧
     K (some none2) [deadB, { zB 0 with live := false }, deadB]) := by kernel_rfl
def GPwN : List AV → Option (Prop × AV × Blk)
  | [.one (.sc (.slice none 0 0) false)] => some (True, none2, deadB)
  | _ => none
theorem gcon23n : GCon Tryd.prog 23 GPwN := by
  refine gcon_of_run hm hT Tryd.func23 Tryd.call23 fun args p v b h hp => ?_
  unfold GPwN at h
  split at h
  · simp only [Option.some.injEq, Prod.mk.injEq] at h
    obtain ⟨rfl, rfl, rfl⟩ := h
    refine ⟨.inl rfl, dead_free, FN0, FN0ok, 300, [.b false], [], ?_⟩
    refine of_run (run23n _) ⟨⟨by decide, by decide, by decide, by decide⟩, by decide, ⟨⟨⟨by decide, fun k => trivial⟩, trivial⟩, by decide +kernel⟩, _, rfl, ?_⟩
    exact nothing_left noFroz ⟨⟨rfl, scC_eq rfl, trivial⟩, ⟨rfl, scC_eq rfl, trivial⟩, trivial⟩
  · cases h
noncomputable def FN : Fns := ((FN0.addG 21 GFwN).addG 23 GPwN).add 14 GAlive
theorem FNok : FnsOk Tryd.prog FN := ((FN0ok.addG gcon21n).addG gcon23n).add con14
theorem run7 (u : Value) : runK Tryd.prog T FN 400 Tryd.f7 [] [] [] (fun r _ => resW r = some u) =
    ((0 ≤ (8192 : Int) ∧ (8192 : Int) ≤ 8192 ∧ (16 : Int) * 8192 ≤ 281474976710656 ∧ (8192 : Int) ≤ 9223372036854775807) ∧ ((True ∧ True) ∧ fitB (Int.toNat 8192 : Int) = false) ∧
     (0 ≤ (3 : Int) ∧ (3 : Int) ≤ 3 ∧ (16 : Int) * 3 ≤ 281474976710656 ∧ (3 : Int) ≤ 9223372036854775807) ∧ ((True ∧ True) ∧ fitB (Int.toNat 3 : Int) = false) ∧ ((True ∧ True) ∧ True) ∧
     some (Value.bool (eqW (turnP 1 0).1 0 && eqW (turnP 1 0).2 0)) = some u) := by kernel_rfl
theorem names_ok : (eqW (turnP 1 0).1 0 && eqW (turnP 1 0).2 0) = true := by decide +kernel
theorem con7 : Con Tryd.prog 7 GAlive := by
  refine con_of_runW hm hT FNok Tryd.func7 Tryd.call7 fun avs u h => ?_
  unfold GAlive at h
  split at h
  · simp only [Option.some.injEq] at h; subst h
    exact ⟨[], 400, [], _, _, rfl, of_run (run7 _) ⟨⟨by decide, by decide, by decide, by decide⟩, ⟨⟨trivial, trivial⟩, by decide +kernel⟩, ⟨by decide, by decide, by decide, by decide⟩, ⟨⟨trivial, trivial⟩, by decide +kernel⟩, ⟨⟨trivial, trivial⟩, trivial⟩, by rw [names_ok]⟩⟩
  · cases h
end Go.Proofs.YthddkcoflnbjbaaDoor
