/-
  What is proved here: contracts of bits.Len and bits.Reverse64. A text to be imported.
-/
import Derived.Test.YthddkcoflnbjbaaDoorCon6
namespace Go.Proofs.YthddkcoflnbjbaaDoor
open Sm Go Go.RowKit Fl Ieee
set_option maxRecDepth 1000000
set_option linter.unusedVariables false
def uv (n : Int) : AV := .one (.sc (.int .u64 n) false)
def lu (n : Int) : AV := .one (.sc (.int .u64 n) true)
def mask (p : Nat) : Int := 2 ^ p - 1
def GLen : List ArgV → Option (Prop × Value)
  | [.val (.int .u64 x)] => some (∃ p : Nat, p ≤ 12 ∧ x = mask p, .int .i64 (if x = 0 then 0 else (x.toNat.log2 : Int) + 1))
  | _ => none
theorem runL0 : runK Tryd.prog T FT 300 Tryd.f60 [lu (mask 0)] [] [] (fun r _ => resW r = some (.int .i64 (0 : Nat))) = (some (Value.int .i64 (0 : Nat)) = some (Value.int .i64 (0 : Nat))) := by kernel_rfl
theorem runL1 : runK Tryd.prog T FT 300 Tryd.f60 [lu (mask 1)] [] [] (fun r _ => resW r = some (.int .i64 (1 : Nat))) = (some (Value.int .i64 (1 : Nat)) = some (Value.int .i64 (1 : Nat))) := by kernel_rfl
theorem runL2 : runK Tryd.prog T FT 300 Tryd.f60 [lu (mask 2)] [] [] (fun r _ => resW r = some (.int .i64 (2 : Nat))) = (some (Value.int .i64 (2 : Nat)) = some (Value.int .i64 (2 : Nat))) := by kernel_rfl
theorem runL3 : runK Tryd.prog T FT 300 Tryd.f60 [lu (mask 3)] [] [] (fun r _ => resW r = some (.int .i64 (3 : Nat))) = (some (Value.int .i64 (3 : Nat)) = some (Value.int .i64 (3 : Nat))) := by kernel_rfl
theorem runL4 : runK Tryd.prog T FT 300 Tryd.f60 [lu (mask 4)] [] [] (fun r _ => resW r = some (.int .i64 (4 : Nat))) = (some (Value.int .i64 (4 : Nat)) = some (Value.int .i64 (4 : Nat))) := by kernel_rfl
theorem runL5 : runK Tryd.prog T FT 300 Tryd.f60 [lu (mask 5)] [] [] (fun r _ => resW r = some (.int .i64 (5 : Nat))) = (some (Value.int .i64 (5 : Nat)) = some (Value.int .i64 (5 : Nat))) := by kernel_rfl
theorem runL6 : runK Tryd.prog T FT 300 Tryd.f60 [lu (mask 6)] [] [] (fun r _ => resW r = some (.int .i64 (6 : Nat))) = (some (Value.int .i64 (6 : Nat)) = some (Value.int .i64 (6 : Nat))) := by kernel_rfl
theorem runL7 : runK Tryd.prog T FT 300 Tryd.f60 [lu (mask 7)] [] [] (fun r _ => resW r = some (.int .i64 (7 : Nat))) = (some (Value.int .i64 (7 : Nat)) = some (Value.int .i64 (7 : Nat))) := by kernel_rfl
theorem runL8 : runK Tryd.prog T FT 300 Tryd.f60 [lu (mask 8)] [] [] (fun r _ => resW r = some (.int .i64 (8 : Nat))) = (some (Value.int .i64 (8 : Nat)) = some (Value.int .i64 (8 : Nat))) := by kernel_rfl
theorem runL9 : runK Tryd.prog T FT 300 Tryd.f60 [lu (mask 9)] [] [] (fun r _ => resW r = some (.int .i64 (9 : Nat))) = (some (Value.int .i64 (9 : Nat)) = some (Value.int .i64 (9 : Nat))) := by kernel_rfl
theorem runL10 : runK Tryd.prog T FT 300 Tryd.f60 [lu (mask 10)] [] [] (fun r _ => resW r = some (.int .i64 (10 : Nat))) = (some (Value.int .i64 (10 : Nat)) = some (Value.int .i64 (10 : Nat))) := by kernel_rfl
theorem runL11 : runK Tryd.prog T FT 300 Tryd.f60 [lu (mask 11)] [] [] (fun r _ => resW r = some (.int .i64 (11 : Nat))) = (some (Value.int .i64 (11 : Nat)) = some (Value.int .i64 (11 : Nat))) := by kernel_rfl
theorem runL12 : runK Tryd.prog T FT 300 Tryd.f60 [lu (mask 12)] [] [] (fun r _ => resW r = some (.int .i64 (12 : Nat))) = (some (Value.int .i64 (12 : Nat)) = some (Value.int .i64 (12 : Nat))) := by kernel_rfl
theorem runL (p : Nat) (hp : p ≤ 12) : runK Tryd.prog T FT 300 Tryd.f60 [lu (mask p)] [] [] (fun r _ => resW r = some (.int .i64 p)) = (some (Value.int .i64 p) = some (Value.int .i64 p)) := by
  match p, hp with
  | 0, _ => exact runL0
  | 1, _ => exact runL1
  | 2, _ => exact runL2
  | 3, _ => exact runL3
  | 4, _ => exact runL4
  | 5, _ => exact runL5
  | 6, _ => exact runL6
  | 7, _ => exact runL7
  | 8, _ => exact runL8
  | 9, _ => exact runL9
  | 10, _ => exact runL10
  | 11, _ => exact runL11
  | 12, _ => exact runL12
  | n + 13, h => omega
theorem mask_len (p : Nat) (hp : p ≤ 12) : (if mask p = 0 then 0 else ((mask p).toNat.log2 : Int) + 1) = p := by
  have : ∀ p, p ≤ 12 → (if mask p = 0 then 0 else ((mask p).toNat.log2 : Int) + 1) = p := by decide +kernel
  exact this p hp
theorem con60 : ConP Tryd.prog 60 GLen := by
  refine conP_of_runW hm hT FTok Tryd.func60 Tryd.call60 fun avs p u h hp => ?_
  unfold GLen at h
  split at h
  · simp only [Option.some.injEq, Prod.mk.injEq] at h
    obtain ⟨rfl, rfl⟩ := h
    obtain ⟨p, hp, rfl⟩ := hp
    rw [mask_len p hp]
    exact ⟨[true], 300, [], _, _, rfl, of_run (runL p hp) rfl⟩
  · cases h
noncomputable def FB0 : Fns := FT.addP 60 GLen
theorem FB0ok : FnsOk Tryd.prog FB0 := FTok.addP con60
theorem run48 (x : Int) (u : Value) : runK Tryd.prog T FB0 300 Tryd.f48 [uv x] [] [] (fun r _ => resW r = some u) = ((∃ p : Nat, p ≤ 12 ∧ x = mask p) ∧ some (Value.int .i64 (if x = 0 then 0 else (x.toNat.log2 : Int) + 1)) = some u) := by kernel_rfl
theorem con48 : ConP Tryd.prog 48 GLen := by
  refine conP_of_runW hm hT FB0ok Tryd.func48 Tryd.call48 fun avs p u h hp => ?_
  unfold GLen at h
  split at h
  · simp only [Option.some.injEq, Prod.mk.injEq] at h
    obtain ⟨rfl, rfl⟩ := h
    exact ⟨[false], 300, [], _, _, rfl, of_run (run48 _ _) ⟨hp, rfl⟩⟩
  · cases h
def U (x : Int) : Int := IntKind.u64.wrap x
def andU (x m : Int) : Int := U (BitVec.ofInt IntKind.u64.bits x &&& BitVec.ofInt IntKind.u64.bits m).toNat
def orU (x m : Int) : Int := U (BitVec.ofInt IntKind.u64.bits x ||| BitVec.ofInt IntKind.u64.bits m).toNat
def shrU (x : Int) (n : Nat) : Int := x.fdiv (2 ^ n)
def shlU (x : Int) (n : Nat) : Int := U (x * 2 ^ n)
def swp (m : Int) (n : Nat) (x : Int) : Int := orU (andU (shrU x n) m) (shlU (andU x m) n)
def rb64 (x : Int) : Int := let y := swp 281470681808895 16 (swp 71777214294589695 8 x); orU (shrU y 32) (shlU y 32)
def rv64 (x : Int) : Int := rb64 (swp 1085102592571150095 4 (swp 3689348814741910323 2 (swp 6148914691236517205 1 x)))
theorem run61 (x : Int) (u : Value) : runK Tryd.prog T FB0 300 Tryd.f61 [uv x] [] [] (fun r _ => resW r = some u) = (some (Value.int .u64 (rb64 x)) = some u) := by kernel_rfl
def GRb : List ArgV → Option Value
  | [.val (.int .u64 x)] => some (.int .u64 (rb64 x))
  | _ => none
theorem con61 : Con Tryd.prog 61 GRb := by
  refine con_of_runW hm hT FB0ok Tryd.func61 Tryd.call61 fun avs u h => ?_
  unfold GRb at h
  split at h
  · simp only [Option.some.injEq] at h; subst h
    exact ⟨[false], 300, [], _, _, rfl, of_run (run61 _ _) rfl⟩
  · cases h
noncomputable def FB1 : Fns := (FB0.addP 48 GLen).add 61 GRb
theorem FB1ok : FnsOk Tryd.prog FB1 := (FB0ok.addP con48).add con61
theorem run49 (x : Int) (u : Value) : runK Tryd.prog T FB1 300 Tryd.f49 [uv x] [] [] (fun r _ => resW r = some u) = (some (Value.int .u64 (rv64 x)) = some u) := by kernel_rfl
def GRv : List ArgV → Option Value
  | [.val (.int .u64 x)] => some (.int .u64 (rv64 x))
  | _ => none
theorem con49 : Con Tryd.prog 49 GRv := by
  refine con_of_runW hm hT FB1ok Tryd.func49 Tryd.call49 fun avs u h => ?_
  unfold GRv at h
  split at h
  · simp only [Option.some.injEq] at h; subst h
    exact ⟨[false], 300, [], _, _, rfl, of_run (run49 _ _) rfl⟩
  · cases h
noncomputable def FB : Fns := FB1.add 49 GRv
theorem FBok : FnsOk Tryd.prog FB := FB1ok.add con49
/-- The digits of a number of p digits, the other way round. -/
def rev : Nat → Nat → Nat
  | 0, _ => 0
  | p + 1, b => rev p (b / 2) + b % 2 * 2 ^ p
def rvp (p i : Nat) : Nat := (shrU (rv64 i) (min ((64 : Int) - p).toNat 64)).toNat
def rvAll (p : Nat) : Nat → Nat → Bool
  | 0, _ => true
  | m + 1, i => Nat.beq (rvp p i) (rev p i) && Nat.beq (rev p (rev p i)) i && Nat.blt (rev p i) (2 ^ p) && rvAll p m (i + 1)
theorem rv_all : ∀ p, p ≤ 12 → rvAll p (2 ^ p) 0 = true := by decide +kernel
end Go.Proofs.YthddkcoflnbjbaaDoor
