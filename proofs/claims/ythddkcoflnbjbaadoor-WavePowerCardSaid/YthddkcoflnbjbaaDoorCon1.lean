/-
  What is proved here: contracts of math.Abs, IsNaN, IsInf, of within. A text to be imported.
-/
import Derived.Test.YthddkcoflnbjbaaDoorBase
import Derived.Test.YthddkcoflnbjbaaDoorSimX
import Derived.Test.YthddkcoflnbjbaaDoorSimY
namespace Go.Proofs.YthddkcoflnbjbaaDoor
open Sm Go Go.RowKit
set_option maxRecDepth 1000000
set_option linter.unusedVariables false
noncomputable def FM0 : Fns := ((Fns.none.addX 35 GBits).addX 34 GFrom).addX 36 GRoot
theorem FM0ok : FnsOk Tryd.prog FM0 := ((FnsOk.none.addX (ext_bits Tryd.func35 (by kernel_rfl) (by kernel_rfl) (by kernel_rfl) (by kernel_rfl))).addX (ext_from Tryd.func34 (by kernel_rfl) (by kernel_rfl) (by kernel_rfl) (by kernel_rfl))).addX (ext_root Tryd.func36 (by kernel_rfl) (by kernel_rfl) (by kernel_rfl) (by kernel_rfl))
def AF (x : Nat) : AV := .one (.sc (.float .f64 x) false)
/-- The word without its sign. -/
def absW (x : Nat) : Nat := (IntKind.u64.wrap ((BitVec.ofInt IntKind.u64.bits (x : Int) &&& ~~~BitVec.ofInt IntKind.u64.bits 9223372036854775808).toNat : Int)).toNat
def nanB (x : Nat) : Bool := FloatKind.f64.format.order x x != some .eq
def maxW : Nat := 9218868437227405311
def infB (x : Nat) : Bool := FloatKind.f64.format.order (absW x) maxW == some .gt
def fle (x y : Nat) : Bool := FloatKind.f64.format.order x y == some .lt || FloatKind.f64.format.order x y == some .eq
theorem run50 (x : Nat) (u : Value) : runK Tryd.prog T FM0 300 Tryd.f50 [AF x] [] [] (fun r _ => resW r = some u) = (some (Value.bool (nanB x)) = some u) := by kernel_rfl
def GNaN : List ArgV → Option Value
  | [.val (.float .f64 x)] => some (.bool (nanB x))
  | _ => none
theorem con50 : Con Tryd.prog 50 GNaN := by
  refine con_of_runW hm hT FM0ok Tryd.func50 Tryd.call50 fun avs u h => ?_
  unfold GNaN at h
  split at h
  · simp only [Option.some.injEq] at h; subst h
    exact ⟨[], 300, [], _, _, rfl, of_run (run50 _ _) rfl⟩
  · cases h
theorem run22 (x : Nat) (u : Value) : runK Tryd.prog T FM0 300 Tryd.f22 [AF x] [] [] (fun r _ => resW r = some u) = (some (Value.float .f64 (absW x)) = some u) := by kernel_rfl
def GAbs : List ArgV → Option Value
  | [.val (.float .f64 x)] => some (.float .f64 (absW x))
  | _ => none
theorem con22 : Con Tryd.prog 22 GAbs := by
  refine con_of_runW hm hT FM0ok Tryd.func22 Tryd.call22 fun avs u h => ?_
  unfold GAbs at h
  split at h
  · simp only [Option.some.injEq] at h; subst h
    exact ⟨[], 300, [], _, _, rfl, of_run (run22 _ _) rfl⟩
  · cases h
noncomputable def FM1 : Fns := (FM0.add 22 GAbs).add 50 GNaN
theorem FM1ok : FnsOk Tryd.prog FM1 := (FM0ok.add con22).add con50
theorem run51 (x : Nat) (u : Value) : runK Tryd.prog T FM1 300 Tryd.f51 [AF x, li 0] [] [] (fun r _ => resW r = some u) = (some (Value.bool (infB x)) = some u) := by kernel_rfl
def GInf : List ArgV → Option Value
  | [.val (.float .f64 x), .val (.int .i64 0)] => some (.bool (infB x))
  | _ => none
theorem con51 : Con Tryd.prog 51 GInf := by
  refine con_of_runW hm hT FM1ok Tryd.func51 Tryd.call51 fun avs u h => ?_
  unfold GInf at h
  split at h
  · simp only [Option.some.injEq] at h; subst h
    exact ⟨[false, true], 300, [], _, _, rfl, of_run (run51 _ _) rfl⟩
  · cases h
theorem run19 (x y m : Nat) (u : Value) : runK Tryd.prog T FM1 300 Tryd.f19 [AF x, AF y, AF m] [] [] (fun r _ => resW r = some u) = (fok .sub .f64 x y = true ∧ some (Value.bool (fle (absW (fbin .sub .f64 x y)) m)) = some u) := by kernel_rfl
def GWithin : List ArgV → Option (Prop × Value)
  | [.val (.float .f64 x), .val (.float .f64 y), .val (.float .f64 m)] => some (fok .sub .f64 x y = true, .bool (fle (absW (fbin .sub .f64 x y)) m))
  | _ => none
theorem con19 : ConP Tryd.prog 19 GWithin := by
  refine conP_of_runW hm hT FM1ok Tryd.func19 Tryd.call19 fun avs p u h hp => ?_
  unfold GWithin at h
  split at h
  · simp only [Option.some.injEq, Prod.mk.injEq] at h
    obtain ⟨rfl, rfl⟩ := h
    exact ⟨[], 300, [], _, _, rfl, of_run (run19 _ _ _ _) ⟨hp, rfl⟩⟩
  · cases h
/-- The table for the circular functions. -/
noncomputable def FM : Fns := (FM1.add 51 GInf).addP 19 GWithin
theorem FMok : FnsOk Tryd.prog FM := (FM1ok.add con51).addP con19
end Go.Proofs.YthddkcoflnbjbaaDoor
