/-
  What is proved here: the walk of the law of levels. A text to be imported.
-/
import Derived.Test.YthddkcoflnbjbaaDoorCon16
namespace Go.Proofs.YthddkcoflnbjbaaDoor
open Sm Go Go.RowKit Fl Ieee
set_option maxRecDepth 1000000
set_option linter.unusedVariables false
def rtO (x : Nat) : Prop := (FloatKind.f64.format.sqrt x).isSome = true
theorem run25 (x : Nat) (u : Value) : runK Tryd.prog T FM 300 Tryd.f25 [AF x] [] [] (fun r _ => resW r = some u) = (rtO x ∧ some (Value.float .f64 (rootF x)) = some u) := by kernel_rfl
def GSqrt : List ArgV → Option (Prop × Value)
  | [.val (.float .f64 x)] => some (rtO x, .float .f64 (rootF x))
  | _ => none
theorem con25 : ConP Tryd.prog 25 GSqrt := by
  refine conP_of_runW hm hT FMok Tryd.func25 Tryd.call25 fun avs p u h hp => ?_
  unfold GSqrt at h
  split at h
  · simp only [Option.some.injEq, Prod.mk.injEq] at h
    obtain ⟨rfl, rfl⟩ := h
    exact ⟨[false], 300, [], _, _, rfl, of_run (run25 _ _) ⟨hp, rfl⟩⟩
  · cases h
noncomputable def FL : Fns := ((FD0.addP 25 GSqrt).addP 24 GCosn).add 14 GAlive
theorem FLok : FnsOk Tryd.prog FL := ((FD0ok.addP con25).addP con24).add con14
def bigW : Nat := 5953594944729471431
def w8 : Nat := 4620693217682128896
def w1e8 : Nat := 4487126258331716666
def w1e7 : Nat := 4502148214488346440
def cl (y : Nat) : Nat := bif !(fle (absW y) bigW) then 0 else y
def sA (x : Nat → Nat) : Nat → Nat
  | 0 => 0
  | k + 1 => fbin .add .f64 (sA x k) (absW (cl (x k)))
def sQ (y : Nat → Nat) : Nat → Nat
  | 0 => 0
  | k + 1 => fbin .add .f64 (sQ y k) (fbin .mul .f64 (y k) (y k))
def clx (x : Nat → Nat) (k : Nat) : Nat := cl (x k)
def vv (v : Nat) (k : Nat) : Nat := [cl v, cl v, cl v, cl v, cl v, cl v, cl v, cl v].getD k 0
def xx (x : Nat → Nat) (k : Nat) : Nat := [cl (x 0), cl (x 1), cl (x 2), cl (x 3), cl (x 4), cl (x 5), cl (x 6), cl (x 7)].getD k 0
def ok1 (x : Nat → Nat) (k : Nat) (r : Prop) : Prop := fok .add .f64 (sA x k) (absW (cl (x k))) = true ∧ fok .mul .f64 (cl (x k)) (cl (x k)) = true ∧ fok .add .f64 (sQ (clx x) k) (fbin .mul .f64 (cl (x k)) (cl (x k))) = true ∧ r
def m8 (v : Nat) : Nat := fbin .mul .f64 w8 (absW (cl v))
def m81 (v : Nat) : Nat := fbin .add .f64 kOne (m8 v)
def bnd (v : Nat) : Nat := fbin .mul .f64 w1e8 (m81 v)
def okB8 (v : Nat) (r : Prop) : Prop := fok .mul .f64 w8 (absW (cl v)) = true ∧ fok .add .f64 kOne (m8 v) = true ∧ fok .mul .f64 w1e8 (m81 v) = true ∧ r
def ok2 (v : Nat) (x : Nat → Nat) (k : Nat) (want : Nat) (r : Prop) : Prop := okB8 v (fok .sub .f64 (cosB (vv v) k) want = true ∧ (!fle (absW (fbin .sub .f64 (cosB (vv v) k) want)) (bnd v)) = false ∧
  fok .mul .f64 (cosB (xx x) k) (cosB (xx x) k) = true ∧ fok .add .f64 (sQ (cosB (xx x)) k) (fbin .mul .f64 (cosB (xx x) k) (cosB (xx x) k)) = true ∧ r)
def s1 (x : Nat → Nat) : Nat := fbin .add .f64 kOne (sA x 8)
def bnd2 (x : Nat → Nat) : Nat := fbin .mul .f64 (fbin .mul .f64 w1e7 (s1 x)) (s1 x)
def want0 (v : Nat) : Nat := fbin .mul .f64 (cl v) (rootF w8)
theorem run8 (v : Nat) (x : Nat → Nat) (u : Value) : runK Tryd.prog T FL 2000 Tryd.f8 [AF v, aF x] [] [.m, .m, .m, .m, .m, .m, .m, .m, .m, .b false, .b false, .b false, .b false, .b false, .b false, .b false, .b false] (fun r _ => resW r = some u) =
  ok1 x 0 (ok1 x 1 (ok1 x 2 (ok1 x 3 (ok1 x 4 (ok1 x 5 (ok1 x 6 (ok1 x 7 ( okCos (vv v) ∧ okCos (xx x) ∧ rtO w8 ∧ fok .mul .f64 (cl v) (rootF w8) = true ∧ ok2 v x 0 (want0 v) (ok2 v x 1 0 (ok2 v x 2 0 (ok2 v x 3 0 (ok2 v x 4 0 (ok2 v x 5 0 (ok2 v x 6 0 (ok2 v x 7 0 ( (fok .add .f64 kOne (sA x 8) = true ∧ fok .mul .f64 w1e7 (s1 x) = true ∧ fok .add .f64 kOne (sA x 8) = true ∧ fok .mul .f64 (fbin .mul .f64 w1e7 (s1 x)) (s1 x) = true ∧
   fok .sub .f64 (sQ (cosB (xx x)) 8) (sQ (clx x) 8) = true ∧ some (Value.bool (fle (absW (fbin .sub .f64 (sQ (cosB (xx x)) 8) (sQ (clx x) 8))) (bnd2 x))) = some u))))))))))))))))) := by kernel_rfl
end Go.Proofs.YthddkcoflnbjbaaDoor
