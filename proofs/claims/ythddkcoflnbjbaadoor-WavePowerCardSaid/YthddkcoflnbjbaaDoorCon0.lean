/-
  What is proved here: the listed variables math._sin, math._cos hold what is listed; a world that meets the condition. A text to be imported.
-/
import Derived.Test.YthddkcoflnbjbaaDoorBase
import Derived.Test.YthddkcoflnbjbaaDoorSimX
namespace Go.Proofs.YthddkcoflnbjbaaDoor
open Sm Go Go.RowKit
def laidL : List (String × DataW Unit) := [("math._sin", Rows.laid_math_sin), ("math._cos", Rows.laid_math_cos), ("math.mPi4", Rows.laid_math_mPi4)]
theorem laidW {W : World} (h : laidMet Tryd.prog laidL W) : LaidW W.heap.size W := by
  have h1 := laid_floats (zs := laidSin) (g := 2) (t := 78) (e := 25) (n := 6) (by kernel_rfl) (by kernel_rfl) Tryd.underlying78 Tryd.underlying25 (by kernel_rfl) (by kernel_rfl) h
  have h2 := laid_floats (zs := laidCos) (g := 1) (t := 78) (e := 25) (n := 6) (by kernel_rfl) (by kernel_rfl) Tryd.underlying78 Tryd.underlying25 (by kernel_rfl) (by kernel_rfl) (laid_tail h)
  intro g vs hg
  unfold laidT at hg
  split at hg
  · simp only [Option.some.injEq] at hg; subst hg; exact h2
  · simp only [Option.some.injEq] at hg; subst hg; exact h1
  · cases hg
def mPi : List Int := [1, 5040379952546458195, 17892431488136887169, 13169980181085364355, 18204331823439776451, 7946843935494350272, 905889640498799673, 18175356263134875261, 15061281708168349961, 15220161563773041794, 8296664548579374057, 4109744767560208502, 4607516669194743839, 16023283104648321598, 15739233654134936430, 11424645774684705882, 16883842788696515318, 8795094592981902804, 15561835991111744016, 12395701187267450711]
def lay (vs : List Value) : Obj → Obj
  | .cells _ t frozen => .cells vs.toArray t frozen
  | o => o
/-- A world for the witness: the settled one, the listed variables laid. -/
noncomputable def laidWorld (os : Os) : World :=
  { World.holding Tryd.prog os ⟨#[], #[], []⟩ with heap := (((World.holding Tryd.prog os ⟨#[], #[], []⟩).heap.modify 2 (lay (laidSin.map (Value.float .f64)))).modify 1 (lay (laidCos.map (Value.float .f64)))).modify 3 (lay (mPi.map fun n => Value.int .u64 n)) }
end Go.Proofs.YthddkcoflnbjbaaDoor
