/-
  What is proved here: floats within a bound of one another.
-/
import Derived.Test.YthddkcoflnbjbaaDoorPLaw2
import Derived.Test.YthddkcoflnbjbaaDoorPSimZ
namespace Go.Proofs.YthddkcoflnbjbaaDoor
open Sm Go Go.RowKit Fl Ieee
set_option maxRecDepth 100000
set_option linter.unusedVariables false
theorem absW_eq (x : Nat) : absW x = x % 2 ^ 63 := abs_mod x
theorem absW_num {x : Nat} (h : fnum .f64 x) : fnum .f64 (absW x) ∧ 0 ≤ fv .f64 (absW x) ∧ ((fv .f64 (absW x) = fv .f64 x ∧ 0 ≤ fv .f64 x) ∨ (fv .f64 (absW x) = -fv .f64 x ∧ fv .f64 x ≤ 0)) := by
  rw [absW_eq]; exact abs_num h
theorem fle_iff {x y : Nat} (hx : fnum .f64 x) (hy : fnum .f64 y) : fle x y = true ↔ fv .f64 x ≤ fv .f64 y := le_iff hx hy
theorem within_ok {x y m : Nat} {u v d e B : Rat} (hx : Ap x u d) (hy : Ap y v e) (hm : fnum .f64 m) (c : Rat) (h1 : u - v + d + e ≤ c) (h2 : -c ≤ u - v - d - e) (hc : c < tp .f64) (h3 : c + dl c ≤ fv .f64 m) : fok .sub .f64 x y = true ∧ fle (absW (fbin .sub .f64 x y)) m = true := by
  obtain ⟨k, a⟩ := hx.sub hy c h1 h2 hc
  refine ⟨k, ?_⟩
  obtain ⟨n1, n2, n3⟩ := absW_num a.num
  have := hx.hi; have := hx.lo; have := hy.hi; have := hy.lo
  rw [fle_iff n1 hm]
  obtain ⟨_, r⟩ := fbin_sub hx.num hy.num (by grind) (by grind)
  have b := Ap.rnd r (c := c) (by grind) (by grind)
  have := b.hi; have := b.lo
  grind
end Go.Proofs.YthddkcoflnbjbaaDoor
