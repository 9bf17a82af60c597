/-
  What is proved here: the runs of math.Sincos, math.sin, math.cos, by the part of the circle. rounding to the nearest, of two the even one, never turns the order of two numbers round. A text to be imported.
-/
import Derived.Test.YthddkcoflnbjbaaDoorQCon1
import Derived.Test.YthddkcoflnbjbaaDoorQSimR
namespace Go.Proofs.YthddkcoflnbjbaaDoor
open Sm Go Go.RowKit
set_option maxRecDepth 1000000
set_option linter.unusedVariables false
def c4pi : Nat := 4608412980311869571
def kHalf : Nat := 4602678819172646912
def kOne : Nat := 4607182418800017408
def kThr : Nat := 4737786807993761792
def yA (h : Nat) : Nat := ([0, 4609753056584663040, 4614256656212033536, 4616991696486400000, 4618760255839404032] : List Nat).getD h 0
def yB (h : Nat) : Nat := ([0, 4500296887714185216, 4504800487341555712, 4507652717140770816, 4509304086968926208] : List Nat).getD h 0
def yC (h : Nat) : Nat := ([0, 4393339057712419184, 4397842657339789680, 4400638001803771156, 4402346256967160176] : List Nat).getD h 0
def zR (x h : Nat) : Nat := fbin .sub .f64 (fbin .sub .f64 (fbin .sub .f64 x (yA h)) (yB h)) (yC h)
def okR (x h : Nat) : List Prop := [fok .sub .f64 x (yA h) = true, fok .sub .f64 (fbin .sub .f64 x (yA h)) (yB h) = true, fok .sub .f64 (fbin .sub .f64 (fbin .sub .f64 x (yA h)) (yB h)) (yC h) = true]
def h0 (k : Nat → Nat) (q : Nat) : Nat := fbin .mul .f64 (k 0) q
def hN (k : Nat → Nat) (q : Nat) : Nat → Nat
  | 0 => fbin .add .f64 (h0 k q) (k 1)
  | n + 1 => fbin .add .f64 (fbin .mul .f64 (hN k q n) q) (k (n + 2))
def okN (k : Nat → Nat) (q : Nat) : Nat → List Prop
  | 0 => [fok .mul .f64 (k 0) q = true, fok .add .f64 (h0 k q) (k 1) = true]
  | n + 1 => okN k q n ++ [fok .mul .f64 (hN k q n) q = true, fok .add .f64 (fbin .mul .f64 (hN k q n) q) (k (n + 2)) = true]
def kC (i : Nat) : Nat := laidCos.getD i 0
def kS (i : Nat) : Nat := laidSin.getD i 0
def cosP (q : Nat) : Nat := fbin .add .f64 (fbin .sub .f64 kOne (fbin .mul .f64 kHalf q)) (fbin .mul .f64 (fbin .mul .f64 q q) (hN kC q 4))
def okC (q : Nat) : List Prop := [fok .mul .f64 kHalf q = true, fok .sub .f64 kOne (fbin .mul .f64 kHalf q) = true, fok .mul .f64 q q = true] ++ okN kC q 4 ++
  [fok .mul .f64 (fbin .mul .f64 q q) (hN kC q 4) = true, fok .add .f64 (fbin .sub .f64 kOne (fbin .mul .f64 kHalf q)) (fbin .mul .f64 (fbin .mul .f64 q q) (hN kC q 4)) = true]
def sinP (z q : Nat) : Nat := fbin .add .f64 z (fbin .mul .f64 (fbin .mul .f64 z q) (hN kS q 4))
def okS (z q : Nat) : List Prop := [fok .mul .f64 z q = true] ++ okN kS q 4 ++ [fok .mul .f64 (fbin .mul .f64 z q) (hN kS q 4) = true, fok .add .f64 z (fbin .mul .f64 (fbin .mul .f64 z q) (hN kS q 4)) = true]
def sq (z : Nat) : Nat := fbin .mul .f64 z z
def ng (x : Nat) : Nat := Op.negFloat .f64 x
def feq (x y : Nat) : Bool := FloatKind.f64.format.order x y == some .eq
def flt (x y : Nat) : Bool := FloatKind.f64.format.order x y == some .lt
def fge (x y : Nat) : Bool := FloatKind.f64.format.order x y == some .gt || FloatKind.f64.format.order x y == some .eq
def mul4 (x : Nat) : Nat := fbin .mul .f64 x c4pi
def mOf (x : Nat) : Int := f2i .f64 (mul4 x)
def okM (x : Nat) : List Prop := [fge x kThr = false, fok .mul .f64 x c4pi = true, f2iok .f64 (mul4 x) .u64 = true]
theorem runSC0 (x : Nat) (u : Value) : runK Tryd.prog T FM 900 Tryd.f33 [AF x] [] [.b false, .b false, .b false, .b false, .n 0] (fun r _ => resW r = some u) =
    obsP ([feq x 0 = false, (bif nanB x then true else infB x) = false, flt x 0 = false] ++ okM x ++ [(mOf x == 0) = true] ++ okR x 0 ++ [fok .mul .f64 (zR x 0) (zR x 0) = true] ++ okC (sq (zR x 0)) ++ okS (zR x 0) (sq (zR x 0))) (some (Value.tuple #[.float .f64 (sinP (zR x 0) (sq (zR x 0))), .float .f64 (cosP (sq (zR x 0)))]) = some u) := by kernel_rfl
theorem runS0 (x : Nat) (u : Value) : runK Tryd.prog T FM 900 Tryd.f57 [AF x] [] [.b false, .b false, .b false, .b false, .n 0] (fun r _ => resW r = some u) =
    obsP ([(bif feq x 0 then true else nanB x) = false, infB x = false, flt x 0 = false] ++ okM x ++ [(mOf x == 0) = true] ++ okR x 0 ++ [fok .mul .f64 (zR x 0) (zR x 0) = true] ++ okS (zR x 0) (sq (zR x 0))) (some (Value.float .f64 (sinP (zR x 0) (sq (zR x 0)))) = some u) := by kernel_rfl
theorem runC0 (x : Nat) (u : Value) : runK Tryd.prog T FM 900 Tryd.f55 [AF x] [] [.b false, .b false, .n 0] (fun r _ => resW r = some u) =
    obsP ([(bif nanB x then true else infB x) = false] ++ okM (absW x) ++ [(mOf (absW x) == 0) = true] ++ okR (absW x) 0 ++ [fok .mul .f64 (zR (absW x) 0) (zR (absW x) 0) = true] ++ okC (sq (zR (absW x) 0))) (some (Value.float .f64 (cosP (sq (zR (absW x) 0)))) = some u) := by kernel_rfl
theorem runSC1 (x : Nat) (u : Value) : runK Tryd.prog T FM 900 Tryd.f33 [AF x] [] [.b false, .b false, .b false, .b false, .n 1] (fun r _ => resW r = some u) =
    obsP ([feq x 0 = false, (bif nanB x then true else infB x) = false, flt x 0 = false] ++ okM x ++ [(mOf x == 1) = true] ++ okR x 1 ++ [fok .mul .f64 (zR x 1) (zR x 1) = true] ++ okC (sq (zR x 1)) ++ okS (zR x 1) (sq (zR x 1))) (some (Value.tuple #[.float .f64 (cosP (sq (zR x 1))), .float .f64 (ng (sinP (zR x 1) (sq (zR x 1))))]) = some u) := by kernel_rfl
theorem runS1 (x : Nat) (u : Value) : runK Tryd.prog T FM 900 Tryd.f57 [AF x] [] [.b false, .b false, .b false, .b false, .n 1] (fun r _ => resW r = some u) =
    obsP ([(bif feq x 0 then true else nanB x) = false, infB x = false, flt x 0 = false] ++ okM x ++ [(mOf x == 1) = true] ++ okR x 1 ++ [fok .mul .f64 (zR x 1) (zR x 1) = true] ++ okC (sq (zR x 1))) (some (Value.float .f64 (cosP (sq (zR x 1)))) = some u) := by kernel_rfl
theorem runC1 (x : Nat) (u : Value) : runK Tryd.prog T FM 900 Tryd.f55 [AF x] [] [.b false, .b false, .n 1] (fun r _ => resW r = some u) =
    obsP ([(bif nanB x then true else infB x) = false] ++ okM (absW x) ++ [(mOf (absW x) == 1) = true] ++ okR (absW x) 1 ++ [fok .mul .f64 (zR (absW x) 1) (zR (absW x) 1) = true] ++ okS (zR (absW x) 1) (sq (zR (absW x) 1))) (some (Value.float .f64 (ng (sinP (zR (absW x) 1) (sq (zR (absW x) 1))))) = some u) := by kernel_rfl
theorem runSC2 (x : Nat) (u : Value) : runK Tryd.prog T FM 900 Tryd.f33 [AF x] [] [.b false, .b false, .b false, .b false, .n 2] (fun r _ => resW r = some u) =
    obsP ([feq x 0 = false, (bif nanB x then true else infB x) = false, flt x 0 = false] ++ okM x ++ [(mOf x == 2) = true] ++ okR x 1 ++ [fok .mul .f64 (zR x 1) (zR x 1) = true] ++ okC (sq (zR x 1)) ++ okS (zR x 1) (sq (zR x 1))) (some (Value.tuple #[.float .f64 (cosP (sq (zR x 1))), .float .f64 (ng (sinP (zR x 1) (sq (zR x 1))))]) = some u) := by kernel_rfl
theorem runS2 (x : Nat) (u : Value) : runK Tryd.prog T FM 900 Tryd.f57 [AF x] [] [.b false, .b false, .b false, .b false, .n 2] (fun r _ => resW r = some u) =
    obsP ([(bif feq x 0 then true else nanB x) = false, infB x = false, flt x 0 = false] ++ okM x ++ [(mOf x == 2) = true] ++ okR x 1 ++ [fok .mul .f64 (zR x 1) (zR x 1) = true] ++ okC (sq (zR x 1))) (some (Value.float .f64 (cosP (sq (zR x 1)))) = some u) := by kernel_rfl
theorem runC2 (x : Nat) (u : Value) : runK Tryd.prog T FM 900 Tryd.f55 [AF x] [] [.b false, .b false, .n 2] (fun r _ => resW r = some u) =
    obsP ([(bif nanB x then true else infB x) = false] ++ okM (absW x) ++ [(mOf (absW x) == 2) = true] ++ okR (absW x) 1 ++ [fok .mul .f64 (zR (absW x) 1) (zR (absW x) 1) = true] ++ okS (zR (absW x) 1) (sq (zR (absW x) 1))) (some (Value.float .f64 (ng (sinP (zR (absW x) 1) (sq (zR (absW x) 1))))) = some u) := by kernel_rfl
theorem runSC3 (x : Nat) (u : Value) : runK Tryd.prog T FM 900 Tryd.f33 [AF x] [] [.b false, .b false, .b false, .b false, .n 3] (fun r _ => resW r = some u) =
    obsP ([feq x 0 = false, (bif nanB x then true else infB x) = false, flt x 0 = false] ++ okM x ++ [(mOf x == 3) = true] ++ okR x 2 ++ [fok .mul .f64 (zR x 2) (zR x 2) = true] ++ okC (sq (zR x 2)) ++ okS (zR x 2) (sq (zR x 2))) (some (Value.tuple #[.float .f64 (ng (sinP (zR x 2) (sq (zR x 2)))), .float .f64 (ng (cosP (sq (zR x 2))))]) = some u) := by kernel_rfl
theorem runS3 (x : Nat) (u : Value) : runK Tryd.prog T FM 900 Tryd.f57 [AF x] [] [.b false, .b false, .b false, .b false, .n 3] (fun r _ => resW r = some u) =
    obsP ([(bif feq x 0 then true else nanB x) = false, infB x = false, flt x 0 = false] ++ okM x ++ [(mOf x == 3) = true] ++ okR x 2 ++ [fok .mul .f64 (zR x 2) (zR x 2) = true] ++ okS (zR x 2) (sq (zR x 2))) (some (Value.float .f64 (ng (sinP (zR x 2) (sq (zR x 2))))) = some u) := by kernel_rfl
theorem runC3 (x : Nat) (u : Value) : runK Tryd.prog T FM 900 Tryd.f55 [AF x] [] [.b false, .b false, .n 3] (fun r _ => resW r = some u) =
    obsP ([(bif nanB x then true else infB x) = false] ++ okM (absW x) ++ [(mOf (absW x) == 3) = true] ++ okR (absW x) 2 ++ [fok .mul .f64 (zR (absW x) 2) (zR (absW x) 2) = true] ++ okC (sq (zR (absW x) 2))) (some (Value.float .f64 (ng (cosP (sq (zR (absW x) 2))))) = some u) := by kernel_rfl
theorem runSC4 (x : Nat) (u : Value) : runK Tryd.prog T FM 900 Tryd.f33 [AF x] [] [.b false, .b false, .b false, .b false, .n 4] (fun r _ => resW r = some u) =
    obsP ([feq x 0 = false, (bif nanB x then true else infB x) = false, flt x 0 = false] ++ okM x ++ [(mOf x == 4) = true] ++ okR x 2 ++ [fok .mul .f64 (zR x 2) (zR x 2) = true] ++ okC (sq (zR x 2)) ++ okS (zR x 2) (sq (zR x 2))) (some (Value.tuple #[.float .f64 (ng (sinP (zR x 2) (sq (zR x 2)))), .float .f64 (ng (cosP (sq (zR x 2))))]) = some u) := by kernel_rfl
theorem runS4 (x : Nat) (u : Value) : runK Tryd.prog T FM 900 Tryd.f57 [AF x] [] [.b false, .b false, .b false, .b false, .n 4] (fun r _ => resW r = some u) =
    obsP ([(bif feq x 0 then true else nanB x) = false, infB x = false, flt x 0 = false] ++ okM x ++ [(mOf x == 4) = true] ++ okR x 2 ++ [fok .mul .f64 (zR x 2) (zR x 2) = true] ++ okS (zR x 2) (sq (zR x 2))) (some (Value.float .f64 (ng (sinP (zR x 2) (sq (zR x 2))))) = some u) := by kernel_rfl
theorem runC4 (x : Nat) (u : Value) : runK Tryd.prog T FM 900 Tryd.f55 [AF x] [] [.b false, .b false, .n 4] (fun r _ => resW r = some u) =
    obsP ([(bif nanB x then true else infB x) = false] ++ okM (absW x) ++ [(mOf (absW x) == 4) = true] ++ okR (absW x) 2 ++ [fok .mul .f64 (zR (absW x) 2) (zR (absW x) 2) = true] ++ okC (sq (zR (absW x) 2))) (some (Value.float .f64 (ng (cosP (sq (zR (absW x) 2))))) = some u) := by kernel_rfl
theorem runSC5 (x : Nat) (u : Value) : runK Tryd.prog T FM 900 Tryd.f33 [AF x] [] [.b false, .b false, .b false, .b false, .n 5] (fun r _ => resW r = some u) =
    obsP ([feq x 0 = false, (bif nanB x then true else infB x) = false, flt x 0 = false] ++ okM x ++ [(mOf x == 5) = true] ++ okR x 3 ++ [fok .mul .f64 (zR x 3) (zR x 3) = true] ++ okC (sq (zR x 3)) ++ okS (zR x 3) (sq (zR x 3))) (some (Value.tuple #[.float .f64 (ng (cosP (sq (zR x 3)))), .float .f64 (sinP (zR x 3) (sq (zR x 3)))]) = some u) := by kernel_rfl
theorem runS5 (x : Nat) (u : Value) : runK Tryd.prog T FM 900 Tryd.f57 [AF x] [] [.b false, .b false, .b false, .b false, .n 5] (fun r _ => resW r = some u) =
    obsP ([(bif feq x 0 then true else nanB x) = false, infB x = false, flt x 0 = false] ++ okM x ++ [(mOf x == 5) = true] ++ okR x 3 ++ [fok .mul .f64 (zR x 3) (zR x 3) = true] ++ okC (sq (zR x 3))) (some (Value.float .f64 (ng (cosP (sq (zR x 3))))) = some u) := by kernel_rfl
theorem runC5 (x : Nat) (u : Value) : runK Tryd.prog T FM 900 Tryd.f55 [AF x] [] [.b false, .b false, .n 5] (fun r _ => resW r = some u) =
    obsP ([(bif nanB x then true else infB x) = false] ++ okM (absW x) ++ [(mOf (absW x) == 5) = true] ++ okR (absW x) 3 ++ [fok .mul .f64 (zR (absW x) 3) (zR (absW x) 3) = true] ++ okS (zR (absW x) 3) (sq (zR (absW x) 3))) (some (Value.float .f64 (sinP (zR (absW x) 3) (sq (zR (absW x) 3)))) = some u) := by kernel_rfl
theorem runSC6 (x : Nat) (u : Value) : runK Tryd.prog T FM 900 Tryd.f33 [AF x] [] [.b false, .b false, .b false, .b false, .n 6] (fun r _ => resW r = some u) =
    obsP ([feq x 0 = false, (bif nanB x then true else infB x) = false, flt x 0 = false] ++ okM x ++ [(mOf x == 6) = true] ++ okR x 3 ++ [fok .mul .f64 (zR x 3) (zR x 3) = true] ++ okC (sq (zR x 3)) ++ okS (zR x 3) (sq (zR x 3))) (some (Value.tuple #[.float .f64 (ng (cosP (sq (zR x 3)))), .float .f64 (sinP (zR x 3) (sq (zR x 3)))]) = some u) := by kernel_rfl
theorem runS6 (x : Nat) (u : Value) : runK Tryd.prog T FM 900 Tryd.f57 [AF x] [] [.b false, .b false, .b false, .b false, .n 6] (fun r _ => resW r = some u) =
    obsP ([(bif feq x 0 then true else nanB x) = false, infB x = false, flt x 0 = false] ++ okM x ++ [(mOf x == 6) = true] ++ okR x 3 ++ [fok .mul .f64 (zR x 3) (zR x 3) = true] ++ okC (sq (zR x 3))) (some (Value.float .f64 (ng (cosP (sq (zR x 3))))) = some u) := by kernel_rfl
theorem runC6 (x : Nat) (u : Value) : runK Tryd.prog T FM 900 Tryd.f55 [AF x] [] [.b false, .b false, .n 6] (fun r _ => resW r = some u) =
    obsP ([(bif nanB x then true else infB x) = false] ++ okM (absW x) ++ [(mOf (absW x) == 6) = true] ++ okR (absW x) 3 ++ [fok .mul .f64 (zR (absW x) 3) (zR (absW x) 3) = true] ++ okS (zR (absW x) 3) (sq (zR (absW x) 3))) (some (Value.float .f64 (sinP (zR (absW x) 3) (sq (zR (absW x) 3)))) = some u) := by kernel_rfl
theorem runSC7 (x : Nat) (u : Value) : runK Tryd.prog T FM 900 Tryd.f33 [AF x] [] [.b false, .b false, .b false, .b false, .n 7] (fun r _ => resW r = some u) =
    obsP ([feq x 0 = false, (bif nanB x then true else infB x) = false, flt x 0 = false] ++ okM x ++ [(mOf x == 7) = true] ++ okR x 4 ++ [fok .mul .f64 (zR x 4) (zR x 4) = true] ++ okC (sq (zR x 4)) ++ okS (zR x 4) (sq (zR x 4))) (some (Value.tuple #[.float .f64 (sinP (zR x 4) (sq (zR x 4))), .float .f64 (cosP (sq (zR x 4)))]) = some u) := by kernel_rfl
theorem runS7 (x : Nat) (u : Value) : runK Tryd.prog T FM 900 Tryd.f57 [AF x] [] [.b false, .b false, .b false, .b false, .n 7] (fun r _ => resW r = some u) =
    obsP ([(bif feq x 0 then true else nanB x) = false, infB x = false, flt x 0 = false] ++ okM x ++ [(mOf x == 7) = true] ++ okR x 4 ++ [fok .mul .f64 (zR x 4) (zR x 4) = true] ++ okS (zR x 4) (sq (zR x 4))) (some (Value.float .f64 (sinP (zR x 4) (sq (zR x 4)))) = some u) := by kernel_rfl
theorem runC7 (x : Nat) (u : Value) : runK Tryd.prog T FM 900 Tryd.f55 [AF x] [] [.b false, .b false, .n 7] (fun r _ => resW r = some u) =
    obsP ([(bif nanB x then true else infB x) = false] ++ okM (absW x) ++ [(mOf (absW x) == 7) = true] ++ okR (absW x) 4 ++ [fok .mul .f64 (zR (absW x) 4) (zR (absW x) 4) = true] ++ okC (sq (zR (absW x) 4))) (some (Value.float .f64 (cosP (sq (zR (absW x) 4)))) = some u) := by kernel_rfl
end Go.Proofs.YthddkcoflnbjbaaDoor
namespace Sm
open Go Go.RowKit Fl Ieee
def RnM (k : FloatKind) (r : Nat) (v : Rat) : Prop := ∃ s m p z, r = k.format.write (.number s m p) ∧ stands k.format m p z ∧ sg s * z = v
theorem quoM {k : FloatKind} {x y : Nat} (hx : fnum k x) (hy : fnum k y) (h0 : 0 < fv k x) (h1 : 0 < fv k y) : RnM k (fbin .quo k x y) (fv k x / fv k y) := by
  obtain ⟨s, m, i, hxr⟩ := hx
  obtain ⟨t, n, j, hyr⟩ := hy
  have vx : fv k x = sg s * m * pw i := by show vl _ _ = _; unfold vl; rw [hxr]; rfl
  have vy : fv k y = sg t * n * pw j := by show vl _ _ = _; unfold vl; rw [hyr]; rfl
  have pos : ∀ {s : Bool} {m : Nat} {i : Int}, 0 < sg s * (m : Rat) * pw i → m ≠ 0 ∧ s = false := fun {s m i} h => by
    have hp := pw_pos i
    constructor
    · rintro rfl; simp at h
    · cases s with
      | false => rfl
      | true =>
        exfalso
        have hm0 : (0 : Rat) ≤ (m : Rat) := by have := Rat.natCast_le_natCast.2 (Nat.zero_le m); simpa using this
        have := Rat.mul_nonneg hm0 (Rat.le_of_lt hp)
        simp only [sg, if_true] at h
        grind
  obtain ⟨hm, rfl⟩ := pos (by rw [← vx]; exact h0)
  obtain ⟨hn, rfl⟩ := pos (by rw [← vy]; exact h1)
  refine ⟨false, _, _, _, ?_, quot_stands k.format i j hm hn _ rfl, ?_⟩
  · unfold fbin floatBits? Format.div
    rw [hxr, hyr]
    simp only [Datum.quotient, if_neg hn, Option.map_some, Option.getD_some]
    rfl
  · rw [vx, vy]
    simp only [sg, Bool.false_eq_true, if_false, Rat.one_mul]
end Sm
