/-
  What is proved here: contract of length; the run of DctEnergy. A text to be imported.
-/
import Derived.Test.YtcfbhlpmhlmekaaDoorCon12
import Derived.Test.YtcfbhlpmhlmekaaDoorCon9
namespace Go.Proofs.YtcfbhlpmhlmekaaDoor
open Sm Go Go.RowKit
set_option maxRecDepth 1000000
set_option linter.unusedVariables false
/-- The sum of distances from 0. -/
def lenS (f : Nat → Nat) : Nat → Nat
  | 0 => 0
  | k + 1 => fbin .add .f64 (lenS f k) (awayF (f k))
def okLen (f : Nat → Nat) (k : Nat) : Prop := fok .add .f64 (lenS f k) (awayF (f k)) = true
def flC (f : Nat → Nat) : List C1 := (List.range 64).map fun j => .sc (.float .f64 (f j)) false
noncomputable def FA : Fns := Fns.none.add 17 GAway
theorem FAok : FnsOk Tryd.prog FA := FnsOk.none.add conAway
theorem run16 (f : Nat → Nat) (u : Value) : runK Tryd.prog T FA 3000 Tryd.f16 [.agg (flC f)] [] [] (fun r _ => resW r = some u) = obsP ((List.range 64).map (okLen f)) (some (Value.float .f64 (lenS f 64)) = some u) := by kernel_rfl
def GLen : List ArgV → Option (Prop × Value)
  | [.val (.agg a)] => fltsK .f64 a.toList fun xs => if xs.length = 64 then some ((∀ k, k < 64 → okLen (xs.getD · 0) k), .float .f64 (lenS (xs.getD · 0) 64)) else none
  | _ => none
theorem canonL (xs : List Nat) (h : xs.length = 64) : canon2 [] [.val (.agg (xs.map (Value.float .f64)).toArray)] 0 = some ([.agg (flC (xs.getD · 0))], []) := by
  conv => lhs; rw [list_of_nat xs 64 h]
  kernel_rfl
theorem conLen : ConP Tryd.prog 16 GLen := by
  refine conP_of_runW hm hT FAok Tryd.func16 Tryd.call16 fun avs p u h hp => ?_
  unfold GLen at h
  split at h
  · rename_i a
    obtain ⟨xs, ha, h2⟩ := fltsK_spec _ _ _ h
    clear h
    split at h2
    · rename_i hl
      simp only [Option.some.injEq, Prod.mk.injEq] at h2
      obtain ⟨rfl, rfl⟩ := h2
      have ha' : a = (xs.map (Value.float .f64)).toArray := by rw [← ha]
      subst ha'
      refine ⟨[], 3000, [], _, _, canonL xs hl, of_run (run16 _ _) (obsP_of _ _ (fun p hp1 => ?_) rfl)⟩
      simp only [List.mem_map, List.mem_range] at hp1
      obtain ⟨k, hk, rfl⟩ := hp1
      exact hp k hk
    · cases h2
  · cases h
noncomputable def F5 : Fns := (((((Fns.none.add 15 GAwake).add 17 GAway).addP 7 GReal).addP 8 GWaves).addP 16 GLen)
theorem F5ok : FnsOk Tryd.prog F5 := ((((FnsOk.none.add con17).add conAway).addP conReal).addP conWaves).addP conLen
def leW (x y : Nat) : Bool := FloatKind.f64.format.order x y == some .lt || FloatKind.f64.format.order x y == some .eq
def geW (x y : Nat) : Bool := FloatKind.f64.format.order x y == some .gt || FloatKind.f64.format.order x y == some .eq
def e6 : Nat := 4696837146684686336
def ne6 : Nat := 13920209183539462144
def clE (y : Nat) : Nat := bif !(bif leW y e6 then geW y ne6 else false) then 0 else y
def lstN (y : Nat → Nat) (i : Nat) : Nat := ((List.range 64).map y).getD i 0
theorem lstN_eq (s : Nat → Nat) (i : Nat) (h : i < 64) : lstN s i = s i := by simp [lstN, h]
/-- The sum of squares. -/
def sqS (f : Nat → Nat) : Nat → Nat
  | 0 => 0
  | k + 1 => fbin .add .f64 (sqS f k) (fbin .mul .f64 (f k) (f k))
def fa (a b : Nat) : Nat := fbin .add .f64 a b
def fm (a b : Nat) : Nat := fbin .mul .f64 a b
def w1 : Nat := 4607182418800017408
def w101 : Nat := 4472454890662775134
def offW (y : Nat → Nat) : Nat := fm w101 (fa w1 (lenS (lstN y) 64))
def okOff (y : Nat → Nat) : List Prop := [∀ k, k < 64 → okLen (lstN y) k, fok .add .f64 w1 (lenS (lstN y) 64) = true, fok .mul .f64 w101 (fa w1 (lenS (lstN y) 64)) = true]
def w17 : Nat := 4625478292286210048
def mostW (y s : Nat → Nat) : Nat := fa (offW s) (fm w17 (offW y))
def sF (y : Nat → Nat) : Nat → Nat := SR (lstN y) 64 0
def gF (y : Nat → Nat) : Nat → Nat := SV (lstN (sF y)) 64 0
def yF (f : Nat → Nat) (k : Nat) : Nat := clE (f k)
def obE1 (y : Nat → Nat) : List Prop := (List.range 64).flatMap fun k => [fok .mul .f64 (y k) (y k) = true, fok .add .f64 (sqS y k) (fm (y k) (y k)) = true]
def obE2 (y s : Nat → Nat) : List Prop := [∀ i, i < 64 → okR (lstN y) i, ∀ i, i < 64 → okWv (lstN s) i]
def obE3 (y s : Nat → Nat) : List Prop := okOff y ++ okOff s ++ [fok .mul .f64 w17 (offW y) = true, fok .add .f64 (offW s) (fm w17 (offW y)) = true]
def obE4 (y s g : Nat → Nat) : List Prop := (List.range 64).flatMap fun k => [fok .sub .f64 (g k) (y k) = true, (!(leW (awayF (fbin .sub .f64 (g k) (y k))) (mostW y s))) = false, fok .mul .f64 (s k) (s k) = true, fok .add .f64 (sqS s k) (fm (s k) (s k)) = true]
def w2 : Nat := 4611686018427387904
def w64f : Nat := 4634204016564240384
def w9 : Nat := 4472406533629990549
def bndE (y s : Nat → Nat) : Nat := fa (fm (offW y) (fa (fm w2 (lenS (lstN s) 64)) (fm w64f (offW y)))) (fm w9 (sqS y 64))
def obE5 (y s : Nat → Nat) : List Prop := [fok .sub .f64 (sqS s 64) (sqS y 64) = true, ∀ k, k < 64 → okLen (lstN s) k, fok .mul .f64 w2 (lenS (lstN s) 64) = true, fok .mul .f64 w64f (offW y) = true,
  fok .add .f64 (fm w2 (lenS (lstN s) 64)) (fm w64f (offW y)) = true, fok .mul .f64 (offW y) (fa (fm w2 (lenS (lstN s) 64)) (fm w64f (offW y))) = true, fok .mul .f64 w9 (sqS y 64) = true,
  fok .add .f64 (fm (offW y) (fa (fm w2 (lenS (lstN s) 64)) (fm w64f (offW y)))) (fm w9 (sqS y 64)) = true]
def resE (y s : Nat → Nat) : Bool := leW (awayF (fbin .sub .f64 (sqS s 64) (sqS y 64))) (bndE y s)
def sgE : List Sg := List.replicate 64 .m ++ List.replicate 64 (.b false)
theorem run5 (f : Nat → Nat) (u : Value) : runK Tryd.prog T F5 9000 Tryd.f5 [.agg (flC f)] [] sgE (fun r _ => resW r = some u) =
  obsP (obE1 (yF f) ++ obE2 (yF f) (sF (yF f)) ++ obE3 (yF f) (sF (yF f)) ++ obE4 (yF f) (sF (yF f)) (gF (yF f)) ++ obE5 (yF f) (sF (yF f))) (some (Value.bool (resE (yF f) (sF (yF f)))) = some u) := by kernel_rfl
end Go.Proofs.YtcfbhlpmhlmekaaDoor
