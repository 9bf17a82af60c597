/-
  What is proved here: contracts of away; of the loops of DctNear that make a real sample. A text to be imported.
-/
import Derived.Test.YtcfbhlpmhlmekaaDoorCon8
import Derived.Test.YtcfbhlpmhlmekaaDoorCon7
import Derived.Test.YtcfbhlpmhlmekaaDoorSimR
namespace Go.Proofs.YtcfbhlpmhlmekaaDoor
open Sm Go Go.RowKit
set_option maxRecDepth 1000000
set_option linter.unusedVariables false
def wv (u x : Int) : Nat := cosW.getD (8 * u + x).toNat 0
def GWaveP : List ArgV → Option (Prop × Value)
  | [.val (.int .i64 u), .val (.int .i64 x)] => some ((0 ≤ u ∧ u < 8 ∧ 0 ≤ x ∧ x < 8), .float .f64 (wv u x))
  | _ => none
theorem conPW {f : FuncId} (h : Con Tryd.prog f GWave) : ConP Tryd.prog f GWaveP := by
  refine ⟨h.1, fun avs p u hG hp => h.2 avs u ?_⟩
  unfold GWaveP at hG
  split at hG
  · simp only [Option.some.injEq, Prod.mk.injEq] at hG
    obtain ⟨rfl, rfl⟩ := hG
    exact if_pos hp
  · cases hG
def fneg (x : Nat) : Nat := Op.negFloat .f64 x
def flt (x y : Nat) : Bool := FloatKind.f64.format.order x y == some .lt
def AF (x : Nat) : AV := .one (.sc (.float .f64 x) false)
def awayF (x : Nat) : Nat := bif flt x 0 then fneg x else x
theorem runAway (x : Nat) (u : Value) : runK Tryd.prog T Fns.none 300 Tryd.f17 [AF x] [] [] (fun r _ => resW r = some u) =
    ((flt x 0 = true → some (Value.float .f64 (fneg x)) = some u) ∧ (flt x 0 = false → some (Value.float .f64 x) = some u)) := by kernel_rfl
def GAway : List ArgV → Option Value
  | [.val (.float .f64 x)] => some (.float .f64 (awayF x))
  | _ => none
theorem conAway : Con Tryd.prog 17 GAway := by
  refine con_of_runW hm hT FnsOk.none Tryd.func17 Tryd.call17 fun avs u h => ?_
  unfold GAway at h
  split at h
  · simp only [Option.some.injEq] at h; subst h
    exact ⟨[], 300, [], _, _, rfl, of_run (runAway _ _) ⟨(fun h => by rw [awayF, h]; rfl), (fun h => by rw [awayF, h]; rfl)⟩⟩
  · cases h
/-- The table for the loops. -/
noncomputable def FW : Fns := (Fns.none.addP 18 GWaveP).add 17 GAway
theorem FWok : FnsOk Tryd.prog FW := (FnsOk.none.addP (conPW conW18)).add conAway
noncomputable def LN3 : Code := pathC (bodyC Tryd.f6) [1, 0, 0]
noncomputable def LN4 : Code := pathC (bodyC Tryd.f6) [1, 0, 0, 0]
def bN (f : Nat → Int) : Blk := { body := syI .i32 64 f, elem := 33, live := true, ro := false }
def okV : AV := .one (.sc (.bool true) true)
def i2f (n : Int) : Nat := FloatKind.f64.nearest n
/-- A term of a real sample. -/
def wwN (y x v u : Int) : Nat := fbin .mul .f64 (wv u x) (wv v y)
def tN (f : Nat → Int) (y x v u : Int) : Nat := fbin .mul .f64 (wwN y x v u) (i2f (f (0 + (ix v u).toNat)))
def lN4 (p5 : AV) (y x : Int) (s : Nat) (v u : Int) : List (Nat × AV) := [(1, p00), (3, okV), (5, p5), (6, AI y), (7, AI x), (8, AF s), (9, AI v), (10, AI u)]
theorem rN4 (f : Nat → Int) (p5 : AV) (y x : Int) (s : Nat) (v u : Int) (r : List Blk) (X : Ex → Nat → List AV → List Blk → Prop) :
    roundK Tryd.prog T FW 3000 LN4 (tmL 74 (lN4 p5 y x s v u)) (bN f :: r) [.b true] [1, 3, 5, 6, 7, 8, 9, 10] X =
    (decide (u < 8) = true ∧ ((0 ≤ u ∧ u < 8 ∧ 0 ≤ x ∧ x < 8) ∧ ((0 ≤ v ∧ v < 8 ∧ 0 ≤ y ∧ y < 8) ∧ (fok .mul .f64 (wv u x) (wv v y) = true ∧ ((0 ≤ ix v u ∧ ix v u < ((64 : Nat) : Int)) ∧ (0 + (ix v u).toNat < 64 ∧
      (fok .mul .f64 (wwN y x v u) (i2f (f (0 + (ix v u).toNat))) = true ∧ (fok .add .f64 s (tN f y x v u) = true ∧
      X .normal 74 [p00, okV, p5, AI y, AI x, AF (fbin .add .f64 s (tN f y x v u)), AI v, AI (W (u + 1))] (bN f :: r))))))))) := by kernel_rfl
theorem eN4 (f : Nat → Int) (p5 : AV) (y x : Int) (s : Nat) (v u : Int) (r : List Blk) (X : Ex → Nat → List AV → List Blk → Prop) :
    roundK Tryd.prog T FW 3000 LN4 (tmL 74 (lN4 p5 y x s v u)) (bN f :: r) [.b false] [1, 3, 5, 6, 7, 8, 9] X =
    (decide (u < 8) = false ∧ X (.exit 8) 74 [p00, okV, p5, AI y, AI x, AF s, AI v] (bN f :: r)) := by kernel_rfl
end Go.Proofs.YtcfbhlpmhlmekaaDoor
