/-
  What is proved here: the law's own check of four numbers. A text to be imported.
-/
import Derived.Test.YthddkcoflnbjbaaDoorCon11
namespace Go.Proofs.YthddkcoflnbjbaaDoor
open Sm Go Go.RowKit Fl Ieee
set_option maxRecDepth 1000000
set_option linter.unusedVariables false
noncomputable def FD1 : Fns := FD0.addG 16 GFw
theorem FD1ok : FnsOk Tryd.prog FD1 := FD0ok.addG gcon16
def L4 : List C1 := [.sc (.complex .f64 4607182418800017408 0) true, .sc (.complex .f64 4611686018427387904 0) true, .sc (.complex .f64 4613937818241073152 0) true, .sc (.complex .f64 4616189618054758400 0) true]
def f4 (k : Nat) : List C1 := [normC (L4.getD k .em)]
def Y4 : Nat → Nat × Nat := trY 1 2 (ofC f4)
def cE7 : Nat := 4502148214488346440
def okW (x c : Nat) : Prop := fok .sub .f64 x c = true
def inW (x c : Nat) : Bool := fle (absW (fbin .sub .f64 x c)) cE7
def eqW (x c : Nat) : Bool := FloatKind.f64.format.order x c == some Ordering.eq
def v14 : Bool := bif (bif (bif (bif (bif ((4 : Int) == 4) then inW (Y4 0).1 4621819117588971520 else false) then inW (Y4 1).1 13835058055282163712 else false) then inW (Y4 1).2 4611686018427387904 else false) then inW (Y4 3).2 13835058055282163712 else false) then (eqW (turnP 1 4).1 0 && eqW (turnP 1 4).2 13830554455654793216) else false
theorem run14 (u : Value) : runK Tryd.prog T FD1 400 Tryd.f14 [] [] [] (fun r _ => resW r = some u) =
    (((True ∧ True) ∧ okP 1 4 4 f4) ∧ (0 ≤ (0 : Int) ∧ (0 : Int) < (4 : Nat)) ∧ 0 < 4 ∧ okW (Y4 0).1 4621819117588971520 ∧ (0 ≤ (1 : Int) ∧ (1 : Int) < (4 : Nat)) ∧ 1 < 4 ∧ okW (Y4 1).1 13835058055282163712 ∧
     (0 ≤ (1 : Int) ∧ (1 : Int) < (4 : Nat)) ∧ 1 < 4 ∧ okW (Y4 1).2 4611686018427387904 ∧ (0 ≤ (3 : Int) ∧ (3 : Int) < (4 : Nat)) ∧ 3 < 4 ∧ okW (Y4 3).2 13835058055282163712 ∧ some (Value.bool v14) = some u) := by kernel_rfl
instance (a b c d : Nat) : Decidable (cmOk a b c d) := by unfold cmOk; infer_instance
instance (t a b : Nat × Nat) : Decidable (okBf t a b) := by unfold okBf; infer_instance
instance (way : Int) (p : Nat) (X : Nat → Nat × Nat) : Decidable (okTr way p X) := by unfold okTr okSt okF okK; infer_instance
theorem ok4 : okTr 1 2 (ofC f4) := by decide +kernel
theorem f4_at : ∀ k, k < 4 → f4 k = fX (ofC f4) k
  | 0, _ => rfl
  | 1, _ => rfl
  | 2, _ => rfl
  | 3, _ => rfl
  | n + 4, h => by omega
theorem okP4 : okP 1 4 4 f4 := ⟨⟨2, by decide, rfl, ok4⟩, .inl rfl, Nat.le_refl _, f4_at⟩
theorem in4 : okW (Y4 0).1 4621819117588971520 ∧ okW (Y4 1).1 13835058055282163712 ∧ okW (Y4 1).2 4611686018427387904 ∧ okW (Y4 3).2 13835058055282163712 ∧ v14 = true := by
  unfold okW; decide +kernel
def GAlive : List ArgV → Option Value
  | [] => some (.bool true)
  | _ => none
theorem con14 : Con Tryd.prog 14 GAlive := by
  refine con_of_runW hm hT FD1ok Tryd.func14 Tryd.call14 fun avs u h => ?_
  unfold GAlive at h
  split at h
  · simp only [Option.some.injEq] at h; subst h
    obtain ⟨a1, a2, a3, a4, a5⟩ := in4
    exact ⟨[], 400, [], _, _, rfl, of_run (run14 _) ⟨⟨⟨trivial, trivial⟩, okP4⟩, by decide, by decide, a1, by decide, by decide, a2, by decide, by decide, a3, by decide, by decide, a4, by rw [a5]⟩⟩
  · cases h
end Go.Proofs.YthddkcoflnbjbaaDoor
