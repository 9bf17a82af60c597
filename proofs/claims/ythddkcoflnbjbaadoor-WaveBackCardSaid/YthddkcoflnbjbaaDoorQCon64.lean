/-
  What is proved here: the whole runs of WaveForward. A text to be imported.
-/
import Derived.Test.YthddkcoflnbjbaaDoorQCon63
namespace Go.Proofs.YthddkcoflnbjbaaDoor
open Sm Go Go.RowKit Fl Ieee
set_option maxRecDepth 1000000
set_option linter.unusedVariables false
def okTF (n : Nat) (x : Nat → Nat × Nat) : Prop := okWt n x ∧ okSm n x (twP 1 n) ∧ (∃ p, p ≤ 12 ∧ n = 2 ^ p ∧ okTr 1 p (pC n x)) ∧ fok .add .f64 4607182418800017408 (smC x n) = true ∧ fok .mul .f64 4476910133257361045 (fbin .add .f64 4607182418800017408 (smC x n)) = true ∧ ∀ i, i < n → okN1 (zeF n x i) (rF n x i) (bW n x)
end Go.Proofs.YthddkcoflnbjbaaDoor
