/-
  What is proved here: contracts of Table, of the program and of the reference. A text to be imported.
-/
import Derived.Test.YteikdpagoojdlaaCon8
import Derived.Test.YteikdpagoojdlaaSimS
namespace Go.Proofs.Yteikdpagoojdlaa
open Sm Go Go.RowKit
set_option maxRecDepth 1000000
set_option linter.unusedSimpArgs false
set_option linter.unusedVariables false
abbrev c1 : Nat := 4607182418800017408
abbrev c2 : Nat := 4611686018427387904
abbrev c50 : Nat := 4632233691727265792
abbrev c100 : Nat := 4636737291354636288
abbrev c200 : Nat := 4641240890982006784
abbrev c255 : Nat := 4643176031446892544
abbrev c5000 : Nat := 4662219572839972864
abbrev od (x y : Nat) : Option Ordering := FloatKind.f64.format.order x y
def geF (x y : Nat) : Bool := od x y == some .gt || od x y == some .eq
def leF (x y : Nat) : Bool := od x y == some .lt || od x y == some .eq
def inQ (q : Nat) : Bool := bif geF q c1 then leF q c100 else false
def ltQ (q : Nat) : Bool := od q c50 == some .lt
def q2 (q : Nat) : Nat := fbin .mul .f64 c2 q
def dn (q : Nat) : Nat := fbin .sub .f64 c200 (q2 q)
def up (q : Nat) : Nat := fbin .quo .f64 c5000 q
def scQ (q : Nat) : Nat := bif ltQ q then up q else dn q
def uvK (k : Nat) : Nat := ord k / 8 + ord k % 8
def baseK (c : Bool) (k : Nat) : Int := bif c then (9 + 5 * uvK k : Nat) else (8 + 3 * uvK k : Nat)
def mulK (q : Nat) (c : Bool) (k : Nat) : Nat := fbin .mul .f64 (FloatKind.f64.nearest (baseK c k)) (scQ q)
def addK (q : Nat) (c : Bool) (k : Nat) : Nat := fbin .add .f64 (mulK q c k) c50
def xK (q : Nat) (c : Bool) (k : Nat) : Nat := fbin .quo .f64 (addK q c k) c100
def flo (x : Nat) : Nat := wholeF .down x
def mxF (x : Nat) : Nat := fmax .f64 (flo x) c1
def mnF (x : Nat) : Nat := fmin .f64 (mxF x) c255
def stF (x : Nat) : Int := f2i .f64 (mnF x)
def xAsk (q : Nat) (c : Bool) (k : Nat) (r : Prop) : Prop :=
  fok .mul .f64 (FloatKind.f64.nearest (baseK c k)) (scQ q) = true ∧ (fok .add .f64 (mulK q c k) c50 = true ∧ (fok .quo .f64 (addK q c k) c100 = true ∧ r))
def pAsk (x : Nat) (r : Prop) : Prop := numF x = true ∧ (ford .f64 (flo x) c1 = true ∧ (ford .f64 (mxF x) c255 = true ∧ (f2iok .f64 (mnF x) .u16 = true ∧ r)))
def pAsks (q : Nat) (c : Bool) : Nat → Nat → Prop → Prop
  | 0, _, r => r
  | n + 1, k, r => xAsk q c k (pAsk (xK q c k) (pAsks q c n (k + 1) r))
def hAsk (q : Nat) (r : Prop) : Prop := inQ q = true ∧ (fok .mul .f64 c2 q = true ∧ (fok .sub .f64 c200 (q2 q) = true ∧ (fok .quo .f64 c5000 q = true ∧ r)))
def tabP (q : Nat) (c : Bool) (k : Nat) : Int := stF (xK q c k)
noncomputable def FL : Fns := FD.addP 35 GFloor
theorem FLok : FnsOk Try.prog FL := FDok.addP con35
def fx (q : Nat) : AV := .one (.sc (.float .f64 q) false)
def bx (c : Bool) : AV := .one (.sc (.bool c) true)
theorem bad20 (q : Nat) (c : Bool) (u : Value) : runK Try.prog T FL 9000 Try.f20 [fx q, .one (.sc (.bool c) false)] [] [.b true] (fun r _ => resW r = some u) = ((!inQ q) = true ∧ (some (Value.tuple #[vU16 (fun _ => 0), .int .i64 81]) = some u)) := by kernel_rfl
theorem run20_false (q : Nat) (u : Value) : runK Try.prog T FL 9000 Try.f20 [fx q, bx false] [] [.b false, .m] (fun r _ => resW r = some u) = ((!inQ q) = false ∧ (fok .mul .f64 c2 q = true ∧ (fok .sub .f64 c200 (q2 q) = true ∧ (fok .quo .f64 c5000 q = true ∧ pAsks q false 64 0 (some (Value.tuple #[vU16 (tabP q false), .int .i64 0]) = some u))))) := by kernel_rfl
theorem run20_true (q : Nat) (u : Value) : runK Try.prog T FL 9000 Try.f20 [fx q, bx true] [] [.b false, .m] (fun r _ => resW r = some u) = ((!inQ q) = false ∧ (fok .mul .f64 c2 q = true ∧ (fok .sub .f64 c200 (q2 q) = true ∧ (fok .quo .f64 c5000 q = true ∧ pAsks q true 64 0 (some (Value.tuple #[vU16 (tabP q true), .int .i64 0]) = some u))))) := by kernel_rfl
end Go.Proofs.Yteikdpagoojdlaa
