/-
  What is proved here: nothing yet; the table for the walk of Names. A text to be imported.
-/
import Derived.Test.YtgpbpgbokfdbeaaDoorBase
import Derived.Test.YtgpbpgbokfdbeaaDoorSimX
namespace Go.Proofs.YtgpbpgbokfdbeaaDoor
open Sm Go Go.RowKit
set_option maxRecDepth 1000000
set_option linter.unusedVariables false
def FN : Fns := { Fns.none with co := fun f => match f with
  | 4 => some [.f [.f [0, 1, 2, 3, 6, 7, 8, 9] [4] none, .g [5] [10], .s [11, 12]]]
  | 12 => some [.f [.g (List.range 11) [11, 12, 13, 14]]]
  | _ => some [] }
theorem FNok : FnsOk Tryd.prog FN :=
  have h : FnsOk Tryd.prog Fns.none := FnsOk.none
  ⟨h.pr, h.pure, h.pre, h.ext, h.gen, h.gnp, h.cal, h.loops⟩
end Go.Proofs.YtgpbpgbokfdbeaaDoor
