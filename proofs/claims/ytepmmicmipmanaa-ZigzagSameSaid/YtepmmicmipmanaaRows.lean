/-
  No cell of these rows narrows 'for every input' (looked for: loops, veiled, ifaces, maps, wideKeys, modest, calm, conditions, laid).
  DERIVED. THE GIVEN ROWS OF THIS SEAT. 8 by the template 'for every input the law returns true; each argument reads behind the call as it read before'; 0 by the template 'total and deterministic' (their statements: YtepmmicmipmanaaTotals.lean).
  GIVEN WITH THE SEED: the statements are not yours to turn. If you find one false, say at which input.
  Laid BY PROGRAM, IN A SANDBOX (cutbox-rows.mjs): the forced cells as the released guide's own fill.sh prints them over the translation 1d5281548c64cdd9… (all of the seat's roots in one cut). By AI agents, Wed Nov 11 2026. No macro, syntax, notation, axiom, sorry.
-/
import Derived.Test.YtepmmicmipmanaaChecked
import GoSem.Claim
import GoSem.ClaimJoined
import GoSem.ClaimMapViews
import Derived.JoinedTies
import Derived.KernelRfl
namespace Go.Proofs.Ytepmmicmipmanaa
/- THE CELL 'sum', in the pinned program and in every row, IS THE sha256 OF THE DUMP (.gsa) THAT YtepmmicmipmanaaProg.lean LOADS. Nothing in Lean hashes anything: it is a label: what it is worth is what the hold of that sum in a sandbox is worth. -/
noncomputable def Try.pinned : Pinned := { name := "ytepmmicmipmanaa", sum := "1d5281548c64cdd93aff54fc6c449e585cbe357b9319e17a0e5376d12d40cf82", checked := Try.checked }
namespace Rows
def none {H : Type} : Left H := { results := [], args := [] }

/-- 'mosaiclaw03.ZigzagSame': WHATEVER THE INPUT: true; the input reads as it did. -/
def zigzagSameSpec : ChangeSpec := { name := "zigzagSame", fn := fun _ => fun
  | [d1, d2] => { results := [.lit (.bool true)], args := [d1, d2] }
  | _ => none }
def zigzagSameRow : OpenClaim := { program := "ytepmmicmipmanaa", sum := "1d5281548c64cdd93aff54fc6c449e585cbe357b9319e17a0e5376d12d40cf82", func := "mosaic/mosaiclaw03.ZigzagSame", spec := "zigzagSame", apart := false }
def ZigzagSameSaid : Prop := zigzagSameRow.holds Try.pinned (OpenSpec.ofChange zigzagSameSpec)

/-- ITS FALSE NEIGHBOUR: 'it returns false'. Refute it at one input. -/
def zigzagSameWrong : ChangeSpec := { name := "zigzagSame", fn := fun _ => fun
  | [d1, d2] => { results := [.lit (.bool false)], args := [d1, d2] }
  | _ => none }
def ZigzagSameWrongFalsely : Prop := zigzagSameRow.holds Try.pinned (OpenSpec.ofChange zigzagSameWrong)

/-- 'mosaiclaw03.ZigzagOrder': WHATEVER THE INPUT: true; the input reads as it did. -/
def zigzagOrderSpec : ChangeSpec := { name := "zigzagOrder", fn := fun _ => fun
  | [] => { results := [.lit (.bool true)], args := [] }
  | _ => none }
def zigzagOrderRow : OpenClaim := { program := "ytepmmicmipmanaa", sum := "1d5281548c64cdd93aff54fc6c449e585cbe357b9319e17a0e5376d12d40cf82", func := "mosaic/mosaiclaw03.ZigzagOrder", spec := "zigzagOrder", apart := false }
def ZigzagOrderSaid : Prop := zigzagOrderRow.holds Try.pinned (OpenSpec.ofChange zigzagOrderSpec)

/-- ITS FALSE NEIGHBOUR: 'it returns false'. Refute it at one input. -/
def zigzagOrderWrong : ChangeSpec := { name := "zigzagOrder", fn := fun _ => fun
  | [] => { results := [.lit (.bool false)], args := [] }
  | _ => none }
def ZigzagOrderWrongFalsely : Prop := zigzagOrderRow.holds Try.pinned (OpenSpec.ofChange zigzagOrderWrong)

/-- 'mosaiclaw03.ZigzagPlace': WHATEVER THE INPUT: true; the input reads as it did. -/
def zigzagPlaceSpec : ChangeSpec := { name := "zigzagPlace", fn := fun _ => fun
  | [d1, d2, d3] => { results := [.lit (.bool true)], args := [d1, d2, d3] }
  | _ => none }
def zigzagPlaceRow : OpenClaim := { program := "ytepmmicmipmanaa", sum := "1d5281548c64cdd93aff54fc6c449e585cbe357b9319e17a0e5376d12d40cf82", func := "mosaic/mosaiclaw03.ZigzagPlace", spec := "zigzagPlace", apart := false }
def ZigzagPlaceSaid : Prop := zigzagPlaceRow.holds Try.pinned (OpenSpec.ofChange zigzagPlaceSpec)

/-- ITS FALSE NEIGHBOUR: 'it returns false'. Refute it at one input. -/
def zigzagPlaceWrong : ChangeSpec := { name := "zigzagPlace", fn := fun _ => fun
  | [d1, d2, d3] => { results := [.lit (.bool false)], args := [d1, d2, d3] }
  | _ => none }
def ZigzagPlaceWrongFalsely : Prop := zigzagPlaceRow.holds Try.pinned (OpenSpec.ofChange zigzagPlaceWrong)

/-- 'mosaiclaw03.ZigzagNone': WHATEVER THE INPUT: true; the input reads as it did. -/
def zigzagNoneSpec : ChangeSpec := { name := "zigzagNone", fn := fun _ => fun
  | [] => { results := [.lit (.bool true)], args := [] }
  | _ => none }
def zigzagNoneRow : OpenClaim := { program := "ytepmmicmipmanaa", sum := "1d5281548c64cdd93aff54fc6c449e585cbe357b9319e17a0e5376d12d40cf82", func := "mosaic/mosaiclaw03.ZigzagNone", spec := "zigzagNone", apart := false }
def ZigzagNoneSaid : Prop := zigzagNoneRow.holds Try.pinned (OpenSpec.ofChange zigzagNoneSpec)

/-- ITS FALSE NEIGHBOUR: 'it returns false'. Refute it at one input. -/
def zigzagNoneWrong : ChangeSpec := { name := "zigzagNone", fn := fun _ => fun
  | [] => { results := [.lit (.bool false)], args := [] }
  | _ => none }
def ZigzagNoneWrongFalsely : Prop := zigzagNoneRow.holds Try.pinned (OpenSpec.ofChange zigzagNoneWrong)

/-- 'mosaiclaw03.ZigzagBlocks': WHATEVER THE INPUT: true; the input reads as it did. -/
def zigzagBlocksSpec : ChangeSpec := { name := "zigzagBlocks", fn := fun _ => fun
  | [d1, d2] => { results := [.lit (.bool true)], args := [d1, d2] }
  | _ => none }
def zigzagBlocksRow : OpenClaim := { program := "ytepmmicmipmanaa", sum := "1d5281548c64cdd93aff54fc6c449e585cbe357b9319e17a0e5376d12d40cf82", func := "mosaic/mosaiclaw03.ZigzagBlocks", spec := "zigzagBlocks", apart := false }
def ZigzagBlocksSaid : Prop := zigzagBlocksRow.holds Try.pinned (OpenSpec.ofChange zigzagBlocksSpec)

/-- ITS FALSE NEIGHBOUR: 'it returns false'. Refute it at one input. -/
def zigzagBlocksWrong : ChangeSpec := { name := "zigzagBlocks", fn := fun _ => fun
  | [d1, d2] => { results := [.lit (.bool false)], args := [d1, d2] }
  | _ => none }
def ZigzagBlocksWrongFalsely : Prop := zigzagBlocksRow.holds Try.pinned (OpenSpec.ofChange zigzagBlocksWrong)

/-- 'mosaiclaw03.ZigzagWay': WHATEVER THE INPUT: true; the input reads as it did. -/
def zigzagWaySpec : ChangeSpec := { name := "zigzagWay", fn := fun _ => fun
  | [d] => { results := [.lit (.bool true)], args := [d] }
  | _ => none }
def zigzagWayRow : OpenClaim := { program := "ytepmmicmipmanaa", sum := "1d5281548c64cdd93aff54fc6c449e585cbe357b9319e17a0e5376d12d40cf82", func := "mosaic/mosaiclaw03.ZigzagWay", spec := "zigzagWay", apart := false }
def ZigzagWaySaid : Prop := zigzagWayRow.holds Try.pinned (OpenSpec.ofChange zigzagWaySpec)

/-- ITS FALSE NEIGHBOUR: 'it returns false'. Refute it at one input. -/
def zigzagWayWrong : ChangeSpec := { name := "zigzagWay", fn := fun _ => fun
  | [d] => { results := [.lit (.bool false)], args := [d] }
  | _ => none }
def ZigzagWayWrongFalsely : Prop := zigzagWayRow.holds Try.pinned (OpenSpec.ofChange zigzagWayWrong)

/-- 'mosaiclaw03.ZigzagSquare': WHATEVER THE INPUT: true; the input reads as it did. -/
def zigzagSquareSpec : ChangeSpec := { name := "zigzagSquare", fn := fun _ => fun
  | [d] => { results := [.lit (.bool true)], args := [d] }
  | _ => none }
def zigzagSquareRow : OpenClaim := { program := "ytepmmicmipmanaa", sum := "1d5281548c64cdd93aff54fc6c449e585cbe357b9319e17a0e5376d12d40cf82", func := "mosaic/mosaiclaw03.ZigzagSquare", spec := "zigzagSquare", apart := false }
def ZigzagSquareSaid : Prop := zigzagSquareRow.holds Try.pinned (OpenSpec.ofChange zigzagSquareSpec)

/-- ITS FALSE NEIGHBOUR: 'it returns false'. Refute it at one input. -/
def zigzagSquareWrong : ChangeSpec := { name := "zigzagSquare", fn := fun _ => fun
  | [d] => { results := [.lit (.bool false)], args := [d] }
  | _ => none }
def ZigzagSquareWrongFalsely : Prop := zigzagSquareRow.holds Try.pinned (OpenSpec.ofChange zigzagSquareWrong)

/-- 'mosaiclaw03.ZigzagRows': WHATEVER THE INPUT: true; the input reads as it did. -/
def zigzagRowsSpec : ChangeSpec := { name := "zigzagRows", fn := fun _ => fun
  | [d] => { results := [.lit (.bool true)], args := [d] }
  | _ => none }
def zigzagRowsRow : OpenClaim := { program := "ytepmmicmipmanaa", sum := "1d5281548c64cdd93aff54fc6c449e585cbe357b9319e17a0e5376d12d40cf82", func := "mosaic/mosaiclaw03.ZigzagRows", spec := "zigzagRows", apart := false }
def ZigzagRowsSaid : Prop := zigzagRowsRow.holds Try.pinned (OpenSpec.ofChange zigzagRowsSpec)

/-- ITS FALSE NEIGHBOUR: 'it returns false'. Refute it at one input. -/
def zigzagRowsWrong : ChangeSpec := { name := "zigzagRows", fn := fun _ => fun
  | [d] => { results := [.lit (.bool false)], args := [d] }
  | _ => none }
def ZigzagRowsWrongFalsely : Prop := zigzagRowsRow.holds Try.pinned (OpenSpec.ofChange zigzagRowsWrong)

/- THE SECOND FORM. 'bulk': how many values and letters a reading holds, each counted each time it is reached (what is shared counts as often as it is met; a slice's spare places count too). A statement '..UptoSaid' is the law's where the arguments, and the package variables that the reading takes, are together of bulk at most 1048576: NARROWER than '..Said'. Prove '..Said' where nothing that the law and all that it calls make is longer than what came in: it says more and counts as full. Else prove '..UptoSaid'. A law counts once. -/
mutual
def uptoBulk {H : Type} : DataW H → Nat
  | .lit (.string bytes) => bytes.length + 1
  | .lit _ => 1
  | .nil => 1
  | .ptr d => uptoBulk d + 1
  | .slice elems spare => uptoBulkAll elems + uptoBulkAll spare + 1
  | .agg parts => uptoBulkAll parts + 1
  | .iface _ d => uptoBulk d + 1
  | .map entries => uptoBulkEntries entries + 1
  | .held _ => 1
def uptoBulkAll {H : Type} : List (DataW H) → Nat
  | [] => 0
  | d :: r => uptoBulk d + uptoBulkAll r
def uptoBulkEntries {H : Type} : List (Lit × DataW H) → Nat
  | [] => 0
  | x :: r => uptoBulkEntry x + uptoBulkEntries r
def uptoBulkEntry {H : Type} : Lit × DataW H → Nat
  | (.string bytes, d) => bytes.length + uptoBulk d + 1
  | (_, d) => uptoBulk d + 1
 end
def uptoSmall : (H : Type) → List (DataW H) → Bool := fun _ ds => decide (uptoBulkAll ds ≤ 1048576)
def OpenSpec.upto (s : _root_.Go.ChangeSpec) : _root_.Go.OpenSpec := { _root_.Go.OpenSpec.ofChange s with cond := some uptoSmall }

/-- 'mosaiclaw03.ZigzagSame', WHERE WHAT IT READS IS OF BULK AT MOST 1048576: true; the input reads as it did. -/
def zigzagSameUptoRow : OpenClaim := { program := "ytepmmicmipmanaa", sum := "1d5281548c64cdd93aff54fc6c449e585cbe357b9319e17a0e5376d12d40cf82", func := "mosaic/mosaiclaw03.ZigzagSame", spec := "zigzagSame", apart := false, narrowed := true }
def ZigzagSameUptoSaid : Prop := zigzagSameUptoRow.holds Try.pinned (OpenSpec.upto zigzagSameSpec)

/-- 'mosaiclaw03.ZigzagOrder', WHERE WHAT IT READS IS OF BULK AT MOST 1048576: true; the input reads as it did. -/
def zigzagOrderUptoRow : OpenClaim := { program := "ytepmmicmipmanaa", sum := "1d5281548c64cdd93aff54fc6c449e585cbe357b9319e17a0e5376d12d40cf82", func := "mosaic/mosaiclaw03.ZigzagOrder", spec := "zigzagOrder", apart := false, narrowed := true }
def ZigzagOrderUptoSaid : Prop := zigzagOrderUptoRow.holds Try.pinned (OpenSpec.upto zigzagOrderSpec)

/-- 'mosaiclaw03.ZigzagPlace', WHERE WHAT IT READS IS OF BULK AT MOST 1048576: true; the input reads as it did. -/
def zigzagPlaceUptoRow : OpenClaim := { program := "ytepmmicmipmanaa", sum := "1d5281548c64cdd93aff54fc6c449e585cbe357b9319e17a0e5376d12d40cf82", func := "mosaic/mosaiclaw03.ZigzagPlace", spec := "zigzagPlace", apart := false, narrowed := true }
def ZigzagPlaceUptoSaid : Prop := zigzagPlaceUptoRow.holds Try.pinned (OpenSpec.upto zigzagPlaceSpec)

/-- 'mosaiclaw03.ZigzagNone', WHERE WHAT IT READS IS OF BULK AT MOST 1048576: true; the input reads as it did. -/
def zigzagNoneUptoRow : OpenClaim := { program := "ytepmmicmipmanaa", sum := "1d5281548c64cdd93aff54fc6c449e585cbe357b9319e17a0e5376d12d40cf82", func := "mosaic/mosaiclaw03.ZigzagNone", spec := "zigzagNone", apart := false, narrowed := true }
def ZigzagNoneUptoSaid : Prop := zigzagNoneUptoRow.holds Try.pinned (OpenSpec.upto zigzagNoneSpec)

/-- 'mosaiclaw03.ZigzagBlocks', WHERE WHAT IT READS IS OF BULK AT MOST 1048576: true; the input reads as it did. -/
def zigzagBlocksUptoRow : OpenClaim := { program := "ytepmmicmipmanaa", sum := "1d5281548c64cdd93aff54fc6c449e585cbe357b9319e17a0e5376d12d40cf82", func := "mosaic/mosaiclaw03.ZigzagBlocks", spec := "zigzagBlocks", apart := false, narrowed := true }
def ZigzagBlocksUptoSaid : Prop := zigzagBlocksUptoRow.holds Try.pinned (OpenSpec.upto zigzagBlocksSpec)

/-- 'mosaiclaw03.ZigzagWay', WHERE WHAT IT READS IS OF BULK AT MOST 1048576: true; the input reads as it did. -/
def zigzagWayUptoRow : OpenClaim := { program := "ytepmmicmipmanaa", sum := "1d5281548c64cdd93aff54fc6c449e585cbe357b9319e17a0e5376d12d40cf82", func := "mosaic/mosaiclaw03.ZigzagWay", spec := "zigzagWay", apart := false, narrowed := true }
def ZigzagWayUptoSaid : Prop := zigzagWayUptoRow.holds Try.pinned (OpenSpec.upto zigzagWaySpec)

/-- 'mosaiclaw03.ZigzagSquare', WHERE WHAT IT READS IS OF BULK AT MOST 1048576: true; the input reads as it did. -/
def zigzagSquareUptoRow : OpenClaim := { program := "ytepmmicmipmanaa", sum := "1d5281548c64cdd93aff54fc6c449e585cbe357b9319e17a0e5376d12d40cf82", func := "mosaic/mosaiclaw03.ZigzagSquare", spec := "zigzagSquare", apart := false, narrowed := true }
def ZigzagSquareUptoSaid : Prop := zigzagSquareUptoRow.holds Try.pinned (OpenSpec.upto zigzagSquareSpec)

/-- 'mosaiclaw03.ZigzagRows', WHERE WHAT IT READS IS OF BULK AT MOST 1048576: true; the input reads as it did. -/
def zigzagRowsUptoRow : OpenClaim := { program := "ytepmmicmipmanaa", sum := "1d5281548c64cdd93aff54fc6c449e585cbe357b9319e17a0e5376d12d40cf82", func := "mosaic/mosaiclaw03.ZigzagRows", spec := "zigzagRows", apart := false, narrowed := true }
def ZigzagRowsUptoSaid : Prop := zigzagRowsUptoRow.holds Try.pinned (OpenSpec.upto zigzagRowsSpec)

end Rows
end Go.Proofs.Ytepmmicmipmanaa
