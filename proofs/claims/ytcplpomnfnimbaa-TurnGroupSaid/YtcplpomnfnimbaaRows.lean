/-
  No cell of these rows narrows 'for every input' (looked for: loops, veiled, ifaces, maps, wideKeys, modest, calm, conditions, laid).
  DERIVED. THE GIVEN ROWS OF THIS SEAT. 11 by the template 'for every input the law returns true; each argument reads behind the call as it read before'; 0 by the template 'total and deterministic' (their statements: YtcplpomnfnimbaaTotals.lean).
  GIVEN WITH THE SEED: the statements are not yours to turn. If you find one false, say at which input.
  Laid BY PROGRAM, IN A SANDBOX (cutbox-rows.mjs): the forced cells as the released guide's own fill.sh prints them over the translation b4a973c03e71bb11… (all of the seat's roots in one cut). By AI agents, Wed Nov 11 2026. No macro, syntax, notation, axiom, sorry.
-/
import Derived.Test.YtcplpomnfnimbaaChecked
import GoSem.Claim
import GoSem.ClaimJoined
import GoSem.ClaimMapViews
import Derived.JoinedTies
import Derived.KernelRfl
namespace Go.Proofs.Ytcplpomnfnimbaa
/- THE CELL 'sum', in the pinned program and in every row, IS THE sha256 OF THE DUMP (.gsa) THAT YtcplpomnfnimbaaProg.lean LOADS. Nothing in Lean hashes anything: it is a label: what it is worth is what the hold of that sum in a sandbox is worth. -/
noncomputable def Try.pinned : Pinned := { name := "ytcplpomnfnimbaa", sum := "b4a973c03e71bb11a18cce911304fa0a82648a798b569d96cf23cf713f73b250", checked := Try.checked }
namespace Rows
def none {H : Type} : Left H := { results := [], args := [] }

/-- 'mosaiclaw28.TurnThen': WHATEVER THE INPUT: true; the input reads as it did. -/
def turnThenSpec : ChangeSpec := { name := "turnThen", fn := fun _ => fun
  | [d1, d2] => { results := [.lit (.bool true)], args := [d1, d2] }
  | _ => none }
def turnThenRow : OpenClaim := { program := "ytcplpomnfnimbaa", sum := "b4a973c03e71bb11a18cce911304fa0a82648a798b569d96cf23cf713f73b250", func := "mosaic/mosaiclaw28.TurnThen", spec := "turnThen", apart := false }
def TurnThenSaid : Prop := turnThenRow.holds Try.pinned (OpenSpec.ofChange turnThenSpec)

/-- ITS FALSE NEIGHBOUR: 'it returns false'. Refute it at one input. -/
def turnThenWrong : ChangeSpec := { name := "turnThen", fn := fun _ => fun
  | [d1, d2] => { results := [.lit (.bool false)], args := [d1, d2] }
  | _ => none }
def TurnThenWrongFalsely : Prop := turnThenRow.holds Try.pinned (OpenSpec.ofChange turnThenWrong)

/-- 'mosaiclaw28.TurnImage': WHATEVER THE INPUT: true; the input reads as it did. -/
def turnImageSpec : ChangeSpec := { name := "turnImage", fn := fun _ => fun
  | [d1, d2] => { results := [.lit (.bool true)], args := [d1, d2] }
  | _ => none }
def turnImageRow : OpenClaim := { program := "ytcplpomnfnimbaa", sum := "b4a973c03e71bb11a18cce911304fa0a82648a798b569d96cf23cf713f73b250", func := "mosaic/mosaiclaw28.TurnImage", spec := "turnImage", apart := false }
def TurnImageSaid : Prop := turnImageRow.holds Try.pinned (OpenSpec.ofChange turnImageSpec)

/-- ITS FALSE NEIGHBOUR: 'it returns false'. Refute it at one input. -/
def turnImageWrong : ChangeSpec := { name := "turnImage", fn := fun _ => fun
  | [d1, d2] => { results := [.lit (.bool false)], args := [d1, d2] }
  | _ => none }
def TurnImageWrongFalsely : Prop := turnImageRow.holds Try.pinned (OpenSpec.ofChange turnImageWrong)

/-- 'mosaiclaw28.TurnTurn': WHATEVER THE INPUT: true; the input reads as it did. -/
def turnTurnSpec : ChangeSpec := { name := "turnTurn", fn := fun _ => fun
  | [d1, d2] => { results := [.lit (.bool true)], args := [d1, d2] }
  | _ => none }
def turnTurnRow : OpenClaim := { program := "ytcplpomnfnimbaa", sum := "b4a973c03e71bb11a18cce911304fa0a82648a798b569d96cf23cf713f73b250", func := "mosaic/mosaiclaw28.TurnTurn", spec := "turnTurn", unfollowed := true, recurses := true, apart := false }
def TurnTurnSaid : Prop := turnTurnRow.holds Try.pinned (OpenSpec.ofChange turnTurnSpec)

/-- ITS FALSE NEIGHBOUR: 'it returns false'. Refute it at one input. -/
def turnTurnWrong : ChangeSpec := { name := "turnTurn", fn := fun _ => fun
  | [d1, d2] => { results := [.lit (.bool false)], args := [d1, d2] }
  | _ => none }
def TurnTurnWrongFalsely : Prop := turnTurnRow.holds Try.pinned (OpenSpec.ofChange turnTurnWrong)

/-- 'mosaiclaw28.TurnCrop': WHATEVER THE INPUT: true; the input reads as it did. -/
def turnCropSpec : ChangeSpec := { name := "turnCrop", fn := fun _ => fun
  | [d1, d2] => { results := [.lit (.bool true)], args := [d1, d2] }
  | _ => none }
def turnCropRow : OpenClaim := { program := "ytcplpomnfnimbaa", sum := "b4a973c03e71bb11a18cce911304fa0a82648a798b569d96cf23cf713f73b250", func := "mosaic/mosaiclaw28.TurnCrop", spec := "turnCrop", unfollowed := true, recurses := true, apart := false }
def TurnCropSaid : Prop := turnCropRow.holds Try.pinned (OpenSpec.ofChange turnCropSpec)

/-- ITS FALSE NEIGHBOUR: 'it returns false'. Refute it at one input. -/
def turnCropWrong : ChangeSpec := { name := "turnCrop", fn := fun _ => fun
  | [d1, d2] => { results := [.lit (.bool false)], args := [d1, d2] }
  | _ => none }
def TurnCropWrongFalsely : Prop := turnCropRow.holds Try.pinned (OpenSpec.ofChange turnCropWrong)

/-- 'mosaiclaw28.TurnGrey': WHATEVER THE INPUT: true; the input reads as it did. -/
def turnGreySpec : ChangeSpec := { name := "turnGrey", fn := fun _ => fun
  | [d] => { results := [.lit (.bool true)], args := [d] }
  | _ => none }
def turnGreyRow : OpenClaim := { program := "ytcplpomnfnimbaa", sum := "b4a973c03e71bb11a18cce911304fa0a82648a798b569d96cf23cf713f73b250", func := "mosaic/mosaiclaw28.TurnGrey", spec := "turnGrey", unfollowed := true, recurses := true, apart := false }
def TurnGreySaid : Prop := turnGreyRow.holds Try.pinned (OpenSpec.ofChange turnGreySpec)

/-- ITS FALSE NEIGHBOUR: 'it returns false'. Refute it at one input. -/
def turnGreyWrong : ChangeSpec := { name := "turnGrey", fn := fun _ => fun
  | [d] => { results := [.lit (.bool false)], args := [d] }
  | _ => none }
def TurnGreyWrongFalsely : Prop := turnGreyRow.holds Try.pinned (OpenSpec.ofChange turnGreyWrong)

/-- 'mosaiclaw28.TurnNames': WHATEVER THE INPUT: true; the input reads as it did. -/
def turnNamesSpec : ChangeSpec := { name := "turnNames", fn := fun _ => fun
  | [] => { results := [.lit (.bool true)], args := [] }
  | _ => none }
def turnNamesRow : OpenClaim := { program := "ytcplpomnfnimbaa", sum := "b4a973c03e71bb11a18cce911304fa0a82648a798b569d96cf23cf713f73b250", func := "mosaic/mosaiclaw28.TurnNames", spec := "turnNames", unfollowed := true, recurses := true, apart := false }
def TurnNamesSaid : Prop := turnNamesRow.holds Try.pinned (OpenSpec.ofChange turnNamesSpec)

/-- ITS FALSE NEIGHBOUR: 'it returns false'. Refute it at one input. -/
def turnNamesWrong : ChangeSpec := { name := "turnNames", fn := fun _ => fun
  | [] => { results := [.lit (.bool false)], args := [] }
  | _ => none }
def TurnNamesWrongFalsely : Prop := turnNamesRow.holds Try.pinned (OpenSpec.ofChange turnNamesWrong)

/-- 'mosaiclaw28.TurnGroup': WHATEVER THE INPUT: true; the input reads as it did. -/
def turnGroupSpec : ChangeSpec := { name := "turnGroup", fn := fun _ => fun
  | [d1, d2, d3] => { results := [.lit (.bool true)], args := [d1, d2, d3] }
  | _ => none }
def turnGroupRow : OpenClaim := { program := "ytcplpomnfnimbaa", sum := "b4a973c03e71bb11a18cce911304fa0a82648a798b569d96cf23cf713f73b250", func := "mosaic/mosaiclaw28.TurnGroup", spec := "turnGroup", unfollowed := true, recurses := true, apart := false }
def TurnGroupSaid : Prop := turnGroupRow.holds Try.pinned (OpenSpec.ofChange turnGroupSpec)

/-- ITS FALSE NEIGHBOUR: 'it returns false'. Refute it at one input. -/
def turnGroupWrong : ChangeSpec := { name := "turnGroup", fn := fun _ => fun
  | [d1, d2, d3] => { results := [.lit (.bool false)], args := [d1, d2, d3] }
  | _ => none }
def TurnGroupWrongFalsely : Prop := turnGroupRow.holds Try.pinned (OpenSpec.ofChange turnGroupWrong)

/-- 'mosaiclaw28.TurnTwice': WHATEVER THE INPUT: true; the input reads as it did. -/
def turnTwiceSpec : ChangeSpec := { name := "turnTwice", fn := fun _ => fun
  | [d1, d2, d3, d4] => { results := [.lit (.bool true)], args := [d1, d2, d3, d4] }
  | _ => none }
def turnTwiceRow : OpenClaim := { program := "ytcplpomnfnimbaa", sum := "b4a973c03e71bb11a18cce911304fa0a82648a798b569d96cf23cf713f73b250", func := "mosaic/mosaiclaw28.TurnTwice", spec := "turnTwice", unfollowed := true, recurses := true, apart := false }
def TurnTwiceSaid : Prop := turnTwiceRow.holds Try.pinned (OpenSpec.ofChange turnTwiceSpec)

/-- ITS FALSE NEIGHBOUR: 'it returns false'. Refute it at one input. -/
def turnTwiceWrong : ChangeSpec := { name := "turnTwice", fn := fun _ => fun
  | [d1, d2, d3, d4] => { results := [.lit (.bool false)], args := [d1, d2, d3, d4] }
  | _ => none }
def TurnTwiceWrongFalsely : Prop := turnTwiceRow.holds Try.pinned (OpenSpec.ofChange turnTwiceWrong)

/-- 'mosaiclaw28.TurnCropped': WHATEVER THE INPUT: true; the input reads as it did. -/
def turnCroppedSpec : ChangeSpec := { name := "turnCropped", fn := fun _ => fun
  | [d1, d2] => { results := [.lit (.bool true)], args := [d1, d2] }
  | _ => none }
def turnCroppedRow : OpenClaim := { program := "ytcplpomnfnimbaa", sum := "b4a973c03e71bb11a18cce911304fa0a82648a798b569d96cf23cf713f73b250", func := "mosaic/mosaiclaw28.TurnCropped", spec := "turnCropped", unfollowed := true, recurses := true, apart := false }
def TurnCroppedSaid : Prop := turnCroppedRow.holds Try.pinned (OpenSpec.ofChange turnCroppedSpec)

/-- ITS FALSE NEIGHBOUR: 'it returns false'. Refute it at one input. -/
def turnCroppedWrong : ChangeSpec := { name := "turnCropped", fn := fun _ => fun
  | [d1, d2] => { results := [.lit (.bool false)], args := [d1, d2] }
  | _ => none }
def TurnCroppedWrongFalsely : Prop := turnCroppedRow.holds Try.pinned (OpenSpec.ofChange turnCroppedWrong)

/-- 'mosaiclaw28.TurnWhole': WHATEVER THE INPUT: true; the input reads as it did. -/
def turnWholeSpec : ChangeSpec := { name := "turnWhole", fn := fun _ => fun
  | [d] => { results := [.lit (.bool true)], args := [d] }
  | _ => none }
def turnWholeRow : OpenClaim := { program := "ytcplpomnfnimbaa", sum := "b4a973c03e71bb11a18cce911304fa0a82648a798b569d96cf23cf713f73b250", func := "mosaic/mosaiclaw28.TurnWhole", spec := "turnWhole", unfollowed := true, recurses := true, apart := false }
def TurnWholeSaid : Prop := turnWholeRow.holds Try.pinned (OpenSpec.ofChange turnWholeSpec)

/-- ITS FALSE NEIGHBOUR: 'it returns false'. Refute it at one input. -/
def turnWholeWrong : ChangeSpec := { name := "turnWhole", fn := fun _ => fun
  | [d] => { results := [.lit (.bool false)], args := [d] }
  | _ => none }
def TurnWholeWrongFalsely : Prop := turnWholeRow.holds Try.pinned (OpenSpec.ofChange turnWholeWrong)

/-- 'mosaiclaw28.TurnSeen': WHATEVER THE INPUT: true; the input reads as it did. -/
def turnSeenSpec : ChangeSpec := { name := "turnSeen", fn := fun _ => fun
  | [d1, d2] => { results := [.lit (.bool true)], args := [d1, d2] }
  | _ => none }
def turnSeenRow : OpenClaim := { program := "ytcplpomnfnimbaa", sum := "b4a973c03e71bb11a18cce911304fa0a82648a798b569d96cf23cf713f73b250", func := "mosaic/mosaiclaw28.TurnSeen", spec := "turnSeen", unfollowed := true, recurses := true, apart := false }
def TurnSeenSaid : Prop := turnSeenRow.holds Try.pinned (OpenSpec.ofChange turnSeenSpec)

/-- ITS FALSE NEIGHBOUR: 'it returns false'. Refute it at one input. -/
def turnSeenWrong : ChangeSpec := { name := "turnSeen", fn := fun _ => fun
  | [d1, d2] => { results := [.lit (.bool false)], args := [d1, d2] }
  | _ => none }
def TurnSeenWrongFalsely : Prop := turnSeenRow.holds Try.pinned (OpenSpec.ofChange turnSeenWrong)

/- THE SECOND FORM. 'bulk': how many values and letters a reading holds, each counted each time it is reached (what is shared counts as often as it is met; a slice's spare places count too). A statement '..UptoSaid' is the law's where the arguments, and the package variables that the reading takes, are together of bulk at most 1048576: NARROWER than '..Said'. Prove '..Said' where nothing that the law and all that it calls make is longer than what came in: it says more and counts as full. Else prove '..UptoSaid'. A law counts once. -/
mutual
def uptoBulk {H : Type} : DataW H → Nat
  | .lit (.string bytes) => bytes.length + 1
  | .lit _ => 1
  | .nil => 1
  | .ptr d => uptoBulk d + 1
  | .slice elems spare => uptoBulkAll elems + uptoBulkAll spare + 1
  | .agg parts => uptoBulkAll parts + 1
  | .iface _ d => uptoBulk d + 1
  | .map entries => uptoBulkEntries entries + 1
  | .held _ => 1
def uptoBulkAll {H : Type} : List (DataW H) → Nat
  | [] => 0
  | d :: r => uptoBulk d + uptoBulkAll r
def uptoBulkEntries {H : Type} : List (Lit × DataW H) → Nat
  | [] => 0
  | x :: r => uptoBulkEntry x + uptoBulkEntries r
def uptoBulkEntry {H : Type} : Lit × DataW H → Nat
  | (.string bytes, d) => bytes.length + uptoBulk d + 1
  | (_, d) => uptoBulk d + 1
 end
def uptoSmall : (H : Type) → List (DataW H) → Bool := fun _ ds => decide (uptoBulkAll ds ≤ 1048576)
def OpenSpec.upto (s : _root_.Go.ChangeSpec) : _root_.Go.OpenSpec := { _root_.Go.OpenSpec.ofChange s with cond := some uptoSmall }

/-- 'mosaiclaw28.TurnThen', WHERE WHAT IT READS IS OF BULK AT MOST 1048576: true; the input reads as it did. -/
def turnThenUptoRow : OpenClaim := { program := "ytcplpomnfnimbaa", sum := "b4a973c03e71bb11a18cce911304fa0a82648a798b569d96cf23cf713f73b250", func := "mosaic/mosaiclaw28.TurnThen", spec := "turnThen", apart := false, narrowed := true }
def TurnThenUptoSaid : Prop := turnThenUptoRow.holds Try.pinned (OpenSpec.upto turnThenSpec)

/-- 'mosaiclaw28.TurnImage', WHERE WHAT IT READS IS OF BULK AT MOST 1048576: true; the input reads as it did. -/
def turnImageUptoRow : OpenClaim := { program := "ytcplpomnfnimbaa", sum := "b4a973c03e71bb11a18cce911304fa0a82648a798b569d96cf23cf713f73b250", func := "mosaic/mosaiclaw28.TurnImage", spec := "turnImage", apart := false, narrowed := true }
def TurnImageUptoSaid : Prop := turnImageUptoRow.holds Try.pinned (OpenSpec.upto turnImageSpec)

/-- 'mosaiclaw28.TurnTurn', WHERE WHAT IT READS IS OF BULK AT MOST 1048576: true; the input reads as it did. -/
def turnTurnUptoRow : OpenClaim := { program := "ytcplpomnfnimbaa", sum := "b4a973c03e71bb11a18cce911304fa0a82648a798b569d96cf23cf713f73b250", func := "mosaic/mosaiclaw28.TurnTurn", spec := "turnTurn", unfollowed := true, recurses := true, apart := false, narrowed := true }
def TurnTurnUptoSaid : Prop := turnTurnUptoRow.holds Try.pinned (OpenSpec.upto turnTurnSpec)

/-- 'mosaiclaw28.TurnCrop', WHERE WHAT IT READS IS OF BULK AT MOST 1048576: true; the input reads as it did. -/
def turnCropUptoRow : OpenClaim := { program := "ytcplpomnfnimbaa", sum := "b4a973c03e71bb11a18cce911304fa0a82648a798b569d96cf23cf713f73b250", func := "mosaic/mosaiclaw28.TurnCrop", spec := "turnCrop", unfollowed := true, recurses := true, apart := false, narrowed := true }
def TurnCropUptoSaid : Prop := turnCropUptoRow.holds Try.pinned (OpenSpec.upto turnCropSpec)

/-- 'mosaiclaw28.TurnGrey', WHERE WHAT IT READS IS OF BULK AT MOST 1048576: true; the input reads as it did. -/
def turnGreyUptoRow : OpenClaim := { program := "ytcplpomnfnimbaa", sum := "b4a973c03e71bb11a18cce911304fa0a82648a798b569d96cf23cf713f73b250", func := "mosaic/mosaiclaw28.TurnGrey", spec := "turnGrey", unfollowed := true, recurses := true, apart := false, narrowed := true }
def TurnGreyUptoSaid : Prop := turnGreyUptoRow.holds Try.pinned (OpenSpec.upto turnGreySpec)

/-- 'mosaiclaw28.TurnNames', WHERE WHAT IT READS IS OF BULK AT MOST 1048576: true; the input reads as it did. -/
def turnNamesUptoRow : OpenClaim := { program := "ytcplpomnfnimbaa", sum := "b4a973c03e71bb11a18cce911304fa0a82648a798b569d96cf23cf713f73b250", func := "mosaic/mosaiclaw28.TurnNames", spec := "turnNames", unfollowed := true, recurses := true, apart := false, narrowed := true }
def TurnNamesUptoSaid : Prop := turnNamesUptoRow.holds Try.pinned (OpenSpec.upto turnNamesSpec)

/-- 'mosaiclaw28.TurnGroup', WHERE WHAT IT READS IS OF BULK AT MOST 1048576: true; the input reads as it did. -/
def turnGroupUptoRow : OpenClaim := { program := "ytcplpomnfnimbaa", sum := "b4a973c03e71bb11a18cce911304fa0a82648a798b569d96cf23cf713f73b250", func := "mosaic/mosaiclaw28.TurnGroup", spec := "turnGroup", unfollowed := true, recurses := true, apart := false, narrowed := true }
def TurnGroupUptoSaid : Prop := turnGroupUptoRow.holds Try.pinned (OpenSpec.upto turnGroupSpec)

/-- 'mosaiclaw28.TurnTwice', WHERE WHAT IT READS IS OF BULK AT MOST 1048576: true; the input reads as it did. -/
def turnTwiceUptoRow : OpenClaim := { program := "ytcplpomnfnimbaa", sum := "b4a973c03e71bb11a18cce911304fa0a82648a798b569d96cf23cf713f73b250", func := "mosaic/mosaiclaw28.TurnTwice", spec := "turnTwice", unfollowed := true, recurses := true, apart := false, narrowed := true }
def TurnTwiceUptoSaid : Prop := turnTwiceUptoRow.holds Try.pinned (OpenSpec.upto turnTwiceSpec)

/-- 'mosaiclaw28.TurnCropped', WHERE WHAT IT READS IS OF BULK AT MOST 1048576: true; the input reads as it did. -/
def turnCroppedUptoRow : OpenClaim := { program := "ytcplpomnfnimbaa", sum := "b4a973c03e71bb11a18cce911304fa0a82648a798b569d96cf23cf713f73b250", func := "mosaic/mosaiclaw28.TurnCropped", spec := "turnCropped", unfollowed := true, recurses := true, apart := false, narrowed := true }
def TurnCroppedUptoSaid : Prop := turnCroppedUptoRow.holds Try.pinned (OpenSpec.upto turnCroppedSpec)

/-- 'mosaiclaw28.TurnWhole', WHERE WHAT IT READS IS OF BULK AT MOST 1048576: true; the input reads as it did. -/
def turnWholeUptoRow : OpenClaim := { program := "ytcplpomnfnimbaa", sum := "b4a973c03e71bb11a18cce911304fa0a82648a798b569d96cf23cf713f73b250", func := "mosaic/mosaiclaw28.TurnWhole", spec := "turnWhole", unfollowed := true, recurses := true, apart := false, narrowed := true }
def TurnWholeUptoSaid : Prop := turnWholeUptoRow.holds Try.pinned (OpenSpec.upto turnWholeSpec)

/-- 'mosaiclaw28.TurnSeen', WHERE WHAT IT READS IS OF BULK AT MOST 1048576: true; the input reads as it did. -/
def turnSeenUptoRow : OpenClaim := { program := "ytcplpomnfnimbaa", sum := "b4a973c03e71bb11a18cce911304fa0a82648a798b569d96cf23cf713f73b250", func := "mosaic/mosaiclaw28.TurnSeen", spec := "turnSeen", unfollowed := true, recurses := true, apart := false, narrowed := true }
def TurnSeenUptoSaid : Prop := turnSeenUptoRow.holds Try.pinned (OpenSpec.upto turnSeenSpec)

end Rows
end Go.Proofs.Ytcplpomnfnimbaa
