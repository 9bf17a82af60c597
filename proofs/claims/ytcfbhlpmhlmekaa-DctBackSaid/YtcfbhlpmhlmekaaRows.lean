/-
  No cell of these rows narrows 'for every input' (looked for: loops, veiled, ifaces, maps, wideKeys, modest, calm, conditions, laid).
  DERIVED. THE GIVEN ROWS OF THIS SEAT. 6 by the template 'for every input the law returns true; each argument reads behind the call as it read before'; 0 by the template 'total and deterministic' (their statements: YtcfbhlpmhlmekaaTotals.lean).
  GIVEN WITH THE SEED: the statements are not yours to turn. If you find one false, say at which input.
  Laid BY PROGRAM, IN A SANDBOX (cutbox-rows.mjs): the forced cells as the released guide's own fill.sh prints them over the translation 8d0b091bab4905b0… (all of the seat's roots in one cut). By AI agents, Wed Nov 11 2026. No macro, syntax, notation, axiom, sorry.
-/
import Derived.Test.YtcfbhlpmhlmekaaChecked
import GoSem.Claim
import GoSem.ClaimJoined
import GoSem.ClaimMapViews
import Derived.JoinedTies
import Derived.KernelRfl
namespace Go.Proofs.Ytcfbhlpmhlmekaa
/- THE CELL 'sum', in the pinned program and in every row, IS THE sha256 OF THE DUMP (.gsa) THAT YtcfbhlpmhlmekaaProg.lean LOADS. Nothing in Lean hashes anything: it is a label: what it is worth is what the hold of that sum in a sandbox is worth. -/
noncomputable def Try.pinned : Pinned := { name := "ytcfbhlpmhlmekaa", sum := "8d0b091bab4905b0403fc98c753f5b6f3ca8d8743636604e2f1362e48850f522", checked := Try.checked }
namespace Rows
def none {H : Type} : Left H := { results := [], args := [] }

/-- 'mosaiclaw09.DctWeight': WHATEVER THE INPUT: true; the input reads as it did. -/
def dctWeightSpec : ChangeSpec := { name := "dctWeight", fn := fun _ => fun
  | [d1, d2] => { results := [.lit (.bool true)], args := [d1, d2] }
  | _ => none }
def dctWeightRow : OpenClaim := { program := "ytcfbhlpmhlmekaa", sum := "8d0b091bab4905b0403fc98c753f5b6f3ca8d8743636604e2f1362e48850f522", func := "mosaic/mosaiclaw09.DctWeight", spec := "dctWeight", apart := false }
def DctWeightSaid : Prop := dctWeightRow.holds Try.pinned (OpenSpec.ofChange dctWeightSpec)

/-- ITS FALSE NEIGHBOUR: 'it returns false'. Refute it at one input. -/
def dctWeightWrong : ChangeSpec := { name := "dctWeight", fn := fun _ => fun
  | [d1, d2] => { results := [.lit (.bool false)], args := [d1, d2] }
  | _ => none }
def DctWeightWrongFalsely : Prop := dctWeightRow.holds Try.pinned (OpenSpec.ofChange dctWeightWrong)

/-- 'mosaiclaw09.DctForward': WHATEVER THE INPUT: true; the input reads as it did. -/
def dctForwardSpec : ChangeSpec := { name := "dctForward", fn := fun _ => fun
  | [d1, d2] => { results := [.lit (.bool true)], args := [d1, d2] }
  | _ => none }
def dctForwardRow : OpenClaim := { program := "ytcfbhlpmhlmekaa", sum := "8d0b091bab4905b0403fc98c753f5b6f3ca8d8743636604e2f1362e48850f522", func := "mosaic/mosaiclaw09.DctForward", spec := "dctForward", apart := false }
def DctForwardSaid : Prop := dctForwardRow.holds Try.pinned (OpenSpec.ofChange dctForwardSpec)

/-- ITS FALSE NEIGHBOUR: 'it returns false'. Refute it at one input. -/
def dctForwardWrong : ChangeSpec := { name := "dctForward", fn := fun _ => fun
  | [d1, d2] => { results := [.lit (.bool false)], args := [d1, d2] }
  | _ => none }
def DctForwardWrongFalsely : Prop := dctForwardRow.holds Try.pinned (OpenSpec.ofChange dctForwardWrong)

/-- 'mosaiclaw09.DctInverse': WHATEVER THE INPUT: true; the input reads as it did. -/
def dctInverseSpec : ChangeSpec := { name := "dctInverse", fn := fun _ => fun
  | [d1, d2] => { results := [.lit (.bool true)], args := [d1, d2] }
  | _ => none }
def dctInverseRow : OpenClaim := { program := "ytcfbhlpmhlmekaa", sum := "8d0b091bab4905b0403fc98c753f5b6f3ca8d8743636604e2f1362e48850f522", func := "mosaic/mosaiclaw09.DctInverse", spec := "dctInverse", apart := false }
def DctInverseSaid : Prop := dctInverseRow.holds Try.pinned (OpenSpec.ofChange dctInverseSpec)

/-- ITS FALSE NEIGHBOUR: 'it returns false'. Refute it at one input. -/
def dctInverseWrong : ChangeSpec := { name := "dctInverse", fn := fun _ => fun
  | [d1, d2] => { results := [.lit (.bool false)], args := [d1, d2] }
  | _ => none }
def DctInverseWrongFalsely : Prop := dctInverseRow.holds Try.pinned (OpenSpec.ofChange dctInverseWrong)

/-- 'mosaiclaw09.DctBack': WHATEVER THE INPUT: true; the input reads as it did. -/
def dctBackSpec : ChangeSpec := { name := "dctBack", fn := fun _ => fun
  | [d] => { results := [.lit (.bool true)], args := [d] }
  | _ => none }
def dctBackRow : OpenClaim := { program := "ytcfbhlpmhlmekaa", sum := "8d0b091bab4905b0403fc98c753f5b6f3ca8d8743636604e2f1362e48850f522", func := "mosaic/mosaiclaw09.DctBack", spec := "dctBack", apart := false }
def DctBackSaid : Prop := dctBackRow.holds Try.pinned (OpenSpec.ofChange dctBackSpec)

/-- ITS FALSE NEIGHBOUR: 'it returns false'. Refute it at one input. -/
def dctBackWrong : ChangeSpec := { name := "dctBack", fn := fun _ => fun
  | [d] => { results := [.lit (.bool false)], args := [d] }
  | _ => none }
def DctBackWrongFalsely : Prop := dctBackRow.holds Try.pinned (OpenSpec.ofChange dctBackWrong)

/-- 'mosaiclaw09.DctMirror': WHATEVER THE INPUT: true; the input reads as it did. -/
def dctMirrorSpec : ChangeSpec := { name := "dctMirror", fn := fun _ => fun
  | [d] => { results := [.lit (.bool true)], args := [d] }
  | _ => none }
def dctMirrorRow : OpenClaim := { program := "ytcfbhlpmhlmekaa", sum := "8d0b091bab4905b0403fc98c753f5b6f3ca8d8743636604e2f1362e48850f522", func := "mosaic/mosaiclaw09.DctMirror", spec := "dctMirror", apart := false }
def DctMirrorSaid : Prop := dctMirrorRow.holds Try.pinned (OpenSpec.ofChange dctMirrorSpec)

/-- ITS FALSE NEIGHBOUR: 'it returns false'. Refute it at one input. -/
def dctMirrorWrong : ChangeSpec := { name := "dctMirror", fn := fun _ => fun
  | [d] => { results := [.lit (.bool false)], args := [d] }
  | _ => none }
def DctMirrorWrongFalsely : Prop := dctMirrorRow.holds Try.pinned (OpenSpec.ofChange dctMirrorWrong)

/-- 'mosaiclaw09.DctFlat': WHATEVER THE INPUT: true; the input reads as it did. -/
def dctFlatSpec : ChangeSpec := { name := "dctFlat", fn := fun _ => fun
  | [d1, d2] => { results := [.lit (.bool true)], args := [d1, d2] }
  | _ => none }
def dctFlatRow : OpenClaim := { program := "ytcfbhlpmhlmekaa", sum := "8d0b091bab4905b0403fc98c753f5b6f3ca8d8743636604e2f1362e48850f522", func := "mosaic/mosaiclaw09.DctFlat", spec := "dctFlat", apart := false }
def DctFlatSaid : Prop := dctFlatRow.holds Try.pinned (OpenSpec.ofChange dctFlatSpec)

/-- ITS FALSE NEIGHBOUR: 'it returns false'. Refute it at one input. -/
def dctFlatWrong : ChangeSpec := { name := "dctFlat", fn := fun _ => fun
  | [d1, d2] => { results := [.lit (.bool false)], args := [d1, d2] }
  | _ => none }
def DctFlatWrongFalsely : Prop := dctFlatRow.holds Try.pinned (OpenSpec.ofChange dctFlatWrong)

/- THE SECOND FORM. 'bulk': how many values and letters a reading holds, each counted each time it is reached (what is shared counts as often as it is met; a slice's spare places count too). A statement '..UptoSaid' is the law's where the arguments, and the package variables that the reading takes, are together of bulk at most 1048576: NARROWER than '..Said'. Prove '..Said' where nothing that the law and all that it calls make is longer than what came in: it says more and counts as full. Else prove '..UptoSaid'. A law counts once. -/
mutual
def uptoBulk {H : Type} : DataW H → Nat
  | .lit (.string bytes) => bytes.length + 1
  | .lit _ => 1
  | .nil => 1
  | .ptr d => uptoBulk d + 1
  | .slice elems spare => uptoBulkAll elems + uptoBulkAll spare + 1
  | .agg parts => uptoBulkAll parts + 1
  | .iface _ d => uptoBulk d + 1
  | .map entries => uptoBulkEntries entries + 1
  | .held _ => 1
def uptoBulkAll {H : Type} : List (DataW H) → Nat
  | [] => 0
  | d :: r => uptoBulk d + uptoBulkAll r
def uptoBulkEntries {H : Type} : List (Lit × DataW H) → Nat
  | [] => 0
  | x :: r => uptoBulkEntry x + uptoBulkEntries r
def uptoBulkEntry {H : Type} : Lit × DataW H → Nat
  | (.string bytes, d) => bytes.length + uptoBulk d + 1
  | (_, d) => uptoBulk d + 1
 end
def uptoSmall : (H : Type) → List (DataW H) → Bool := fun _ ds => decide (uptoBulkAll ds ≤ 1048576)
def OpenSpec.upto (s : _root_.Go.ChangeSpec) : _root_.Go.OpenSpec := { _root_.Go.OpenSpec.ofChange s with cond := some uptoSmall }

/-- 'mosaiclaw09.DctWeight', WHERE WHAT IT READS IS OF BULK AT MOST 1048576: true; the input reads as it did. -/
def dctWeightUptoRow : OpenClaim := { program := "ytcfbhlpmhlmekaa", sum := "8d0b091bab4905b0403fc98c753f5b6f3ca8d8743636604e2f1362e48850f522", func := "mosaic/mosaiclaw09.DctWeight", spec := "dctWeight", apart := false, narrowed := true }
def DctWeightUptoSaid : Prop := dctWeightUptoRow.holds Try.pinned (OpenSpec.upto dctWeightSpec)

/-- 'mosaiclaw09.DctForward', WHERE WHAT IT READS IS OF BULK AT MOST 1048576: true; the input reads as it did. -/
def dctForwardUptoRow : OpenClaim := { program := "ytcfbhlpmhlmekaa", sum := "8d0b091bab4905b0403fc98c753f5b6f3ca8d8743636604e2f1362e48850f522", func := "mosaic/mosaiclaw09.DctForward", spec := "dctForward", apart := false, narrowed := true }
def DctForwardUptoSaid : Prop := dctForwardUptoRow.holds Try.pinned (OpenSpec.upto dctForwardSpec)

/-- 'mosaiclaw09.DctInverse', WHERE WHAT IT READS IS OF BULK AT MOST 1048576: true; the input reads as it did. -/
def dctInverseUptoRow : OpenClaim := { program := "ytcfbhlpmhlmekaa", sum := "8d0b091bab4905b0403fc98c753f5b6f3ca8d8743636604e2f1362e48850f522", func := "mosaic/mosaiclaw09.DctInverse", spec := "dctInverse", apart := false, narrowed := true }
def DctInverseUptoSaid : Prop := dctInverseUptoRow.holds Try.pinned (OpenSpec.upto dctInverseSpec)

/-- 'mosaiclaw09.DctBack', WHERE WHAT IT READS IS OF BULK AT MOST 1048576: true; the input reads as it did. -/
def dctBackUptoRow : OpenClaim := { program := "ytcfbhlpmhlmekaa", sum := "8d0b091bab4905b0403fc98c753f5b6f3ca8d8743636604e2f1362e48850f522", func := "mosaic/mosaiclaw09.DctBack", spec := "dctBack", apart := false, narrowed := true }
def DctBackUptoSaid : Prop := dctBackUptoRow.holds Try.pinned (OpenSpec.upto dctBackSpec)

/-- 'mosaiclaw09.DctMirror', WHERE WHAT IT READS IS OF BULK AT MOST 1048576: true; the input reads as it did. -/
def dctMirrorUptoRow : OpenClaim := { program := "ytcfbhlpmhlmekaa", sum := "8d0b091bab4905b0403fc98c753f5b6f3ca8d8743636604e2f1362e48850f522", func := "mosaic/mosaiclaw09.DctMirror", spec := "dctMirror", apart := false, narrowed := true }
def DctMirrorUptoSaid : Prop := dctMirrorUptoRow.holds Try.pinned (OpenSpec.upto dctMirrorSpec)

/-- 'mosaiclaw09.DctFlat', WHERE WHAT IT READS IS OF BULK AT MOST 1048576: true; the input reads as it did. -/
def dctFlatUptoRow : OpenClaim := { program := "ytcfbhlpmhlmekaa", sum := "8d0b091bab4905b0403fc98c753f5b6f3ca8d8743636604e2f1362e48850f522", func := "mosaic/mosaiclaw09.DctFlat", spec := "dctFlat", apart := false, narrowed := true }
def DctFlatUptoSaid : Prop := dctFlatUptoRow.holds Try.pinned (OpenSpec.upto dctFlatSpec)

end Rows
end Go.Proofs.Ytcfbhlpmhlmekaa
