/-
  No cell of these rows narrows 'for every input' (looked for: loops, veiled, ifaces, maps, wideKeys, modest, calm, conditions, laid).
  DERIVED. THE GIVEN ROWS OF THIS SEAT. 9 by the template 'for every input the law returns true; each argument reads behind the call as it read before'; 0 by the template 'total and deterministic' (their statements: YteikdpagoojdlaaTotals.lean).
  GIVEN WITH THE SEED: the statements are not yours to turn. If you find one false, say at which input.
  Laid BY PROGRAM, IN A SANDBOX (cutbox-rows.mjs): the forced cells as the released guide's own fill.sh prints them over the translation fc6bd1f9350407d2… (all of the seat's roots in one cut). By AI agents, Wed Nov 11 2026. No macro, syntax, notation, axiom, sorry.
-/
import Derived.Test.YteikdpagoojdlaaChecked
import GoSem.Claim
import GoSem.ClaimJoined
import GoSem.ClaimMapViews
import Derived.JoinedTies
import Derived.KernelRfl
namespace Go.Proofs.Yteikdpagoojdlaa
/- THE CELL 'sum', in the pinned program and in every row, IS THE sha256 OF THE DUMP (.gsa) THAT YteikdpagoojdlaaProg.lean LOADS. Nothing in Lean hashes anything: it is a label: what it is worth is what the hold of that sum in a sandbox is worth. -/
noncomputable def Try.pinned : Pinned := { name := "yteikdpagoojdlaa", sum := "fc6bd1f9350407d2be320b03635bc1e48f8bf89a908fc303ad9f1328292b3f77", checked := Try.checked }
namespace Rows
def none {H : Type} : Left H := { results := [], args := [] }

/-- 'mosaiclaw08.QuantCheck': WHATEVER THE INPUT: true; the input reads as it did. -/
def quantCheckSpec : ChangeSpec := { name := "quantCheck", fn := fun _ => fun
  | [d1, d2] => { results := [.lit (.bool true)], args := [d1, d2] }
  | _ => none }
def quantCheckRow : OpenClaim := { program := "yteikdpagoojdlaa", sum := "fc6bd1f9350407d2be320b03635bc1e48f8bf89a908fc303ad9f1328292b3f77", func := "mosaic/mosaiclaw08.QuantCheck", spec := "quantCheck", apart := false }
def QuantCheckSaid : Prop := quantCheckRow.holds Try.pinned (OpenSpec.ofChange quantCheckSpec)

/-- ITS FALSE NEIGHBOUR: 'it returns false'. Refute it at one input. -/
def quantCheckWrong : ChangeSpec := { name := "quantCheck", fn := fun _ => fun
  | [d1, d2] => { results := [.lit (.bool false)], args := [d1, d2] }
  | _ => none }
def QuantCheckWrongFalsely : Prop := quantCheckRow.holds Try.pinned (OpenSpec.ofChange quantCheckWrong)

/-- 'mosaiclaw08.QuantMakes': WHATEVER THE INPUT: true; the input reads as it did. -/
def quantMakesSpec : ChangeSpec := { name := "quantMakes", fn := fun _ => fun
  | [d1, d2, d3] => { results := [.lit (.bool true)], args := [d1, d2, d3] }
  | _ => none }
def quantMakesRow : OpenClaim := { program := "yteikdpagoojdlaa", sum := "fc6bd1f9350407d2be320b03635bc1e48f8bf89a908fc303ad9f1328292b3f77", func := "mosaic/mosaiclaw08.QuantMakes", spec := "quantMakes", apart := false }
def QuantMakesSaid : Prop := quantMakesRow.holds Try.pinned (OpenSpec.ofChange quantMakesSpec)

/-- ITS FALSE NEIGHBOUR: 'it returns false'. Refute it at one input. -/
def quantMakesWrong : ChangeSpec := { name := "quantMakes", fn := fun _ => fun
  | [d1, d2, d3] => { results := [.lit (.bool false)], args := [d1, d2, d3] }
  | _ => none }
def QuantMakesWrongFalsely : Prop := quantMakesRow.holds Try.pinned (OpenSpec.ofChange quantMakesWrong)

/-- 'mosaiclaw08.QuantNames': WHATEVER THE INPUT: true; the input reads as it did. -/
def quantNamesSpec : ChangeSpec := { name := "quantNames", fn := fun _ => fun
  | [] => { results := [.lit (.bool true)], args := [] }
  | _ => none }
def quantNamesRow : OpenClaim := { program := "yteikdpagoojdlaa", sum := "fc6bd1f9350407d2be320b03635bc1e48f8bf89a908fc303ad9f1328292b3f77", func := "mosaic/mosaiclaw08.QuantNames", spec := "quantNames", inPlace := ["math.archFloor", "math.Float64bits", "math.Float64frombits", "math.archTrunc"], apart := false }
def QuantNamesSaid : Prop := quantNamesRow.holds Try.pinned (OpenSpec.ofChange quantNamesSpec)

/-- ITS FALSE NEIGHBOUR: 'it returns false'. Refute it at one input. -/
def quantNamesWrong : ChangeSpec := { name := "quantNames", fn := fun _ => fun
  | [] => { results := [.lit (.bool false)], args := [] }
  | _ => none }
def QuantNamesWrongFalsely : Prop := quantNamesRow.holds Try.pinned (OpenSpec.ofChange quantNamesWrong)

/-- 'mosaiclaw08.QuantTable': WHATEVER THE INPUT: true; the input reads as it did. -/
def quantTableSpec : ChangeSpec := { name := "quantTable", fn := fun _ => fun
  | [d1, d2] => { results := [.lit (.bool true)], args := [d1, d2] }
  | _ => none }
def quantTableRow : OpenClaim := { program := "yteikdpagoojdlaa", sum := "fc6bd1f9350407d2be320b03635bc1e48f8bf89a908fc303ad9f1328292b3f77", func := "mosaic/mosaiclaw08.QuantTable", spec := "quantTable", inPlace := ["math.archFloor", "math.Float64bits", "math.Float64frombits", "math.archTrunc"], apart := false }
def QuantTableSaid : Prop := quantTableRow.holds Try.pinned (OpenSpec.ofChange quantTableSpec)

/-- ITS FALSE NEIGHBOUR: 'it returns false'. Refute it at one input. -/
def quantTableWrong : ChangeSpec := { name := "quantTable", fn := fun _ => fun
  | [d1, d2] => { results := [.lit (.bool false)], args := [d1, d2] }
  | _ => none }
def QuantTableWrongFalsely : Prop := quantTableRow.holds Try.pinned (OpenSpec.ofChange quantTableWrong)

/-- 'mosaiclaw08.QuantBack': WHATEVER THE INPUT: true; the input reads as it did. -/
def quantBackSpec : ChangeSpec := { name := "quantBack", fn := fun _ => fun
  | [d1, d2] => { results := [.lit (.bool true)], args := [d1, d2] }
  | _ => none }
def quantBackRow : OpenClaim := { program := "yteikdpagoojdlaa", sum := "fc6bd1f9350407d2be320b03635bc1e48f8bf89a908fc303ad9f1328292b3f77", func := "mosaic/mosaiclaw08.QuantBack", spec := "quantBack", inPlace := ["math.archFloor", "math.Float64bits", "math.Float64frombits", "math.archTrunc"], apart := false }
def QuantBackSaid : Prop := quantBackRow.holds Try.pinned (OpenSpec.ofChange quantBackSpec)

/-- ITS FALSE NEIGHBOUR: 'it returns false'. Refute it at one input. -/
def quantBackWrong : ChangeSpec := { name := "quantBack", fn := fun _ => fun
  | [d1, d2] => { results := [.lit (.bool false)], args := [d1, d2] }
  | _ => none }
def QuantBackWrongFalsely : Prop := quantBackRow.holds Try.pinned (OpenSpec.ofChange quantBackWrong)

/-- 'mosaiclaw08.QuantSigns': WHATEVER THE INPUT: true; the input reads as it did. -/
def quantSignsSpec : ChangeSpec := { name := "quantSigns", fn := fun _ => fun
  | [d1, d2] => { results := [.lit (.bool true)], args := [d1, d2] }
  | _ => none }
def quantSignsRow : OpenClaim := { program := "yteikdpagoojdlaa", sum := "fc6bd1f9350407d2be320b03635bc1e48f8bf89a908fc303ad9f1328292b3f77", func := "mosaic/mosaiclaw08.QuantSigns", spec := "quantSigns", inPlace := ["math.archFloor", "math.Float64bits", "math.Float64frombits", "math.archTrunc"], apart := false }
def QuantSignsSaid : Prop := quantSignsRow.holds Try.pinned (OpenSpec.ofChange quantSignsSpec)

/-- ITS FALSE NEIGHBOUR: 'it returns false'. Refute it at one input. -/
def quantSignsWrong : ChangeSpec := { name := "quantSigns", fn := fun _ => fun
  | [d1, d2] => { results := [.lit (.bool false)], args := [d1, d2] }
  | _ => none }
def QuantSignsWrongFalsely : Prop := quantSignsRow.holds Try.pinned (OpenSpec.ofChange quantSignsWrong)

/-- 'mosaiclaw08.QuantHalf': WHATEVER THE INPUT: true; the input reads as it did. -/
def quantHalfSpec : ChangeSpec := { name := "quantHalf", fn := fun _ => fun
  | [d1, d2] => { results := [.lit (.bool true)], args := [d1, d2] }
  | _ => none }
def quantHalfRow : OpenClaim := { program := "yteikdpagoojdlaa", sum := "fc6bd1f9350407d2be320b03635bc1e48f8bf89a908fc303ad9f1328292b3f77", func := "mosaic/mosaiclaw08.QuantHalf", spec := "quantHalf", inPlace := ["math.archFloor", "math.Float64bits", "math.Float64frombits", "math.archTrunc"], apart := false }
def QuantHalfSaid : Prop := quantHalfRow.holds Try.pinned (OpenSpec.ofChange quantHalfSpec)

/-- ITS FALSE NEIGHBOUR: 'it returns false'. Refute it at one input. -/
def quantHalfWrong : ChangeSpec := { name := "quantHalf", fn := fun _ => fun
  | [d1, d2] => { results := [.lit (.bool false)], args := [d1, d2] }
  | _ => none }
def QuantHalfWrongFalsely : Prop := quantHalfRow.holds Try.pinned (OpenSpec.ofChange quantHalfWrong)

/-- 'mosaiclaw08.QuantShares': WHATEVER THE INPUT: true; the input reads as it did. -/
def quantSharesSpec : ChangeSpec := { name := "quantShares", fn := fun _ => fun
  | [d1, d2] => { results := [.lit (.bool true)], args := [d1, d2] }
  | _ => none }
def quantSharesRow : OpenClaim := { program := "yteikdpagoojdlaa", sum := "fc6bd1f9350407d2be320b03635bc1e48f8bf89a908fc303ad9f1328292b3f77", func := "mosaic/mosaiclaw08.QuantShares", spec := "quantShares", inPlace := ["math.archFloor", "math.Float64bits", "math.Float64frombits", "math.archTrunc"], apart := false }
def QuantSharesSaid : Prop := quantSharesRow.holds Try.pinned (OpenSpec.ofChange quantSharesSpec)

/-- ITS FALSE NEIGHBOUR: 'it returns false'. Refute it at one input. -/
def quantSharesWrong : ChangeSpec := { name := "quantShares", fn := fun _ => fun
  | [d1, d2] => { results := [.lit (.bool false)], args := [d1, d2] }
  | _ => none }
def QuantSharesWrongFalsely : Prop := quantSharesRow.holds Try.pinned (OpenSpec.ofChange quantSharesWrong)

/-- 'mosaiclaw08.QuantBetter': WHATEVER THE INPUT: true; the input reads as it did. -/
def quantBetterSpec : ChangeSpec := { name := "quantBetter", fn := fun _ => fun
  | [d1, d2] => { results := [.lit (.bool true)], args := [d1, d2] }
  | _ => none }
def quantBetterRow : OpenClaim := { program := "yteikdpagoojdlaa", sum := "fc6bd1f9350407d2be320b03635bc1e48f8bf89a908fc303ad9f1328292b3f77", func := "mosaic/mosaiclaw08.QuantBetter", spec := "quantBetter", inPlace := ["math.archFloor", "math.Float64bits", "math.Float64frombits", "math.archTrunc"], apart := false }
def QuantBetterSaid : Prop := quantBetterRow.holds Try.pinned (OpenSpec.ofChange quantBetterSpec)

/-- ITS FALSE NEIGHBOUR: 'it returns false'. Refute it at one input. -/
def quantBetterWrong : ChangeSpec := { name := "quantBetter", fn := fun _ => fun
  | [d1, d2] => { results := [.lit (.bool false)], args := [d1, d2] }
  | _ => none }
def QuantBetterWrongFalsely : Prop := quantBetterRow.holds Try.pinned (OpenSpec.ofChange quantBetterWrong)

/- THE SECOND FORM. 'bulk': how many values and letters a reading holds, each counted each time it is reached (what is shared counts as often as it is met; a slice's spare places count too). A statement '..UptoSaid' is the law's where the arguments, and the package variables that the reading takes, are together of bulk at most 1048576: NARROWER than '..Said'. Prove '..Said' where nothing that the law and all that it calls make is longer than what came in: it says more and counts as full. Else prove '..UptoSaid'. A law counts once. -/
mutual
def uptoBulk {H : Type} : DataW H → Nat
  | .lit (.string bytes) => bytes.length + 1
  | .lit _ => 1
  | .nil => 1
  | .ptr d => uptoBulk d + 1
  | .slice elems spare => uptoBulkAll elems + uptoBulkAll spare + 1
  | .agg parts => uptoBulkAll parts + 1
  | .iface _ d => uptoBulk d + 1
  | .map entries => uptoBulkEntries entries + 1
  | .held _ => 1
def uptoBulkAll {H : Type} : List (DataW H) → Nat
  | [] => 0
  | d :: r => uptoBulk d + uptoBulkAll r
def uptoBulkEntries {H : Type} : List (Lit × DataW H) → Nat
  | [] => 0
  | x :: r => uptoBulkEntry x + uptoBulkEntries r
def uptoBulkEntry {H : Type} : Lit × DataW H → Nat
  | (.string bytes, d) => bytes.length + uptoBulk d + 1
  | (_, d) => uptoBulk d + 1
 end
def uptoSmall : (H : Type) → List (DataW H) → Bool := fun _ ds => decide (uptoBulkAll ds ≤ 1048576)
def OpenSpec.upto (s : _root_.Go.ChangeSpec) : _root_.Go.OpenSpec := { _root_.Go.OpenSpec.ofChange s with cond := some uptoSmall }

/-- 'mosaiclaw08.QuantCheck', WHERE WHAT IT READS IS OF BULK AT MOST 1048576: true; the input reads as it did. -/
def quantCheckUptoRow : OpenClaim := { program := "yteikdpagoojdlaa", sum := "fc6bd1f9350407d2be320b03635bc1e48f8bf89a908fc303ad9f1328292b3f77", func := "mosaic/mosaiclaw08.QuantCheck", spec := "quantCheck", apart := false, narrowed := true }
def QuantCheckUptoSaid : Prop := quantCheckUptoRow.holds Try.pinned (OpenSpec.upto quantCheckSpec)

/-- 'mosaiclaw08.QuantMakes', WHERE WHAT IT READS IS OF BULK AT MOST 1048576: true; the input reads as it did. -/
def quantMakesUptoRow : OpenClaim := { program := "yteikdpagoojdlaa", sum := "fc6bd1f9350407d2be320b03635bc1e48f8bf89a908fc303ad9f1328292b3f77", func := "mosaic/mosaiclaw08.QuantMakes", spec := "quantMakes", apart := false, narrowed := true }
def QuantMakesUptoSaid : Prop := quantMakesUptoRow.holds Try.pinned (OpenSpec.upto quantMakesSpec)

/-- 'mosaiclaw08.QuantNames', WHERE WHAT IT READS IS OF BULK AT MOST 1048576: true; the input reads as it did. -/
def quantNamesUptoRow : OpenClaim := { program := "yteikdpagoojdlaa", sum := "fc6bd1f9350407d2be320b03635bc1e48f8bf89a908fc303ad9f1328292b3f77", func := "mosaic/mosaiclaw08.QuantNames", spec := "quantNames", inPlace := ["math.archFloor", "math.Float64bits", "math.Float64frombits", "math.archTrunc"], apart := false, narrowed := true }
def QuantNamesUptoSaid : Prop := quantNamesUptoRow.holds Try.pinned (OpenSpec.upto quantNamesSpec)

/-- 'mosaiclaw08.QuantTable', WHERE WHAT IT READS IS OF BULK AT MOST 1048576: true; the input reads as it did. -/
def quantTableUptoRow : OpenClaim := { program := "yteikdpagoojdlaa", sum := "fc6bd1f9350407d2be320b03635bc1e48f8bf89a908fc303ad9f1328292b3f77", func := "mosaic/mosaiclaw08.QuantTable", spec := "quantTable", inPlace := ["math.archFloor", "math.Float64bits", "math.Float64frombits", "math.archTrunc"], apart := false, narrowed := true }
def QuantTableUptoSaid : Prop := quantTableUptoRow.holds Try.pinned (OpenSpec.upto quantTableSpec)

/-- 'mosaiclaw08.QuantBack', WHERE WHAT IT READS IS OF BULK AT MOST 1048576: true; the input reads as it did. -/
def quantBackUptoRow : OpenClaim := { program := "yteikdpagoojdlaa", sum := "fc6bd1f9350407d2be320b03635bc1e48f8bf89a908fc303ad9f1328292b3f77", func := "mosaic/mosaiclaw08.QuantBack", spec := "quantBack", inPlace := ["math.archFloor", "math.Float64bits", "math.Float64frombits", "math.archTrunc"], apart := false, narrowed := true }
def QuantBackUptoSaid : Prop := quantBackUptoRow.holds Try.pinned (OpenSpec.upto quantBackSpec)

/-- 'mosaiclaw08.QuantSigns', WHERE WHAT IT READS IS OF BULK AT MOST 1048576: true; the input reads as it did. -/
def quantSignsUptoRow : OpenClaim := { program := "yteikdpagoojdlaa", sum := "fc6bd1f9350407d2be320b03635bc1e48f8bf89a908fc303ad9f1328292b3f77", func := "mosaic/mosaiclaw08.QuantSigns", spec := "quantSigns", inPlace := ["math.archFloor", "math.Float64bits", "math.Float64frombits", "math.archTrunc"], apart := false, narrowed := true }
def QuantSignsUptoSaid : Prop := quantSignsUptoRow.holds Try.pinned (OpenSpec.upto quantSignsSpec)

/-- 'mosaiclaw08.QuantHalf', WHERE WHAT IT READS IS OF BULK AT MOST 1048576: true; the input reads as it did. -/
def quantHalfUptoRow : OpenClaim := { program := "yteikdpagoojdlaa", sum := "fc6bd1f9350407d2be320b03635bc1e48f8bf89a908fc303ad9f1328292b3f77", func := "mosaic/mosaiclaw08.QuantHalf", spec := "quantHalf", inPlace := ["math.archFloor", "math.Float64bits", "math.Float64frombits", "math.archTrunc"], apart := false, narrowed := true }
def QuantHalfUptoSaid : Prop := quantHalfUptoRow.holds Try.pinned (OpenSpec.upto quantHalfSpec)

/-- 'mosaiclaw08.QuantShares', WHERE WHAT IT READS IS OF BULK AT MOST 1048576: true; the input reads as it did. -/
def quantSharesUptoRow : OpenClaim := { program := "yteikdpagoojdlaa", sum := "fc6bd1f9350407d2be320b03635bc1e48f8bf89a908fc303ad9f1328292b3f77", func := "mosaic/mosaiclaw08.QuantShares", spec := "quantShares", inPlace := ["math.archFloor", "math.Float64bits", "math.Float64frombits", "math.archTrunc"], apart := false, narrowed := true }
def QuantSharesUptoSaid : Prop := quantSharesUptoRow.holds Try.pinned (OpenSpec.upto quantSharesSpec)

/-- 'mosaiclaw08.QuantBetter', WHERE WHAT IT READS IS OF BULK AT MOST 1048576: true; the input reads as it did. -/
def quantBetterUptoRow : OpenClaim := { program := "yteikdpagoojdlaa", sum := "fc6bd1f9350407d2be320b03635bc1e48f8bf89a908fc303ad9f1328292b3f77", func := "mosaic/mosaiclaw08.QuantBetter", spec := "quantBetter", inPlace := ["math.archFloor", "math.Float64bits", "math.Float64frombits", "math.archTrunc"], apart := false, narrowed := true }
def QuantBetterUptoSaid : Prop := quantBetterUptoRow.holds Try.pinned (OpenSpec.upto quantBetterSpec)

end Rows
end Go.Proofs.Yteikdpagoojdlaa
