/-
  No cell of these rows narrows 'for every input' (looked for: loops, veiled, ifaces, maps, wideKeys, modest, calm, conditions, laid).
  DERIVED. THE GIVEN ROWS OF THIS SEAT. 3 by the template 'for every input the law returns true; each argument reads behind the call as it read before'; 0 by the template 'total and deterministic' (their statements: YtgpbpgbokfdbeaaTotals.lean).
  GIVEN WITH THE SEED: the statements are not yours to turn. If you find one false, say at which input.
  Laid BY PROGRAM, IN A SANDBOX (cutbox-rows.mjs): the forced cells as the released guide's own fill.sh prints them over the translation 62504927d65daa8b… (all of the seat's roots in one cut). By AI agents, Wed Nov 11 2026. No macro, syntax, notation, axiom, sorry.
-/
import Derived.Test.YtgpbpgbokfdbeaaChecked
import GoSem.Claim
import GoSem.ClaimJoined
import GoSem.ClaimMapViews
import Derived.JoinedTies
import Derived.KernelRfl
namespace Go.Proofs.Ytgpbpgbokfdbeaa
/- THE CELL 'sum', in the pinned program and in every row, IS THE sha256 OF THE DUMP (.gsa) THAT YtgpbpgbokfdbeaaProg.lean LOADS. Nothing in Lean hashes anything: it is a label: what it is worth is what the hold of that sum in a sandbox is worth. -/
noncomputable def Try.pinned : Pinned := { name := "ytgpbpgbokfdbeaa", sum := "62504927d65daa8b46bd3096fbcb207a74d5639037627254d982114d441a5ae4", checked := Try.checked }
namespace Rows
def none {H : Type} : Left H := { results := [], args := [] }

/-- 'mosaictop.TopReal': WHATEVER THE INPUT: true; the input reads as it did. -/
def topRealSpec : ChangeSpec := { name := "topReal", fn := fun _ => fun
  | [d1, d2, d3] => { results := [.lit (.bool true)], args := [d1, d2, d3] }
  | _ => none }
def topRealRow : OpenClaim := { program := "ytgpbpgbokfdbeaa", sum := "62504927d65daa8b46bd3096fbcb207a74d5639037627254d982114d441a5ae4", func := "mosaic/mosaictop.TopReal", spec := "topReal", apart := false }
def TopRealSaid : Prop := topRealRow.holds Try.pinned (OpenSpec.ofChange topRealSpec)

/-- ITS FALSE NEIGHBOUR: 'it returns false'. Refute it at one input. -/
def topRealWrong : ChangeSpec := { name := "topReal", fn := fun _ => fun
  | [d1, d2, d3] => { results := [.lit (.bool false)], args := [d1, d2, d3] }
  | _ => none }
def TopRealWrongFalsely : Prop := topRealRow.holds Try.pinned (OpenSpec.ofChange topRealWrong)

/-- 'mosaictop.TopTurn': WHATEVER THE INPUT: true; the input reads as it did. -/
def topTurnSpec : ChangeSpec := { name := "topTurn", fn := fun _ => fun
  | [d1, d2, d3] => { results := [.lit (.bool true)], args := [d1, d2, d3] }
  | _ => none }
def topTurnRow : OpenClaim := { program := "ytgpbpgbokfdbeaa", sum := "62504927d65daa8b46bd3096fbcb207a74d5639037627254d982114d441a5ae4", func := "mosaic/mosaictop.TopTurn", spec := "topTurn", unfollowed := true, recurses := true, apart := false }
def TopTurnSaid : Prop := topTurnRow.holds Try.pinned (OpenSpec.ofChange topTurnSpec)

/-- ITS FALSE NEIGHBOUR: 'it returns false'. Refute it at one input. -/
def topTurnWrong : ChangeSpec := { name := "topTurn", fn := fun _ => fun
  | [d1, d2, d3] => { results := [.lit (.bool false)], args := [d1, d2, d3] }
  | _ => none }
def TopTurnWrongFalsely : Prop := topTurnRow.holds Try.pinned (OpenSpec.ofChange topTurnWrong)

/-- 'mosaictop.TopTurned': WHATEVER THE INPUT: true; the input reads as it did. -/
def topTurnedSpec : ChangeSpec := { name := "topTurned", fn := fun _ => fun
  | [d1, d2] => { results := [.lit (.bool true)], args := [d1, d2] }
  | _ => none }
def topTurnedRow : OpenClaim := { program := "ytgpbpgbokfdbeaa", sum := "62504927d65daa8b46bd3096fbcb207a74d5639037627254d982114d441a5ae4", func := "mosaic/mosaictop.TopTurned", spec := "topTurned", unfollowed := true, recurses := true, apart := false }
def TopTurnedSaid : Prop := topTurnedRow.holds Try.pinned (OpenSpec.ofChange topTurnedSpec)

/-- ITS FALSE NEIGHBOUR: 'it returns false'. Refute it at one input. -/
def topTurnedWrong : ChangeSpec := { name := "topTurned", fn := fun _ => fun
  | [d1, d2] => { results := [.lit (.bool false)], args := [d1, d2] }
  | _ => none }
def TopTurnedWrongFalsely : Prop := topTurnedRow.holds Try.pinned (OpenSpec.ofChange topTurnedWrong)

/- THE SECOND FORM. 'bulk': how many values and letters a reading holds, each counted each time it is reached (what is shared counts as often as it is met; a slice's spare places count too). A statement '..UptoSaid' is the law's where the arguments, and the package variables that the reading takes, are together of bulk at most 1048576: NARROWER than '..Said'. Prove '..Said' where nothing that the law and all that it calls make is longer than what came in: it says more and counts as full. Else prove '..UptoSaid'. A law counts once. -/
mutual
def uptoBulk {H : Type} : DataW H → Nat
  | .lit (.string bytes) => bytes.length + 1
  | .lit _ => 1
  | .nil => 1
  | .ptr d => uptoBulk d + 1
  | .slice elems spare => uptoBulkAll elems + uptoBulkAll spare + 1
  | .agg parts => uptoBulkAll parts + 1
  | .iface _ d => uptoBulk d + 1
  | .map entries => uptoBulkEntries entries + 1
  | .held _ => 1
def uptoBulkAll {H : Type} : List (DataW H) → Nat
  | [] => 0
  | d :: r => uptoBulk d + uptoBulkAll r
def uptoBulkEntries {H : Type} : List (Lit × DataW H) → Nat
  | [] => 0
  | x :: r => uptoBulkEntry x + uptoBulkEntries r
def uptoBulkEntry {H : Type} : Lit × DataW H → Nat
  | (.string bytes, d) => bytes.length + uptoBulk d + 1
  | (_, d) => uptoBulk d + 1
 end
def uptoSmall : (H : Type) → List (DataW H) → Bool := fun _ ds => decide (uptoBulkAll ds ≤ 1048576)
def OpenSpec.upto (s : _root_.Go.ChangeSpec) : _root_.Go.OpenSpec := { _root_.Go.OpenSpec.ofChange s with cond := some uptoSmall }

/-- 'mosaictop.TopReal', WHERE WHAT IT READS IS OF BULK AT MOST 1048576: true; the input reads as it did. -/
def topRealUptoRow : OpenClaim := { program := "ytgpbpgbokfdbeaa", sum := "62504927d65daa8b46bd3096fbcb207a74d5639037627254d982114d441a5ae4", func := "mosaic/mosaictop.TopReal", spec := "topReal", apart := false, narrowed := true }
def TopRealUptoSaid : Prop := topRealUptoRow.holds Try.pinned (OpenSpec.upto topRealSpec)

/-- 'mosaictop.TopTurn', WHERE WHAT IT READS IS OF BULK AT MOST 1048576: true; the input reads as it did. -/
def topTurnUptoRow : OpenClaim := { program := "ytgpbpgbokfdbeaa", sum := "62504927d65daa8b46bd3096fbcb207a74d5639037627254d982114d441a5ae4", func := "mosaic/mosaictop.TopTurn", spec := "topTurn", unfollowed := true, recurses := true, apart := false, narrowed := true }
def TopTurnUptoSaid : Prop := topTurnUptoRow.holds Try.pinned (OpenSpec.upto topTurnSpec)

/-- 'mosaictop.TopTurned', WHERE WHAT IT READS IS OF BULK AT MOST 1048576: true; the input reads as it did. -/
def topTurnedUptoRow : OpenClaim := { program := "ytgpbpgbokfdbeaa", sum := "62504927d65daa8b46bd3096fbcb207a74d5639037627254d982114d441a5ae4", func := "mosaic/mosaictop.TopTurned", spec := "topTurned", unfollowed := true, recurses := true, apart := false, narrowed := true }
def TopTurnedUptoSaid : Prop := topTurnedUptoRow.holds Try.pinned (OpenSpec.upto topTurnedSpec)

end Rows
end Go.Proofs.Ytgpbpgbokfdbeaa
