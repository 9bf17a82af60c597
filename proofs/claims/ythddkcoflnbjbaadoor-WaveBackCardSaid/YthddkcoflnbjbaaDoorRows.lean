/-
  NARROWER THAN 'FOR EVERY INPUT', by the rows' own cells (each row's printed sentence says how): WaveMoved: laid · WaveOne: laid · WaveThere: laid · WaveSquares: laid · WaveNames: laid · WaveLevel: laid · WaveTurn: laid · WaveCosines: laid · WaveForward: laid · WaveBack: laid · WavePower: laid.
  DERIVED. THE GIVEN ROWS OF THIS SEAT. 11 by the template 'for every input the law returns true; each argument reads behind the call as it read before'; 0 by the template 'total and deterministic' (their statements: YthddkcoflnbjbaaDoorTotals.lean).
  GIVEN WITH THE SEED: the statements are not yours to turn. If you find one false, say at which input.
  Laid BY PROGRAM, IN A SANDBOX (cutbox-rows.mjs): the forced cells as the released guide's own fill.sh prints them over the translation 6c0a65edf843b899… (all of the seat's roots in one cut). By AI agents, Wed Nov 11 2026. No macro, syntax, notation, axiom, sorry.
-/
import Derived.Test.YthddkcoflnbjbaaDoorChecked
import GoSem.Claim
import GoSem.ClaimJoined
import GoSem.ClaimMapViews
import Derived.JoinedTies
import Derived.KernelRfl
namespace Go.Proofs.YthddkcoflnbjbaaDoor
/- THE CELL 'sum', in the pinned program and in every row, IS THE sha256 OF THE DUMP (.gsa) THAT YthddkcoflnbjbaaDoorProg.lean LOADS. Nothing in Lean hashes anything: it is a label: what it is worth is what the hold of that sum in a sandbox is worth. -/
noncomputable def Tryd.pinned : Pinned := { name := "ythddkcoflnbjbaadoor", sum := "6c0a65edf843b899c3cc8b43d79e21d122aeda1324d6e932021e1110100e65bc", checked := Tryd.checked }
namespace Rows
def none {H : Type} : Left H := { results := [], args := [] }

/- WHAT THE LISTED PACKAGE-LEVEL VARIABLES READ AS WHEN THE CALL BEGINS. Each datum BY PROGRAM (the guide's laid-datum.mjs) off the statement by which the dump's own 'gosem.cut.vars' lays the variable. In a bare row this is a premise. The card (YthddkcoflnbjbaaDoorCards.lean) ties it to the program's text. -/
def laid_math_sin {H : Type} : DataW H := .agg [.lit (.float .f64 4460209587652500685), .lit (.float .f64 13716528389658582877), .lit (.float .f64 4523617212962785441), .lit (.float .f64 13774824197404483331), .lit (.float .f64 4575957461383575504), .lit (.float .f64 13818544856648471880)]
def laid_math_cos {H : Type} : DataW H := .agg [.lit (.float .f64 13666448263388469915), .lit (.float .f64 4477121864728985349), .lit (.float .f64 13732177093698800582), .lit (.float .f64 4537941361668146421), .lit (.float .f64 13787419979223748497), .lit (.float .f64 4586165620538955083)]
def laid_math_mPi4 {H : Type} : DataW H := .agg [.lit (.int .u64 1), .lit (.int .u64 5040379952546458195), .lit (.int .u64 17892431488136887169), .lit (.int .u64 13169980181085364355), .lit (.int .u64 18204331823439776451), .lit (.int .u64 7946843935494350272), .lit (.int .u64 905889640498799673), .lit (.int .u64 18175356263134875261), .lit (.int .u64 15061281708168349961), .lit (.int .u64 15220161563773041794), .lit (.int .u64 8296664548579374057), .lit (.int .u64 4109744767560208502), .lit (.int .u64 4607516669194743839), .lit (.int .u64 16023283104648321598), .lit (.int .u64 15739233654134936430), .lit (.int .u64 11424645774684705882), .lit (.int .u64 16883842788696515318), .lit (.int .u64 8795094592981902804), .lit (.int .u64 15561835991111744016), .lit (.int .u64 12395701187267450711)]

/-- 'mosaiclaw10.WaveMoved': WHATEVER THE INPUT: true; the input reads as it did. -/
def waveMovedSpec : ChangeSpec := { name := "waveMoved", fn := fun _ => fun
  | [d] => { results := [.lit (.bool true)], args := [d] }
  | _ => none }
def waveMovedRow : OpenClaim := { program := "ythddkcoflnbjbaadoor", sum := "6c0a65edf843b899c3cc8b43d79e21d122aeda1324d6e932021e1110100e65bc", func := "mosaic/mosaiclaw10.WaveMoved", spec := "waveMoved", inPlace := ["math.Float64bits", "math.Float64frombits", "math/bits.Add64"], named := ["math._cos", "math._sin", "math.mPi4"], apart := false, laid := [("math._sin", laid_math_sin), ("math._cos", laid_math_cos), ("math.mPi4", laid_math_mPi4)] }
def WaveMovedSaid : Prop := waveMovedRow.holds Tryd.pinned (OpenSpec.ofChange waveMovedSpec)

/-- ITS FALSE NEIGHBOUR: 'it returns false'. Refute it at one input. -/
def waveMovedWrong : ChangeSpec := { name := "waveMoved", fn := fun _ => fun
  | [d] => { results := [.lit (.bool false)], args := [d] }
  | _ => none }
def WaveMovedWrongFalsely : Prop := waveMovedRow.holds Tryd.pinned (OpenSpec.ofChange waveMovedWrong)

/-- 'mosaiclaw10.WaveOne': WHATEVER THE INPUT: true; the input reads as it did. -/
def waveOneSpec : ChangeSpec := { name := "waveOne", fn := fun _ => fun
  | [d1, d2, d3] => { results := [.lit (.bool true)], args := [d1, d2, d3] }
  | _ => none }
def waveOneRow : OpenClaim := { program := "ythddkcoflnbjbaadoor", sum := "6c0a65edf843b899c3cc8b43d79e21d122aeda1324d6e932021e1110100e65bc", func := "mosaic/mosaiclaw10.WaveOne", spec := "waveOne", inPlace := ["math.Float64bits", "math.Float64frombits", "math/bits.Add64"], named := ["math._cos", "math._sin", "math.mPi4"], apart := false, laid := [("math._sin", laid_math_sin), ("math._cos", laid_math_cos), ("math.mPi4", laid_math_mPi4)] }
def WaveOneSaid : Prop := waveOneRow.holds Tryd.pinned (OpenSpec.ofChange waveOneSpec)

/-- ITS FALSE NEIGHBOUR: 'it returns false'. Refute it at one input. -/
def waveOneWrong : ChangeSpec := { name := "waveOne", fn := fun _ => fun
  | [d1, d2, d3] => { results := [.lit (.bool false)], args := [d1, d2, d3] }
  | _ => none }
def WaveOneWrongFalsely : Prop := waveOneRow.holds Tryd.pinned (OpenSpec.ofChange waveOneWrong)

/-- 'mosaiclaw10.WaveThere': WHATEVER THE INPUT: true; the input reads as it did. -/
def waveThereSpec : ChangeSpec := { name := "waveThere", fn := fun _ => fun
  | [d] => { results := [.lit (.bool true)], args := [d] }
  | _ => none }
def waveThereRow : OpenClaim := { program := "ythddkcoflnbjbaadoor", sum := "6c0a65edf843b899c3cc8b43d79e21d122aeda1324d6e932021e1110100e65bc", func := "mosaic/mosaiclaw10.WaveThere", spec := "waveThere", inPlace := ["math.Float64bits", "math.Float64frombits", "math/bits.Add64"], named := ["math._cos", "math._sin", "math.mPi4"], apart := false, laid := [("math._sin", laid_math_sin), ("math._cos", laid_math_cos), ("math.mPi4", laid_math_mPi4)] }
def WaveThereSaid : Prop := waveThereRow.holds Tryd.pinned (OpenSpec.ofChange waveThereSpec)

/-- ITS FALSE NEIGHBOUR: 'it returns false'. Refute it at one input. -/
def waveThereWrong : ChangeSpec := { name := "waveThere", fn := fun _ => fun
  | [d] => { results := [.lit (.bool false)], args := [d] }
  | _ => none }
def WaveThereWrongFalsely : Prop := waveThereRow.holds Tryd.pinned (OpenSpec.ofChange waveThereWrong)

/-- 'mosaiclaw10.WaveSquares': WHATEVER THE INPUT: true; the input reads as it did. -/
def waveSquaresSpec : ChangeSpec := { name := "waveSquares", fn := fun _ => fun
  | [d] => { results := [.lit (.bool true)], args := [d] }
  | _ => none }
def waveSquaresRow : OpenClaim := { program := "ythddkcoflnbjbaadoor", sum := "6c0a65edf843b899c3cc8b43d79e21d122aeda1324d6e932021e1110100e65bc", func := "mosaic/mosaiclaw10.WaveSquares", spec := "waveSquares", inPlace := ["math.Float64bits", "math.Float64frombits", "math/bits.Add64"], named := ["math._cos", "math._sin", "math.mPi4"], apart := false, laid := [("math._sin", laid_math_sin), ("math._cos", laid_math_cos), ("math.mPi4", laid_math_mPi4)] }
def WaveSquaresSaid : Prop := waveSquaresRow.holds Tryd.pinned (OpenSpec.ofChange waveSquaresSpec)

/-- ITS FALSE NEIGHBOUR: 'it returns false'. Refute it at one input. -/
def waveSquaresWrong : ChangeSpec := { name := "waveSquares", fn := fun _ => fun
  | [d] => { results := [.lit (.bool false)], args := [d] }
  | _ => none }
def WaveSquaresWrongFalsely : Prop := waveSquaresRow.holds Tryd.pinned (OpenSpec.ofChange waveSquaresWrong)

/-- 'mosaiclaw10.WaveNames': WHATEVER THE INPUT: true; the input reads as it did. -/
def waveNamesSpec : ChangeSpec := { name := "waveNames", fn := fun _ => fun
  | [] => { results := [.lit (.bool true)], args := [] }
  | _ => none }
def waveNamesRow : OpenClaim := { program := "ythddkcoflnbjbaadoor", sum := "6c0a65edf843b899c3cc8b43d79e21d122aeda1324d6e932021e1110100e65bc", func := "mosaic/mosaiclaw10.WaveNames", spec := "waveNames", inPlace := ["math.Float64bits", "math.Float64frombits", "math/bits.Add64"], named := ["math._cos", "math._sin", "math.mPi4"], apart := false, laid := [("math._sin", laid_math_sin), ("math._cos", laid_math_cos), ("math.mPi4", laid_math_mPi4)] }
def WaveNamesSaid : Prop := waveNamesRow.holds Tryd.pinned (OpenSpec.ofChange waveNamesSpec)

/-- ITS FALSE NEIGHBOUR: 'it returns false'. Refute it at one input. -/
def waveNamesWrong : ChangeSpec := { name := "waveNames", fn := fun _ => fun
  | [] => { results := [.lit (.bool false)], args := [] }
  | _ => none }
def WaveNamesWrongFalsely : Prop := waveNamesRow.holds Tryd.pinned (OpenSpec.ofChange waveNamesWrong)

/-- 'mosaiclaw10.WaveLevel': WHATEVER THE INPUT: true; the input reads as it did. -/
def waveLevelSpec : ChangeSpec := { name := "waveLevel", fn := fun _ => fun
  | [d1, d2] => { results := [.lit (.bool true)], args := [d1, d2] }
  | _ => none }
def waveLevelRow : OpenClaim := { program := "ythddkcoflnbjbaadoor", sum := "6c0a65edf843b899c3cc8b43d79e21d122aeda1324d6e932021e1110100e65bc", func := "mosaic/mosaiclaw10.WaveLevel", spec := "waveLevel", inPlace := ["math.Float64bits", "math.Float64frombits", "math/bits.Add64", "math.sqrt"], named := ["math._cos", "math._sin", "math.mPi4"], apart := false, laid := [("math._sin", laid_math_sin), ("math._cos", laid_math_cos), ("math.mPi4", laid_math_mPi4)] }
def WaveLevelSaid : Prop := waveLevelRow.holds Tryd.pinned (OpenSpec.ofChange waveLevelSpec)

/-- ITS FALSE NEIGHBOUR: 'it returns false'. Refute it at one input. -/
def waveLevelWrong : ChangeSpec := { name := "waveLevel", fn := fun _ => fun
  | [d1, d2] => { results := [.lit (.bool false)], args := [d1, d2] }
  | _ => none }
def WaveLevelWrongFalsely : Prop := waveLevelRow.holds Tryd.pinned (OpenSpec.ofChange waveLevelWrong)

/-- 'mosaiclaw10.WaveTurn': WHATEVER THE INPUT: true; the input reads as it did. -/
def waveTurnSpec : ChangeSpec := { name := "waveTurn", fn := fun _ => fun
  | [d1, d2] => { results := [.lit (.bool true)], args := [d1, d2] }
  | _ => none }
def waveTurnRow : OpenClaim := { program := "ythddkcoflnbjbaadoor", sum := "6c0a65edf843b899c3cc8b43d79e21d122aeda1324d6e932021e1110100e65bc", func := "mosaic/mosaiclaw10.WaveTurn", spec := "waveTurn", inPlace := ["math.Float64bits", "math.Float64frombits", "math/bits.Add64"], named := ["math._cos", "math._sin", "math.mPi4"], apart := false, laid := [("math._sin", laid_math_sin), ("math._cos", laid_math_cos), ("math.mPi4", laid_math_mPi4)] }
def WaveTurnSaid : Prop := waveTurnRow.holds Tryd.pinned (OpenSpec.ofChange waveTurnSpec)

/-- ITS FALSE NEIGHBOUR: 'it returns false'. Refute it at one input. -/
def waveTurnWrong : ChangeSpec := { name := "waveTurn", fn := fun _ => fun
  | [d1, d2] => { results := [.lit (.bool false)], args := [d1, d2] }
  | _ => none }
def WaveTurnWrongFalsely : Prop := waveTurnRow.holds Tryd.pinned (OpenSpec.ofChange waveTurnWrong)

/-- 'mosaiclaw10.WaveCosines': WHATEVER THE INPUT: true; the input reads as it did. -/
def waveCosinesSpec : ChangeSpec := { name := "waveCosines", fn := fun _ => fun
  | [d] => { results := [.lit (.bool true)], args := [d] }
  | _ => none }
def waveCosinesRow : OpenClaim := { program := "ythddkcoflnbjbaadoor", sum := "6c0a65edf843b899c3cc8b43d79e21d122aeda1324d6e932021e1110100e65bc", func := "mosaic/mosaiclaw10.WaveCosines", spec := "waveCosines", inPlace := ["math.Float64bits", "math.Float64frombits", "math/bits.Add64", "math.sqrt"], named := ["math._cos", "math._sin", "math.mPi4"], apart := false, laid := [("math._sin", laid_math_sin), ("math._cos", laid_math_cos), ("math.mPi4", laid_math_mPi4)] }
def WaveCosinesSaid : Prop := waveCosinesRow.holds Tryd.pinned (OpenSpec.ofChange waveCosinesSpec)

/-- ITS FALSE NEIGHBOUR: 'it returns false'. Refute it at one input. -/
def waveCosinesWrong : ChangeSpec := { name := "waveCosines", fn := fun _ => fun
  | [d] => { results := [.lit (.bool false)], args := [d] }
  | _ => none }
def WaveCosinesWrongFalsely : Prop := waveCosinesRow.holds Tryd.pinned (OpenSpec.ofChange waveCosinesWrong)

/-- 'mosaiclaw10.WaveForward': WHATEVER THE INPUT: true; the input reads as it did. -/
def waveForwardSpec : ChangeSpec := { name := "waveForward", fn := fun _ => fun
  | [d1, d2] => { results := [.lit (.bool true)], args := [d1, d2] }
  | _ => none }
def waveForwardRow : OpenClaim := { program := "ythddkcoflnbjbaadoor", sum := "6c0a65edf843b899c3cc8b43d79e21d122aeda1324d6e932021e1110100e65bc", func := "mosaic/mosaiclaw10.WaveForward", spec := "waveForward", inPlace := ["math.Float64bits", "math.Float64frombits", "math/bits.Add64"], named := ["math._sin", "math._cos", "math.mPi4"], apart := false, laid := [("math._sin", laid_math_sin), ("math._cos", laid_math_cos), ("math.mPi4", laid_math_mPi4)] }
def WaveForwardSaid : Prop := waveForwardRow.holds Tryd.pinned (OpenSpec.ofChange waveForwardSpec)

/-- ITS FALSE NEIGHBOUR: 'it returns false'. Refute it at one input. -/
def waveForwardWrong : ChangeSpec := { name := "waveForward", fn := fun _ => fun
  | [d1, d2] => { results := [.lit (.bool false)], args := [d1, d2] }
  | _ => none }
def WaveForwardWrongFalsely : Prop := waveForwardRow.holds Tryd.pinned (OpenSpec.ofChange waveForwardWrong)

/-- 'mosaiclaw10.WaveBack': WHATEVER THE INPUT: true; the input reads as it did. -/
def waveBackSpec : ChangeSpec := { name := "waveBack", fn := fun _ => fun
  | [d1, d2] => { results := [.lit (.bool true)], args := [d1, d2] }
  | _ => none }
def waveBackRow : OpenClaim := { program := "ythddkcoflnbjbaadoor", sum := "6c0a65edf843b899c3cc8b43d79e21d122aeda1324d6e932021e1110100e65bc", func := "mosaic/mosaiclaw10.WaveBack", spec := "waveBack", inPlace := ["math.Float64bits", "math.Float64frombits", "math/bits.Add64"], named := ["math._sin", "math._cos", "math.mPi4"], apart := false, laid := [("math._sin", laid_math_sin), ("math._cos", laid_math_cos), ("math.mPi4", laid_math_mPi4)] }
def WaveBackSaid : Prop := waveBackRow.holds Tryd.pinned (OpenSpec.ofChange waveBackSpec)

/-- ITS FALSE NEIGHBOUR: 'it returns false'. Refute it at one input. -/
def waveBackWrong : ChangeSpec := { name := "waveBack", fn := fun _ => fun
  | [d1, d2] => { results := [.lit (.bool false)], args := [d1, d2] }
  | _ => none }
def WaveBackWrongFalsely : Prop := waveBackRow.holds Tryd.pinned (OpenSpec.ofChange waveBackWrong)

/-- 'mosaiclaw10.WavePower': WHATEVER THE INPUT: true; the input reads as it did. -/
def wavePowerSpec : ChangeSpec := { name := "wavePower", fn := fun _ => fun
  | [d] => { results := [.lit (.bool true)], args := [d] }
  | _ => none }
def wavePowerRow : OpenClaim := { program := "ythddkcoflnbjbaadoor", sum := "6c0a65edf843b899c3cc8b43d79e21d122aeda1324d6e932021e1110100e65bc", func := "mosaic/mosaiclaw10.WavePower", spec := "wavePower", inPlace := ["math.Float64bits", "math.Float64frombits", "math/bits.Add64"], named := ["math._sin", "math._cos", "math.mPi4"], apart := false, laid := [("math._sin", laid_math_sin), ("math._cos", laid_math_cos), ("math.mPi4", laid_math_mPi4)] }
def WavePowerSaid : Prop := wavePowerRow.holds Tryd.pinned (OpenSpec.ofChange wavePowerSpec)

/-- ITS FALSE NEIGHBOUR: 'it returns false'. Refute it at one input. -/
def wavePowerWrong : ChangeSpec := { name := "wavePower", fn := fun _ => fun
  | [d] => { results := [.lit (.bool false)], args := [d] }
  | _ => none }
def WavePowerWrongFalsely : Prop := wavePowerRow.holds Tryd.pinned (OpenSpec.ofChange wavePowerWrong)

/- THE SECOND FORM. 'bulk': how many values and letters a reading holds, each counted each time it is reached (what is shared counts as often as it is met; a slice's spare places count too). A statement '..UptoSaid' is the law's where the arguments, and the package variables that the reading takes, are together of bulk at most 1048576: NARROWER than '..Said'. Prove '..Said' where nothing that the law and all that it calls make is longer than what came in: it says more and counts as full. Else prove '..UptoSaid'. A law counts once. -/
mutual
def uptoBulk {H : Type} : DataW H → Nat
  | .lit (.string bytes) => bytes.length + 1
  | .lit _ => 1
  | .nil => 1
  | .ptr d => uptoBulk d + 1
  | .slice elems spare => uptoBulkAll elems + uptoBulkAll spare + 1
  | .agg parts => uptoBulkAll parts + 1
  | .iface _ d => uptoBulk d + 1
  | .map entries => uptoBulkEntries entries + 1
  | .held _ => 1
def uptoBulkAll {H : Type} : List (DataW H) → Nat
  | [] => 0
  | d :: r => uptoBulk d + uptoBulkAll r
def uptoBulkEntries {H : Type} : List (Lit × DataW H) → Nat
  | [] => 0
  | x :: r => uptoBulkEntry x + uptoBulkEntries r
def uptoBulkEntry {H : Type} : Lit × DataW H → Nat
  | (.string bytes, d) => bytes.length + uptoBulk d + 1
  | (_, d) => uptoBulk d + 1
 end
def uptoSmall : (H : Type) → List (DataW H) → Bool := fun _ ds => decide (uptoBulkAll ds ≤ 1048576)
def OpenSpec.upto (s : _root_.Go.ChangeSpec) : _root_.Go.OpenSpec := { _root_.Go.OpenSpec.ofChange s with cond := some uptoSmall }

/-- 'mosaiclaw10.WaveMoved', WHERE WHAT IT READS IS OF BULK AT MOST 1048576: true; the input reads as it did. -/
def waveMovedUptoRow : OpenClaim := { program := "ythddkcoflnbjbaadoor", sum := "6c0a65edf843b899c3cc8b43d79e21d122aeda1324d6e932021e1110100e65bc", func := "mosaic/mosaiclaw10.WaveMoved", spec := "waveMoved", inPlace := ["math.Float64bits", "math.Float64frombits", "math/bits.Add64"], named := ["math._cos", "math._sin", "math.mPi4"], apart := false, laid := [("math._sin", laid_math_sin), ("math._cos", laid_math_cos), ("math.mPi4", laid_math_mPi4)], narrowed := true }
def WaveMovedUptoSaid : Prop := waveMovedUptoRow.holds Tryd.pinned (OpenSpec.upto waveMovedSpec)

/-- 'mosaiclaw10.WaveOne', WHERE WHAT IT READS IS OF BULK AT MOST 1048576: true; the input reads as it did. -/
def waveOneUptoRow : OpenClaim := { program := "ythddkcoflnbjbaadoor", sum := "6c0a65edf843b899c3cc8b43d79e21d122aeda1324d6e932021e1110100e65bc", func := "mosaic/mosaiclaw10.WaveOne", spec := "waveOne", inPlace := ["math.Float64bits", "math.Float64frombits", "math/bits.Add64"], named := ["math._cos", "math._sin", "math.mPi4"], apart := false, laid := [("math._sin", laid_math_sin), ("math._cos", laid_math_cos), ("math.mPi4", laid_math_mPi4)], narrowed := true }
def WaveOneUptoSaid : Prop := waveOneUptoRow.holds Tryd.pinned (OpenSpec.upto waveOneSpec)

/-- 'mosaiclaw10.WaveThere', WHERE WHAT IT READS IS OF BULK AT MOST 1048576: true; the input reads as it did. -/
def waveThereUptoRow : OpenClaim := { program := "ythddkcoflnbjbaadoor", sum := "6c0a65edf843b899c3cc8b43d79e21d122aeda1324d6e932021e1110100e65bc", func := "mosaic/mosaiclaw10.WaveThere", spec := "waveThere", inPlace := ["math.Float64bits", "math.Float64frombits", "math/bits.Add64"], named := ["math._cos", "math._sin", "math.mPi4"], apart := false, laid := [("math._sin", laid_math_sin), ("math._cos", laid_math_cos), ("math.mPi4", laid_math_mPi4)], narrowed := true }
def WaveThereUptoSaid : Prop := waveThereUptoRow.holds Tryd.pinned (OpenSpec.upto waveThereSpec)

/-- 'mosaiclaw10.WaveSquares', WHERE WHAT IT READS IS OF BULK AT MOST 1048576: true; the input reads as it did. -/
def waveSquaresUptoRow : OpenClaim := { program := "ythddkcoflnbjbaadoor", sum := "6c0a65edf843b899c3cc8b43d79e21d122aeda1324d6e932021e1110100e65bc", func := "mosaic/mosaiclaw10.WaveSquares", spec := "waveSquares", inPlace := ["math.Float64bits", "math.Float64frombits", "math/bits.Add64"], named := ["math._cos", "math._sin", "math.mPi4"], apart := false, laid := [("math._sin", laid_math_sin), ("math._cos", laid_math_cos), ("math.mPi4", laid_math_mPi4)], narrowed := true }
def WaveSquaresUptoSaid : Prop := waveSquaresUptoRow.holds Tryd.pinned (OpenSpec.upto waveSquaresSpec)

/-- 'mosaiclaw10.WaveNames', WHERE WHAT IT READS IS OF BULK AT MOST 1048576: true; the input reads as it did. -/
def waveNamesUptoRow : OpenClaim := { program := "ythddkcoflnbjbaadoor", sum := "6c0a65edf843b899c3cc8b43d79e21d122aeda1324d6e932021e1110100e65bc", func := "mosaic/mosaiclaw10.WaveNames", spec := "waveNames", inPlace := ["math.Float64bits", "math.Float64frombits", "math/bits.Add64"], named := ["math._cos", "math._sin", "math.mPi4"], apart := false, laid := [("math._sin", laid_math_sin), ("math._cos", laid_math_cos), ("math.mPi4", laid_math_mPi4)], narrowed := true }
def WaveNamesUptoSaid : Prop := waveNamesUptoRow.holds Tryd.pinned (OpenSpec.upto waveNamesSpec)

/-- 'mosaiclaw10.WaveLevel', WHERE WHAT IT READS IS OF BULK AT MOST 1048576: true; the input reads as it did. -/
def waveLevelUptoRow : OpenClaim := { program := "ythddkcoflnbjbaadoor", sum := "6c0a65edf843b899c3cc8b43d79e21d122aeda1324d6e932021e1110100e65bc", func := "mosaic/mosaiclaw10.WaveLevel", spec := "waveLevel", inPlace := ["math.Float64bits", "math.Float64frombits", "math/bits.Add64", "math.sqrt"], named := ["math._cos", "math._sin", "math.mPi4"], apart := false, laid := [("math._sin", laid_math_sin), ("math._cos", laid_math_cos), ("math.mPi4", laid_math_mPi4)], narrowed := true }
def WaveLevelUptoSaid : Prop := waveLevelUptoRow.holds Tryd.pinned (OpenSpec.upto waveLevelSpec)

/-- 'mosaiclaw10.WaveTurn', WHERE WHAT IT READS IS OF BULK AT MOST 1048576: true; the input reads as it did. -/
def waveTurnUptoRow : OpenClaim := { program := "ythddkcoflnbjbaadoor", sum := "6c0a65edf843b899c3cc8b43d79e21d122aeda1324d6e932021e1110100e65bc", func := "mosaic/mosaiclaw10.WaveTurn", spec := "waveTurn", inPlace := ["math.Float64bits", "math.Float64frombits", "math/bits.Add64"], named := ["math._cos", "math._sin", "math.mPi4"], apart := false, laid := [("math._sin", laid_math_sin), ("math._cos", laid_math_cos), ("math.mPi4", laid_math_mPi4)], narrowed := true }
def WaveTurnUptoSaid : Prop := waveTurnUptoRow.holds Tryd.pinned (OpenSpec.upto waveTurnSpec)

/-- 'mosaiclaw10.WaveCosines', WHERE WHAT IT READS IS OF BULK AT MOST 1048576: true; the input reads as it did. -/
def waveCosinesUptoRow : OpenClaim := { program := "ythddkcoflnbjbaadoor", sum := "6c0a65edf843b899c3cc8b43d79e21d122aeda1324d6e932021e1110100e65bc", func := "mosaic/mosaiclaw10.WaveCosines", spec := "waveCosines", inPlace := ["math.Float64bits", "math.Float64frombits", "math/bits.Add64", "math.sqrt"], named := ["math._cos", "math._sin", "math.mPi4"], apart := false, laid := [("math._sin", laid_math_sin), ("math._cos", laid_math_cos), ("math.mPi4", laid_math_mPi4)], narrowed := true }
def WaveCosinesUptoSaid : Prop := waveCosinesUptoRow.holds Tryd.pinned (OpenSpec.upto waveCosinesSpec)

/-- 'mosaiclaw10.WaveForward', WHERE WHAT IT READS IS OF BULK AT MOST 1048576: true; the input reads as it did. -/
def waveForwardUptoRow : OpenClaim := { program := "ythddkcoflnbjbaadoor", sum := "6c0a65edf843b899c3cc8b43d79e21d122aeda1324d6e932021e1110100e65bc", func := "mosaic/mosaiclaw10.WaveForward", spec := "waveForward", inPlace := ["math.Float64bits", "math.Float64frombits", "math/bits.Add64"], named := ["math._sin", "math._cos", "math.mPi4"], apart := false, laid := [("math._sin", laid_math_sin), ("math._cos", laid_math_cos), ("math.mPi4", laid_math_mPi4)], narrowed := true }
def WaveForwardUptoSaid : Prop := waveForwardUptoRow.holds Tryd.pinned (OpenSpec.upto waveForwardSpec)

/-- 'mosaiclaw10.WaveBack', WHERE WHAT IT READS IS OF BULK AT MOST 1048576: true; the input reads as it did. -/
def waveBackUptoRow : OpenClaim := { program := "ythddkcoflnbjbaadoor", sum := "6c0a65edf843b899c3cc8b43d79e21d122aeda1324d6e932021e1110100e65bc", func := "mosaic/mosaiclaw10.WaveBack", spec := "waveBack", inPlace := ["math.Float64bits", "math.Float64frombits", "math/bits.Add64"], named := ["math._sin", "math._cos", "math.mPi4"], apart := false, laid := [("math._sin", laid_math_sin), ("math._cos", laid_math_cos), ("math.mPi4", laid_math_mPi4)], narrowed := true }
def WaveBackUptoSaid : Prop := waveBackUptoRow.holds Tryd.pinned (OpenSpec.upto waveBackSpec)

/-- 'mosaiclaw10.WavePower', WHERE WHAT IT READS IS OF BULK AT MOST 1048576: true; the input reads as it did. -/
def wavePowerUptoRow : OpenClaim := { program := "ythddkcoflnbjbaadoor", sum := "6c0a65edf843b899c3cc8b43d79e21d122aeda1324d6e932021e1110100e65bc", func := "mosaic/mosaiclaw10.WavePower", spec := "wavePower", inPlace := ["math.Float64bits", "math.Float64frombits", "math/bits.Add64"], named := ["math._sin", "math._cos", "math.mPi4"], apart := false, laid := [("math._sin", laid_math_sin), ("math._cos", laid_math_cos), ("math.mPi4", laid_math_mPi4)], narrowed := true }
def WavePowerUptoSaid : Prop := wavePowerUptoRow.holds Tryd.pinned (OpenSpec.upto wavePowerSpec)

end Rows
end Go.Proofs.YthddkcoflnbjbaaDoor
