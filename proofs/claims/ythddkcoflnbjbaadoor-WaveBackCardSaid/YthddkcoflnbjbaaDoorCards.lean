/-
  DERIVED. GIVEN WITH THE SEED: THE CARDS: each row of YthddkcoflnbjbaaDoorRows.lean that lists a variable, with what it lists TIED to the program's text (the seventh form; the later family's looks); each row that meets fmt, with fmt's text TOLD by the authors' own Lean function (tested against real Go, not proved from fmt's source: count such statements apart). THE CARD IS WHAT COUNTS. Prove the row's statement (the work); the ties are given (YthddkcoflnbjbaaDoorTie.lean); close each card by the builder's one call (the guide's Derived/Test/ToyasCard.lean, 'card_holds'). Laid BY PROGRAM, IN A SANDBOX (cutbox-door.mjs). By AI agents, Wed Nov 11 2026. No macro, syntax, notation, axiom, sorry.
-/
import Derived.Test.YthddkcoflnbjbaaDoorRows
import GoSem.ClaimSeven
namespace Go.Proofs.YthddkcoflnbjbaaDoor
namespace Rows

/-- THE TIED CARD OF 'mosaiclaw10.WaveMoved'. -/
def waveMovedCard : Claim7 := { stood := { row := waveMovedRow, standIns := [], harness := (true, "64f665cba229d838b4d86acaf484c030de00a2b2f6918ffba14e4cc14601c230"), looks := false }, kinds := [], alts := [], laidByText := true, laidKinds := [.data, .data, .data], laidTests := true, laidLooks := .later }
def WaveMovedCardSaid : Prop := Claim7.holds Tryd.pinned (.plain (OpenSpec.ofChange waveMovedSpec)) waveMovedCard

/-- THE TIED CARD OF 'mosaiclaw10.WaveOne'. -/
def waveOneCard : Claim7 := { stood := { row := waveOneRow, standIns := [], harness := (true, "64f665cba229d838b4d86acaf484c030de00a2b2f6918ffba14e4cc14601c230"), looks := false }, kinds := [], alts := [], laidByText := true, laidKinds := [.data, .data, .data], laidTests := true, laidLooks := .later }
def WaveOneCardSaid : Prop := Claim7.holds Tryd.pinned (.plain (OpenSpec.ofChange waveOneSpec)) waveOneCard

/-- THE TIED CARD OF 'mosaiclaw10.WaveThere'. -/
def waveThereCard : Claim7 := { stood := { row := waveThereRow, standIns := [], harness := (true, "64f665cba229d838b4d86acaf484c030de00a2b2f6918ffba14e4cc14601c230"), looks := false }, kinds := [], alts := [], laidByText := true, laidKinds := [.data, .data, .data], laidTests := true, laidLooks := .later }
def WaveThereCardSaid : Prop := Claim7.holds Tryd.pinned (.plain (OpenSpec.ofChange waveThereSpec)) waveThereCard

/-- THE TIED CARD OF 'mosaiclaw10.WaveSquares'. -/
def waveSquaresCard : Claim7 := { stood := { row := waveSquaresRow, standIns := [], harness := (true, "64f665cba229d838b4d86acaf484c030de00a2b2f6918ffba14e4cc14601c230"), looks := false }, kinds := [], alts := [], laidByText := true, laidKinds := [.data, .data, .data], laidTests := true, laidLooks := .later }
def WaveSquaresCardSaid : Prop := Claim7.holds Tryd.pinned (.plain (OpenSpec.ofChange waveSquaresSpec)) waveSquaresCard

/-- THE TIED CARD OF 'mosaiclaw10.WaveNames'. -/
def waveNamesCard : Claim7 := { stood := { row := waveNamesRow, standIns := [], harness := (true, "64f665cba229d838b4d86acaf484c030de00a2b2f6918ffba14e4cc14601c230"), looks := false }, kinds := [], alts := [], laidByText := true, laidKinds := [.data, .data, .data], laidTests := true, laidLooks := .later }
def WaveNamesCardSaid : Prop := Claim7.holds Tryd.pinned (.plain (OpenSpec.ofChange waveNamesSpec)) waveNamesCard

/-- THE TIED CARD OF 'mosaiclaw10.WaveLevel'. -/
def waveLevelCard : Claim7 := { stood := { row := waveLevelRow, standIns := [], harness := (true, "64f665cba229d838b4d86acaf484c030de00a2b2f6918ffba14e4cc14601c230"), looks := false }, kinds := [], alts := [], laidByText := true, laidKinds := [.data, .data, .data], laidTests := true, laidLooks := .later }
def WaveLevelCardSaid : Prop := Claim7.holds Tryd.pinned (.plain (OpenSpec.ofChange waveLevelSpec)) waveLevelCard

/-- THE TIED CARD OF 'mosaiclaw10.WaveTurn'. -/
def waveTurnCard : Claim7 := { stood := { row := waveTurnRow, standIns := [], harness := (true, "64f665cba229d838b4d86acaf484c030de00a2b2f6918ffba14e4cc14601c230"), looks := false }, kinds := [], alts := [], laidByText := true, laidKinds := [.data, .data, .data], laidTests := true, laidLooks := .later }
def WaveTurnCardSaid : Prop := Claim7.holds Tryd.pinned (.plain (OpenSpec.ofChange waveTurnSpec)) waveTurnCard

/-- THE TIED CARD OF 'mosaiclaw10.WaveCosines'. -/
def waveCosinesCard : Claim7 := { stood := { row := waveCosinesRow, standIns := [], harness := (true, "64f665cba229d838b4d86acaf484c030de00a2b2f6918ffba14e4cc14601c230"), looks := false }, kinds := [], alts := [], laidByText := true, laidKinds := [.data, .data, .data], laidTests := true, laidLooks := .later }
def WaveCosinesCardSaid : Prop := Claim7.holds Tryd.pinned (.plain (OpenSpec.ofChange waveCosinesSpec)) waveCosinesCard

/-- THE TIED CARD OF 'mosaiclaw10.WaveForward'. -/
def waveForwardCard : Claim7 := { stood := { row := waveForwardRow, standIns := [], harness := (true, "64f665cba229d838b4d86acaf484c030de00a2b2f6918ffba14e4cc14601c230"), looks := false }, kinds := [], alts := [], laidByText := true, laidKinds := [.data, .data, .data], laidTests := true, laidLooks := .later }
def WaveForwardCardSaid : Prop := Claim7.holds Tryd.pinned (.plain (OpenSpec.ofChange waveForwardSpec)) waveForwardCard

/-- THE TIED CARD OF 'mosaiclaw10.WaveBack'. -/
def waveBackCard : Claim7 := { stood := { row := waveBackRow, standIns := [], harness := (true, "64f665cba229d838b4d86acaf484c030de00a2b2f6918ffba14e4cc14601c230"), looks := false }, kinds := [], alts := [], laidByText := true, laidKinds := [.data, .data, .data], laidTests := true, laidLooks := .later }
def WaveBackCardSaid : Prop := Claim7.holds Tryd.pinned (.plain (OpenSpec.ofChange waveBackSpec)) waveBackCard

/-- THE TIED CARD OF 'mosaiclaw10.WavePower'. -/
def wavePowerCard : Claim7 := { stood := { row := wavePowerRow, standIns := [], harness := (true, "64f665cba229d838b4d86acaf484c030de00a2b2f6918ffba14e4cc14601c230"), looks := false }, kinds := [], alts := [], laidByText := true, laidKinds := [.data, .data, .data], laidTests := true, laidLooks := .later }
def WavePowerCardSaid : Prop := Claim7.holds Tryd.pinned (.plain (OpenSpec.ofChange wavePowerSpec)) wavePowerCard

/-- THE SECOND FORM's CARD OF 'mosaiclaw10.WaveMoved'. -/
def waveMovedUptoCard : Claim7 := { stood := { row := waveMovedUptoRow, standIns := [], harness := (true, "64f665cba229d838b4d86acaf484c030de00a2b2f6918ffba14e4cc14601c230"), looks := false }, kinds := [], alts := [], laidByText := true, laidKinds := [.data, .data, .data], laidTests := true, laidLooks := .later }
def WaveMovedUptoCardSaid : Prop := Claim7.holds Tryd.pinned (.plain (OpenSpec.upto waveMovedSpec)) waveMovedUptoCard

/-- THE SECOND FORM's CARD OF 'mosaiclaw10.WaveOne'. -/
def waveOneUptoCard : Claim7 := { stood := { row := waveOneUptoRow, standIns := [], harness := (true, "64f665cba229d838b4d86acaf484c030de00a2b2f6918ffba14e4cc14601c230"), looks := false }, kinds := [], alts := [], laidByText := true, laidKinds := [.data, .data, .data], laidTests := true, laidLooks := .later }
def WaveOneUptoCardSaid : Prop := Claim7.holds Tryd.pinned (.plain (OpenSpec.upto waveOneSpec)) waveOneUptoCard

/-- THE SECOND FORM's CARD OF 'mosaiclaw10.WaveThere'. -/
def waveThereUptoCard : Claim7 := { stood := { row := waveThereUptoRow, standIns := [], harness := (true, "64f665cba229d838b4d86acaf484c030de00a2b2f6918ffba14e4cc14601c230"), looks := false }, kinds := [], alts := [], laidByText := true, laidKinds := [.data, .data, .data], laidTests := true, laidLooks := .later }
def WaveThereUptoCardSaid : Prop := Claim7.holds Tryd.pinned (.plain (OpenSpec.upto waveThereSpec)) waveThereUptoCard

/-- THE SECOND FORM's CARD OF 'mosaiclaw10.WaveSquares'. -/
def waveSquaresUptoCard : Claim7 := { stood := { row := waveSquaresUptoRow, standIns := [], harness := (true, "64f665cba229d838b4d86acaf484c030de00a2b2f6918ffba14e4cc14601c230"), looks := false }, kinds := [], alts := [], laidByText := true, laidKinds := [.data, .data, .data], laidTests := true, laidLooks := .later }
def WaveSquaresUptoCardSaid : Prop := Claim7.holds Tryd.pinned (.plain (OpenSpec.upto waveSquaresSpec)) waveSquaresUptoCard

/-- THE SECOND FORM's CARD OF 'mosaiclaw10.WaveNames'. -/
def waveNamesUptoCard : Claim7 := { stood := { row := waveNamesUptoRow, standIns := [], harness := (true, "64f665cba229d838b4d86acaf484c030de00a2b2f6918ffba14e4cc14601c230"), looks := false }, kinds := [], alts := [], laidByText := true, laidKinds := [.data, .data, .data], laidTests := true, laidLooks := .later }
def WaveNamesUptoCardSaid : Prop := Claim7.holds Tryd.pinned (.plain (OpenSpec.upto waveNamesSpec)) waveNamesUptoCard

/-- THE SECOND FORM's CARD OF 'mosaiclaw10.WaveLevel'. -/
def waveLevelUptoCard : Claim7 := { stood := { row := waveLevelUptoRow, standIns := [], harness := (true, "64f665cba229d838b4d86acaf484c030de00a2b2f6918ffba14e4cc14601c230"), looks := false }, kinds := [], alts := [], laidByText := true, laidKinds := [.data, .data, .data], laidTests := true, laidLooks := .later }
def WaveLevelUptoCardSaid : Prop := Claim7.holds Tryd.pinned (.plain (OpenSpec.upto waveLevelSpec)) waveLevelUptoCard

/-- THE SECOND FORM's CARD OF 'mosaiclaw10.WaveTurn'. -/
def waveTurnUptoCard : Claim7 := { stood := { row := waveTurnUptoRow, standIns := [], harness := (true, "64f665cba229d838b4d86acaf484c030de00a2b2f6918ffba14e4cc14601c230"), looks := false }, kinds := [], alts := [], laidByText := true, laidKinds := [.data, .data, .data], laidTests := true, laidLooks := .later }
def WaveTurnUptoCardSaid : Prop := Claim7.holds Tryd.pinned (.plain (OpenSpec.upto waveTurnSpec)) waveTurnUptoCard

/-- THE SECOND FORM's CARD OF 'mosaiclaw10.WaveCosines'. -/
def waveCosinesUptoCard : Claim7 := { stood := { row := waveCosinesUptoRow, standIns := [], harness := (true, "64f665cba229d838b4d86acaf484c030de00a2b2f6918ffba14e4cc14601c230"), looks := false }, kinds := [], alts := [], laidByText := true, laidKinds := [.data, .data, .data], laidTests := true, laidLooks := .later }
def WaveCosinesUptoCardSaid : Prop := Claim7.holds Tryd.pinned (.plain (OpenSpec.upto waveCosinesSpec)) waveCosinesUptoCard

/-- THE SECOND FORM's CARD OF 'mosaiclaw10.WaveForward'. -/
def waveForwardUptoCard : Claim7 := { stood := { row := waveForwardUptoRow, standIns := [], harness := (true, "64f665cba229d838b4d86acaf484c030de00a2b2f6918ffba14e4cc14601c230"), looks := false }, kinds := [], alts := [], laidByText := true, laidKinds := [.data, .data, .data], laidTests := true, laidLooks := .later }
def WaveForwardUptoCardSaid : Prop := Claim7.holds Tryd.pinned (.plain (OpenSpec.upto waveForwardSpec)) waveForwardUptoCard

/-- THE SECOND FORM's CARD OF 'mosaiclaw10.WaveBack'. -/
def waveBackUptoCard : Claim7 := { stood := { row := waveBackUptoRow, standIns := [], harness := (true, "64f665cba229d838b4d86acaf484c030de00a2b2f6918ffba14e4cc14601c230"), looks := false }, kinds := [], alts := [], laidByText := true, laidKinds := [.data, .data, .data], laidTests := true, laidLooks := .later }
def WaveBackUptoCardSaid : Prop := Claim7.holds Tryd.pinned (.plain (OpenSpec.upto waveBackSpec)) waveBackUptoCard

/-- THE SECOND FORM's CARD OF 'mosaiclaw10.WavePower'. -/
def wavePowerUptoCard : Claim7 := { stood := { row := wavePowerUptoRow, standIns := [], harness := (true, "64f665cba229d838b4d86acaf484c030de00a2b2f6918ffba14e4cc14601c230"), looks := false }, kinds := [], alts := [], laidByText := true, laidKinds := [.data, .data, .data], laidTests := true, laidLooks := .later }
def WavePowerUptoCardSaid : Prop := Claim7.holds Tryd.pinned (.plain (OpenSpec.upto wavePowerSpec)) wavePowerUptoCard
end Rows
end Go.Proofs.YthddkcoflnbjbaaDoor
