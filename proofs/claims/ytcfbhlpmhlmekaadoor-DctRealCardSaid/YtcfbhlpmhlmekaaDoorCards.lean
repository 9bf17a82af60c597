/-
  DERIVED. GIVEN WITH THE SEED: THE CARDS: each row of YtcfbhlpmhlmekaaDoorRows.lean that lists a variable, with what it lists TIED to the program's text (the seventh form; the later family's looks); each row that meets fmt, with fmt's text TOLD by the authors' own Lean function (tested against real Go, not proved from fmt's source: count such statements apart). THE CARD IS WHAT COUNTS. Prove the row's statement (the work); the ties are given (YtcfbhlpmhlmekaaDoorTie.lean); close each card by the builder's one call (the guide's Derived/Test/ToyasCard.lean, 'card_holds'). Laid BY PROGRAM, IN A SANDBOX (cutbox-door.mjs). By AI agents, Wed Nov 11 2026. No macro, syntax, notation, axiom, sorry.
-/
import Derived.Test.YtcfbhlpmhlmekaaDoorRows
import GoSem.ClaimSeven
namespace Go.Proofs.YtcfbhlpmhlmekaaDoor
namespace Rows

/-- THE TIED CARD OF 'mosaiclaw09.DctReal'. -/
def dctRealCard : Claim7 := { stood := { row := dctRealRow, standIns := [], harness := (true, "c60cc018d5e6e11d994ffbb83dec564806072a71b2376fa6588a893f7b6e2fa7"), looks := false }, kinds := [], alts := [], laidByText := true, laidKinds := [.data, .data, .data], laidTests := true, laidLooks := .later }
def DctRealCardSaid : Prop := Claim7.holds Tryd.pinned (.plain (OpenSpec.ofChange dctRealSpec)) dctRealCard

/-- THE TIED CARD OF 'mosaiclaw09.DctNone'. -/
def dctNoneCard : Claim7 := { stood := { row := dctNoneRow, standIns := [], harness := (true, "c60cc018d5e6e11d994ffbb83dec564806072a71b2376fa6588a893f7b6e2fa7"), looks := false }, kinds := [], alts := [], laidByText := true, laidKinds := [.data, .data, .data], laidTests := true, laidLooks := .later }
def DctNoneCardSaid : Prop := Claim7.holds Tryd.pinned (.plain (OpenSpec.ofChange dctNoneSpec)) dctNoneCard

/-- THE TIED CARD OF 'mosaiclaw09.DctEnergy'. -/
def dctEnergyCard : Claim7 := { stood := { row := dctEnergyRow, standIns := [], harness := (true, "c60cc018d5e6e11d994ffbb83dec564806072a71b2376fa6588a893f7b6e2fa7"), looks := false }, kinds := [], alts := [], laidByText := true, laidKinds := [.data, .data, .data], laidTests := true, laidLooks := .later }
def DctEnergyCardSaid : Prop := Claim7.holds Tryd.pinned (.plain (OpenSpec.ofChange dctEnergySpec)) dctEnergyCard

/-- THE TIED CARD OF 'mosaiclaw09.DctNear'. -/
def dctNearCard : Claim7 := { stood := { row := dctNearRow, standIns := [], harness := (true, "c60cc018d5e6e11d994ffbb83dec564806072a71b2376fa6588a893f7b6e2fa7"), looks := false }, kinds := [], alts := [], laidByText := true, laidKinds := [.data, .data, .data], laidTests := true, laidLooks := .later }
def DctNearCardSaid : Prop := Claim7.holds Tryd.pinned (.plain (OpenSpec.ofChange dctNearSpec)) dctNearCard

/-- THE SECOND FORM's CARD OF 'mosaiclaw09.DctReal'. -/
def dctRealUptoCard : Claim7 := { stood := { row := dctRealUptoRow, standIns := [], harness := (true, "c60cc018d5e6e11d994ffbb83dec564806072a71b2376fa6588a893f7b6e2fa7"), looks := false }, kinds := [], alts := [], laidByText := true, laidKinds := [.data, .data, .data], laidTests := true, laidLooks := .later }
def DctRealUptoCardSaid : Prop := Claim7.holds Tryd.pinned (.plain (OpenSpec.upto dctRealSpec)) dctRealUptoCard

/-- THE SECOND FORM's CARD OF 'mosaiclaw09.DctNone'. -/
def dctNoneUptoCard : Claim7 := { stood := { row := dctNoneUptoRow, standIns := [], harness := (true, "c60cc018d5e6e11d994ffbb83dec564806072a71b2376fa6588a893f7b6e2fa7"), looks := false }, kinds := [], alts := [], laidByText := true, laidKinds := [.data, .data, .data], laidTests := true, laidLooks := .later }
def DctNoneUptoCardSaid : Prop := Claim7.holds Tryd.pinned (.plain (OpenSpec.upto dctNoneSpec)) dctNoneUptoCard

/-- THE SECOND FORM's CARD OF 'mosaiclaw09.DctEnergy'. -/
def dctEnergyUptoCard : Claim7 := { stood := { row := dctEnergyUptoRow, standIns := [], harness := (true, "c60cc018d5e6e11d994ffbb83dec564806072a71b2376fa6588a893f7b6e2fa7"), looks := false }, kinds := [], alts := [], laidByText := true, laidKinds := [.data, .data, .data], laidTests := true, laidLooks := .later }
def DctEnergyUptoCardSaid : Prop := Claim7.holds Tryd.pinned (.plain (OpenSpec.upto dctEnergySpec)) dctEnergyUptoCard

/-- THE SECOND FORM's CARD OF 'mosaiclaw09.DctNear'. -/
def dctNearUptoCard : Claim7 := { stood := { row := dctNearUptoRow, standIns := [], harness := (true, "c60cc018d5e6e11d994ffbb83dec564806072a71b2376fa6588a893f7b6e2fa7"), looks := false }, kinds := [], alts := [], laidByText := true, laidKinds := [.data, .data, .data], laidTests := true, laidLooks := .later }
def DctNearUptoCardSaid : Prop := Claim7.holds Tryd.pinned (.plain (OpenSpec.upto dctNearSpec)) dctNearUptoCard
end Rows
end Go.Proofs.YtcfbhlpmhlmekaaDoor
