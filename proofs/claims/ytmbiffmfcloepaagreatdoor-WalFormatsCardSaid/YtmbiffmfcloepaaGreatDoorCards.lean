/-
  DERIVED. GIVEN WITH THE SEED: THE CARDS: each row of YtmbiffmfcloepaaGreatDoorRows.lean that lists a variable, with what it lists TIED to the program's text (the seventh form; the later family's looks); each row that meets fmt, with fmt's text TOLD by the authors' own Lean function (tested against real Go, not proved from fmt's source: count such statements apart). THE CARD IS WHAT COUNTS. Prove the row's statement (the work); the ties are given (YtmbiffmfcloepaaGreatDoorTie.lean); close each card by the builder's one call (the guide's Derived/Test/ToyasCard.lean, 'card_holds'). Laid BY PROGRAM, IN A SANDBOX (cutbox-door.mjs). By AI agents, Wed Nov 11 2026. No macro, syntax, notation, axiom, sorry.
-/
import Derived.Test.YtmbiffmfcloepaaGreatDoorRows
import GoSem.ClaimSeven
namespace Go.Proofs.YtmbiffmfcloepaaGreatDoor
namespace Rows

/-- THE TIED CARD OF 'barquelaw15.WalSpoilt'. -/
def walSpoiltCard : Claim7 := { stood := { row := walSpoiltRow, standIns := [], harness := (true, "a7c20d71159dff4185672add2c7e2074c66006013b4263e1471fc85041c3bb3c"), looks := false }, kinds := [], alts := [], laidByText := true, laidKinds := [.data, .pinned], laidTests := true, laidLooks := .later }
def WalSpoiltCardSaid : Prop := Claim7.holds Tryz.pinned (.plain (OpenSpec.ofChange walSpoiltSpec)) walSpoiltCard

/-- THE TIED CARD OF 'barquelaw15.WalTurns'. -/
def walTurnsCard : Claim7 := { stood := { row := walTurnsRow, standIns := [], harness := (true, "a7c20d71159dff4185672add2c7e2074c66006013b4263e1471fc85041c3bb3c"), looks := false }, kinds := [], alts := [], laidByText := true, laidKinds := [.data, .pinned], laidTests := true, laidLooks := .later }
def WalTurnsCardSaid : Prop := Claim7.holds Tryz.pinned (.plain (OpenSpec.ofChange walTurnsSpec)) walTurnsCard

/-- THE TIED CARD OF 'barquelaw15.WalPlays'. -/
def walPlaysCard : Claim7 := { stood := { row := walPlaysRow, standIns := [], harness := (true, "a7c20d71159dff4185672add2c7e2074c66006013b4263e1471fc85041c3bb3c"), looks := false }, kinds := [], alts := [], laidByText := true, laidKinds := [.data, .pinned], laidTests := true, laidLooks := .later }
def WalPlaysCardSaid : Prop := Claim7.holds Tryz.pinned (.plain (OpenSpec.ofChange walPlaysSpec)) walPlaysCard

/-- THE TIED CARD OF 'barquelaw15.WalBroken'. -/
def walBrokenCard : Claim7 := { stood := { row := walBrokenRow, standIns := [], harness := (true, "a7c20d71159dff4185672add2c7e2074c66006013b4263e1471fc85041c3bb3c"), looks := false }, kinds := [], alts := [], laidByText := true, laidKinds := [.data, .pinned], laidTests := true, laidLooks := .later }
def WalBrokenCardSaid : Prop := Claim7.holds Tryz.pinned (.plain (OpenSpec.ofChange walBrokenSpec)) walBrokenCard

/-- THE TIED CARD OF 'barquelaw15.WalFormats'. -/
def walFormatsCard : Claim7 := { stood := { row := walFormatsRow, standIns := [], harness := (true, "a7c20d71159dff4185672add2c7e2074c66006013b4263e1471fc85041c3bb3c"), looks := false }, kinds := [], alts := [], laidByText := true, laidKinds := [.data, .pinned], laidTests := true, laidLooks := .later }
def WalFormatsCardSaid : Prop := Claim7.holds Tryz.pinned (.plain (OpenSpec.ofChange walFormatsSpec)) walFormatsCard

/-- THE TIED CARD OF 'barquelaw15.WalFull'. -/
def walFullCard : Claim7 := { stood := { row := walFullRow, standIns := [], harness := (true, "a7c20d71159dff4185672add2c7e2074c66006013b4263e1471fc85041c3bb3c"), looks := false }, kinds := [], alts := [], laidByText := true, laidKinds := [.data, .pinned], laidTests := true, laidLooks := .later }
def WalFullCardSaid : Prop := Claim7.holds Tryz.pinned (.plain (OpenSpec.ofChange walFullSpec)) walFullCard

/-- THE TIED CARD OF 'barquelaw15.WalAgain'. -/
def walAgainCard : Claim7 := { stood := { row := walAgainRow, standIns := [], harness := (true, "a7c20d71159dff4185672add2c7e2074c66006013b4263e1471fc85041c3bb3c"), looks := false }, kinds := [], alts := [], laidByText := true, laidKinds := [.data, .pinned], laidTests := true, laidLooks := .later }
def WalAgainCardSaid : Prop := Claim7.holds Tryz.pinned (.plain (OpenSpec.ofChange walAgainSpec)) walAgainCard

/-- THE SECOND FORM's CARD OF 'barquelaw15.WalSpoilt'. -/
def walSpoiltUptoCard : Claim7 := { stood := { row := walSpoiltUptoRow, standIns := [], harness := (true, "a7c20d71159dff4185672add2c7e2074c66006013b4263e1471fc85041c3bb3c"), looks := false }, kinds := [], alts := [], laidByText := true, laidKinds := [.data, .pinned], laidTests := true, laidLooks := .later }
def WalSpoiltUptoCardSaid : Prop := Claim7.holds Tryz.pinned (.plain (OpenSpec.upto walSpoiltSpec)) walSpoiltUptoCard

/-- THE SECOND FORM's CARD OF 'barquelaw15.WalTurns'. -/
def walTurnsUptoCard : Claim7 := { stood := { row := walTurnsUptoRow, standIns := [], harness := (true, "a7c20d71159dff4185672add2c7e2074c66006013b4263e1471fc85041c3bb3c"), looks := false }, kinds := [], alts := [], laidByText := true, laidKinds := [.data, .pinned], laidTests := true, laidLooks := .later }
def WalTurnsUptoCardSaid : Prop := Claim7.holds Tryz.pinned (.plain (OpenSpec.upto walTurnsSpec)) walTurnsUptoCard

/-- THE SECOND FORM's CARD OF 'barquelaw15.WalPlays'. -/
def walPlaysUptoCard : Claim7 := { stood := { row := walPlaysUptoRow, standIns := [], harness := (true, "a7c20d71159dff4185672add2c7e2074c66006013b4263e1471fc85041c3bb3c"), looks := false }, kinds := [], alts := [], laidByText := true, laidKinds := [.data, .pinned], laidTests := true, laidLooks := .later }
def WalPlaysUptoCardSaid : Prop := Claim7.holds Tryz.pinned (.plain (OpenSpec.upto walPlaysSpec)) walPlaysUptoCard

/-- THE SECOND FORM's CARD OF 'barquelaw15.WalBroken'. -/
def walBrokenUptoCard : Claim7 := { stood := { row := walBrokenUptoRow, standIns := [], harness := (true, "a7c20d71159dff4185672add2c7e2074c66006013b4263e1471fc85041c3bb3c"), looks := false }, kinds := [], alts := [], laidByText := true, laidKinds := [.data, .pinned], laidTests := true, laidLooks := .later }
def WalBrokenUptoCardSaid : Prop := Claim7.holds Tryz.pinned (.plain (OpenSpec.upto walBrokenSpec)) walBrokenUptoCard

/-- THE SECOND FORM's CARD OF 'barquelaw15.WalFormats'. -/
def walFormatsUptoCard : Claim7 := { stood := { row := walFormatsUptoRow, standIns := [], harness := (true, "a7c20d71159dff4185672add2c7e2074c66006013b4263e1471fc85041c3bb3c"), looks := false }, kinds := [], alts := [], laidByText := true, laidKinds := [.data, .pinned], laidTests := true, laidLooks := .later }
def WalFormatsUptoCardSaid : Prop := Claim7.holds Tryz.pinned (.plain (OpenSpec.upto walFormatsSpec)) walFormatsUptoCard

/-- THE SECOND FORM's CARD OF 'barquelaw15.WalFull'. -/
def walFullUptoCard : Claim7 := { stood := { row := walFullUptoRow, standIns := [], harness := (true, "a7c20d71159dff4185672add2c7e2074c66006013b4263e1471fc85041c3bb3c"), looks := false }, kinds := [], alts := [], laidByText := true, laidKinds := [.data, .pinned], laidTests := true, laidLooks := .later }
def WalFullUptoCardSaid : Prop := Claim7.holds Tryz.pinned (.plain (OpenSpec.upto walFullSpec)) walFullUptoCard

/-- THE SECOND FORM's CARD OF 'barquelaw15.WalAgain'. -/
def walAgainUptoCard : Claim7 := { stood := { row := walAgainUptoRow, standIns := [], harness := (true, "a7c20d71159dff4185672add2c7e2074c66006013b4263e1471fc85041c3bb3c"), looks := false }, kinds := [], alts := [], laidByText := true, laidKinds := [.data, .pinned], laidTests := true, laidLooks := .later }
def WalAgainUptoCardSaid : Prop := Claim7.holds Tryz.pinned (.plain (OpenSpec.upto walAgainSpec)) walAgainUptoCard
end Rows
end Go.Proofs.YtmbiffmfcloepaaGreatDoor
