/-
  DERIVED. GIVEN WITH THE SEED: THE CARDS: each row of YtmjkflppajienaaGreatDoorRows.lean that lists a variable, with what it lists TIED to the program's text (the seventh form; the later family's looks); each row that meets fmt, with fmt's text TOLD by the authors' own Lean function (tested against real Go, not proved from fmt's source: count such statements apart). THE CARD IS WHAT COUNTS. Prove the row's statement (the work); the ties are given (YtmjkflppajienaaGreatDoorTie.lean); close each card by the builder's one call (the guide's Derived/Test/ToyasCard.lean, 'card_holds'). Laid BY PROGRAM, IN A SANDBOX (cutbox-door.mjs). By AI agents, Wed Nov 11 2026. No macro, syntax, notation, axiom, sorry.
-/
import Derived.Test.YtmjkflppajienaaGreatDoorRows
import GoSem.ClaimSeven
namespace Go.Proofs.YtmjkflppajienaaGreatDoor
namespace Rows

/-- THE TIED CARD OF 'quitclaimlaw38.GlobBelow'. -/
def globBelowCard : Claim7 := { stood := { row := globBelowRow, standIns := [], harness := (true, "3bb753614d1433565ae112797e4cb8332c7cf0e90d772b8d8914c0b7a2958a86"), looks := true }, kinds := [], alts := [], laidByText := true, laidKinds := [.data, .pinned], laidTests := true, laidLooks := .later }
def GlobBelowCardSaid : Prop := Claim7.holds Tryz.pinned (.plain (OpenSpec.ofChange globBelowSpec)) globBelowCard

/-- THE TIED CARD OF 'quitclaimlaw38.GlobSelects'. -/
def globSelectsCard : Claim7 := { stood := { row := globSelectsRow, standIns := [], harness := (true, "3bb753614d1433565ae112797e4cb8332c7cf0e90d772b8d8914c0b7a2958a86"), looks := true }, kinds := [], alts := [], laidByText := true, laidKinds := [.data, .pinned], laidTests := true, laidLooks := .later }
def GlobSelectsCardSaid : Prop := Claim7.holds Tryz.pinned (.plain (OpenSpec.ofChange globSelectsSpec)) globSelectsCard

/-- THE TIED CARD OF 'quitclaimlaw35.PrintOps'. -/
def printOpsCard : Claim7 := { stood := { row := printOpsRow, standIns := [], harness := (true, "3bb753614d1433565ae112797e4cb8332c7cf0e90d772b8d8914c0b7a2958a86"), looks := true }, kinds := [], alts := [], laidByText := true, laidKinds := [.data, .data, .data, .data, .sentinel, .sentinel, .pinned], laidTests := true, laidLooks := .later }
def PrintOpsCardSaid : Prop := Claim7.holds Tryz.pinned (.plain (OpenSpec.ofChange printOpsSpec)) printOpsCard

/-- THE TIED CARD OF 'quitclaimlaw35.PrintParses'. -/
def printParsesCard : Claim7 := { stood := { row := printParsesRow, standIns := [], harness := (true, "3bb753614d1433565ae112797e4cb8332c7cf0e90d772b8d8914c0b7a2958a86"), looks := true }, kinds := [], alts := [], laidByText := true, laidKinds := [.data, .data, .data, .data, .sentinel, .sentinel, .pinned], laidTests := true, laidLooks := .later }
def PrintParsesCardSaid : Prop := Claim7.holds Tryz.pinned (.plain (OpenSpec.ofChange printParsesSpec)) printParsesCard

/-- THE TIED CARD OF 'quitclaimlaw35.PrintTurned'. -/
def printTurnedCard : Claim7 := { stood := { row := printTurnedRow, standIns := [], harness := (true, "3bb753614d1433565ae112797e4cb8332c7cf0e90d772b8d8914c0b7a2958a86"), looks := true }, kinds := [], alts := [], laidByText := true, laidKinds := [.data, .data, .data, .data, .sentinel, .sentinel, .pinned], laidTests := true, laidLooks := .later }
def PrintTurnedCardSaid : Prop := Claim7.holds Tryz.pinned (.plain (OpenSpec.ofChange printTurnedSpec)) printTurnedCard

/-- THE TIED CARD OF 'quitclaimlaw39.ArchivePacks'. -/
def archivePacksCard : Claim7 := { stood := { row := archivePacksRow, standIns := [], harness := (true, "3bb753614d1433565ae112797e4cb8332c7cf0e90d772b8d8914c0b7a2958a86"), looks := true }, kinds := [], alts := [], laidByText := true, laidKinds := [.data, .data, .data, .data, .sentinel, .sentinel, .pinned], laidTests := true, laidLooks := .later }
def ArchivePacksCardSaid : Prop := Claim7.holds Tryz.pinned (.plain (OpenSpec.ofChange archivePacksSpec)) archivePacksCard

/-- THE SECOND FORM's CARD OF 'quitclaimlaw38.GlobBelow'. -/
def globBelowUptoCard : Claim7 := { stood := { row := globBelowUptoRow, standIns := [], harness := (true, "3bb753614d1433565ae112797e4cb8332c7cf0e90d772b8d8914c0b7a2958a86"), looks := true }, kinds := [], alts := [], laidByText := true, laidKinds := [.data, .pinned], laidTests := true, laidLooks := .later }
def GlobBelowUptoCardSaid : Prop := Claim7.holds Tryz.pinned (.plain (OpenSpec.upto globBelowSpec)) globBelowUptoCard

/-- THE SECOND FORM's CARD OF 'quitclaimlaw38.GlobSelects'. -/
def globSelectsUptoCard : Claim7 := { stood := { row := globSelectsUptoRow, standIns := [], harness := (true, "3bb753614d1433565ae112797e4cb8332c7cf0e90d772b8d8914c0b7a2958a86"), looks := true }, kinds := [], alts := [], laidByText := true, laidKinds := [.data, .pinned], laidTests := true, laidLooks := .later }
def GlobSelectsUptoCardSaid : Prop := Claim7.holds Tryz.pinned (.plain (OpenSpec.upto globSelectsSpec)) globSelectsUptoCard

/-- THE SECOND FORM's CARD OF 'quitclaimlaw35.PrintOps'. -/
def printOpsUptoCard : Claim7 := { stood := { row := printOpsUptoRow, standIns := [], harness := (true, "3bb753614d1433565ae112797e4cb8332c7cf0e90d772b8d8914c0b7a2958a86"), looks := true }, kinds := [], alts := [], laidByText := true, laidKinds := [.data, .data, .data, .data, .sentinel, .sentinel, .pinned], laidTests := true, laidLooks := .later }
def PrintOpsUptoCardSaid : Prop := Claim7.holds Tryz.pinned (.plain (OpenSpec.upto printOpsSpec)) printOpsUptoCard

/-- THE SECOND FORM's CARD OF 'quitclaimlaw35.PrintParses'. -/
def printParsesUptoCard : Claim7 := { stood := { row := printParsesUptoRow, standIns := [], harness := (true, "3bb753614d1433565ae112797e4cb8332c7cf0e90d772b8d8914c0b7a2958a86"), looks := true }, kinds := [], alts := [], laidByText := true, laidKinds := [.data, .data, .data, .data, .sentinel, .sentinel, .pinned], laidTests := true, laidLooks := .later }
def PrintParsesUptoCardSaid : Prop := Claim7.holds Tryz.pinned (.plain (OpenSpec.upto printParsesSpec)) printParsesUptoCard

/-- THE SECOND FORM's CARD OF 'quitclaimlaw35.PrintTurned'. -/
def printTurnedUptoCard : Claim7 := { stood := { row := printTurnedUptoRow, standIns := [], harness := (true, "3bb753614d1433565ae112797e4cb8332c7cf0e90d772b8d8914c0b7a2958a86"), looks := true }, kinds := [], alts := [], laidByText := true, laidKinds := [.data, .data, .data, .data, .sentinel, .sentinel, .pinned], laidTests := true, laidLooks := .later }
def PrintTurnedUptoCardSaid : Prop := Claim7.holds Tryz.pinned (.plain (OpenSpec.upto printTurnedSpec)) printTurnedUptoCard

/-- THE SECOND FORM's CARD OF 'quitclaimlaw39.ArchivePacks'. -/
def archivePacksUptoCard : Claim7 := { stood := { row := archivePacksUptoRow, standIns := [], harness := (true, "3bb753614d1433565ae112797e4cb8332c7cf0e90d772b8d8914c0b7a2958a86"), looks := true }, kinds := [], alts := [], laidByText := true, laidKinds := [.data, .data, .data, .data, .sentinel, .sentinel, .pinned], laidTests := true, laidLooks := .later }
def ArchivePacksUptoCardSaid : Prop := Claim7.holds Tryz.pinned (.plain (OpenSpec.upto archivePacksSpec)) archivePacksUptoCard
end Rows
end Go.Proofs.YtmjkflppajienaaGreatDoor
