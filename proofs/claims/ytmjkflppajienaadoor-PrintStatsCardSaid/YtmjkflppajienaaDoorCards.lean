/-
  DERIVED. GIVEN WITH THE SEED: THE CARDS: each row of YtmjkflppajienaaDoorRows.lean that lists a variable, with what it lists TIED to the program's text (the seventh form; the later family's looks); each row that meets fmt, with fmt's text TOLD by the authors' own Lean function (tested against real Go, not proved from fmt's source: count such statements apart). THE CARD IS WHAT COUNTS. Prove the row's statement (the work); the ties are given (YtmjkflppajienaaDoorTie.lean); close each card by the builder's one call (the guide's Derived/Test/ToyasCard.lean, 'card_holds'). Laid BY PROGRAM, IN A SANDBOX (cutbox-door.mjs). By AI agents, Wed Nov 11 2026. No macro, syntax, notation, axiom, sorry.
-/
import Derived.Test.YtmjkflppajienaaDoorRows
import GoSem.ClaimSeven
namespace Go.Proofs.YtmjkflppajienaaDoor
namespace Rows

/-- THE TIED CARD OF 'quitclaimlaw39.ArchiveUnpacks'. -/
def archiveUnpacksCard : Claim7 := { stood := { row := archiveUnpacksRow, standIns := [], harness := (true, "d43b90fc6b9d4d66becdf312bb4c6c147400b699c13e235100c813baf869eb58"), looks := true }, kinds := [], alts := [], laidByText := true, laidKinds := [.data, .pinned], laidTests := true, laidLooks := .later }
def ArchiveUnpacksCardSaid : Prop := Claim7.holds Tryd.pinned (.plain (OpenSpec.ofChange archiveUnpacksSpec)) archiveUnpacksCard

/-- THE TIED CARD OF 'quitclaimlaw35.PrintStats'. -/
def printStatsCard : Claim7 := { stood := { row := printStatsRow, standIns := [], harness := (true, "d43b90fc6b9d4d66becdf312bb4c6c147400b699c13e235100c813baf869eb58"), looks := true }, kinds := [], alts := [], laidByText := true, laidKinds := [.data, .data, .data, .data, .pinned], laidTests := true, laidLooks := .later }
def PrintStatsCardSaid : Prop := Claim7.holds Tryd.pinned (.plain (OpenSpec.ofChange printStatsSpec)) printStatsCard

/-- THE TIED CARD OF 'quitclaimlaw39.ArchiveReads'. -/
def archiveReadsCard : Claim7 := { stood := { row := archiveReadsRow, standIns := [], harness := (true, "d43b90fc6b9d4d66becdf312bb4c6c147400b699c13e235100c813baf869eb58"), looks := true }, kinds := [], alts := [], laidByText := true, laidKinds := [.data, .data, .data, .data, .sentinel, .sentinel, .pinned], laidTests := true, laidLooks := .later }
def ArchiveReadsCardSaid : Prop := Claim7.holds Tryd.pinned (.plain (OpenSpec.ofChange archiveReadsSpec)) archiveReadsCard

/-- THE SECOND FORM's CARD OF 'quitclaimlaw39.ArchiveUnpacks'. -/
def archiveUnpacksUptoCard : Claim7 := { stood := { row := archiveUnpacksUptoRow, standIns := [], harness := (true, "d43b90fc6b9d4d66becdf312bb4c6c147400b699c13e235100c813baf869eb58"), looks := true }, kinds := [], alts := [], laidByText := true, laidKinds := [.data, .pinned], laidTests := true, laidLooks := .later }
def ArchiveUnpacksUptoCardSaid : Prop := Claim7.holds Tryd.pinned (.plain (OpenSpec.upto archiveUnpacksSpec)) archiveUnpacksUptoCard

/-- THE SECOND FORM's CARD OF 'quitclaimlaw35.PrintStats'. -/
def printStatsUptoCard : Claim7 := { stood := { row := printStatsUptoRow, standIns := [], harness := (true, "d43b90fc6b9d4d66becdf312bb4c6c147400b699c13e235100c813baf869eb58"), looks := true }, kinds := [], alts := [], laidByText := true, laidKinds := [.data, .data, .data, .data, .pinned], laidTests := true, laidLooks := .later }
def PrintStatsUptoCardSaid : Prop := Claim7.holds Tryd.pinned (.plain (OpenSpec.upto printStatsSpec)) printStatsUptoCard

/-- THE SECOND FORM's CARD OF 'quitclaimlaw39.ArchiveReads'. -/
def archiveReadsUptoCard : Claim7 := { stood := { row := archiveReadsUptoRow, standIns := [], harness := (true, "d43b90fc6b9d4d66becdf312bb4c6c147400b699c13e235100c813baf869eb58"), looks := true }, kinds := [], alts := [], laidByText := true, laidKinds := [.data, .data, .data, .data, .sentinel, .sentinel, .pinned], laidTests := true, laidLooks := .later }
def ArchiveReadsUptoCardSaid : Prop := Claim7.holds Tryd.pinned (.plain (OpenSpec.upto archiveReadsSpec)) archiveReadsUptoCard
end Rows
end Go.Proofs.YtmjkflppajienaaDoor
