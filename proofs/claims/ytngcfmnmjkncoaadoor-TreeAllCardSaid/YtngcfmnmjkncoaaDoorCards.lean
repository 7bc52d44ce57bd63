/-
  DERIVED. GIVEN WITH THE SEED: THE CARDS: each row of YtngcfmnmjkncoaaDoorRows.lean that lists a variable, with what it lists TIED to the program's text (the seventh form; the later family's looks); each row that meets fmt, with fmt's text TOLD by the authors' own Lean function (tested against real Go, not proved from fmt's source: count such statements apart). THE CARD IS WHAT COUNTS. Prove the row's statement (the work); the ties are given (YtngcfmnmjkncoaaDoorTie.lean); close each card by the builder's one call (the guide's Derived/Test/ToyasCard.lean, 'card_holds'). Laid BY PROGRAM, IN A SANDBOX (cutbox-door.mjs). By AI agents, Wed Nov 11 2026. No macro, syntax, notation, axiom, sorry.
-/
import Derived.Test.YtngcfmnmjkncoaaDoorRows
import GoSem.ClaimSeven
namespace Go.Proofs.YtngcfmnmjkncoaaDoor
namespace Rows

/-- THE TIED CARD OF 'quitclaimlaw10.PathDeepest'. -/
def pathDeepestCard : Claim7 := { stood := { row := pathDeepestRow, standIns := [], harness := (true, "dd66d5a5f3a64c2d4a931af10c052fa99c215564bfab26ee158c47a86e04b647"), looks := false }, kinds := [], alts := [], laidByText := true, laidKinds := [.data, .pinned], laidTests := true, laidLooks := .later }
def PathDeepestCardSaid : Prop := Claim7.holds Tryd.pinned (.plain (OpenSpec.ofChange pathDeepestSpec)) pathDeepestCard

/-- THE TIED CARD OF 'quitclaimlaw10.PathTells'. -/
def pathTellsCard : Claim7 := { stood := { row := pathTellsRow, standIns := [], harness := (true, "dd66d5a5f3a64c2d4a931af10c052fa99c215564bfab26ee158c47a86e04b647"), looks := false }, kinds := [], alts := [], laidByText := true, laidKinds := [.data, .pinned], laidTests := true, laidLooks := .later }
def PathTellsCardSaid : Prop := Claim7.holds Tryd.pinned (.plain (OpenSpec.ofChange pathTellsSpec)) pathTellsCard

/-- THE TIED CARD OF 'quitclaimlaw11.HunkTexts'. -/
def hunkTextsCard : Claim7 := { stood := { row := hunkTextsRow, standIns := [], harness := (true, "dd66d5a5f3a64c2d4a931af10c052fa99c215564bfab26ee158c47a86e04b647"), looks := false }, kinds := [], alts := [], laidByText := true, laidKinds := [.data, .pinned], laidTests := true, laidLooks := .later }
def HunkTextsCardSaid : Prop := Claim7.holds Tryd.pinned (.plain (OpenSpec.ofChange hunkTextsSpec)) hunkTextsCard

/-- THE TIED CARD OF 'quitclaimlaw10.PathJoins'. -/
def pathJoinsCard : Claim7 := { stood := { row := pathJoinsRow, standIns := [], harness := (true, "dd66d5a5f3a64c2d4a931af10c052fa99c215564bfab26ee158c47a86e04b647"), looks := false }, kinds := [], alts := [], laidByText := true, laidKinds := [.data, .pinned], laidTests := true, laidLooks := .later }
def PathJoinsCardSaid : Prop := Claim7.holds Tryd.pinned (.plain (OpenSpec.ofChange pathJoinsSpec)) pathJoinsCard

/-- THE TIED CARD OF 'quitclaimlaw14.TreeAll'. -/
def treeAllCard : Claim7 := { stood := { row := treeAllRow, standIns := [], harness := (true, "dd66d5a5f3a64c2d4a931af10c052fa99c215564bfab26ee158c47a86e04b647"), looks := false }, kinds := [], alts := [], laidByText := true, laidKinds := [.data, .pinned], laidTests := true, laidLooks := .later }
def TreeAllCardSaid : Prop := Claim7.holds Tryd.pinned (.plain (OpenSpec.ofChange treeAllSpec)) treeAllCard

/-- THE TIED CARD OF 'quitclaimlaw14.TreeSteps'. -/
def treeStepsCard : Claim7 := { stood := { row := treeStepsRow, standIns := [], harness := (true, "dd66d5a5f3a64c2d4a931af10c052fa99c215564bfab26ee158c47a86e04b647"), looks := false }, kinds := [], alts := [], laidByText := true, laidKinds := [.data, .pinned], laidTests := true, laidLooks := .later }
def TreeStepsCardSaid : Prop := Claim7.holds Tryd.pinned (.plain (OpenSpec.ofChange treeStepsSpec)) treeStepsCard

/-- THE SECOND FORM's CARD OF 'quitclaimlaw10.PathDeepest'. -/
def pathDeepestUptoCard : Claim7 := { stood := { row := pathDeepestUptoRow, standIns := [], harness := (true, "dd66d5a5f3a64c2d4a931af10c052fa99c215564bfab26ee158c47a86e04b647"), looks := false }, kinds := [], alts := [], laidByText := true, laidKinds := [.data, .pinned], laidTests := true, laidLooks := .later }
def PathDeepestUptoCardSaid : Prop := Claim7.holds Tryd.pinned (.plain (OpenSpec.upto pathDeepestSpec)) pathDeepestUptoCard

/-- THE SECOND FORM's CARD OF 'quitclaimlaw10.PathTells'. -/
def pathTellsUptoCard : Claim7 := { stood := { row := pathTellsUptoRow, standIns := [], harness := (true, "dd66d5a5f3a64c2d4a931af10c052fa99c215564bfab26ee158c47a86e04b647"), looks := false }, kinds := [], alts := [], laidByText := true, laidKinds := [.data, .pinned], laidTests := true, laidLooks := .later }
def PathTellsUptoCardSaid : Prop := Claim7.holds Tryd.pinned (.plain (OpenSpec.upto pathTellsSpec)) pathTellsUptoCard

/-- THE SECOND FORM's CARD OF 'quitclaimlaw11.HunkTexts'. -/
def hunkTextsUptoCard : Claim7 := { stood := { row := hunkTextsUptoRow, standIns := [], harness := (true, "dd66d5a5f3a64c2d4a931af10c052fa99c215564bfab26ee158c47a86e04b647"), looks := false }, kinds := [], alts := [], laidByText := true, laidKinds := [.data, .pinned], laidTests := true, laidLooks := .later }
def HunkTextsUptoCardSaid : Prop := Claim7.holds Tryd.pinned (.plain (OpenSpec.upto hunkTextsSpec)) hunkTextsUptoCard

/-- THE SECOND FORM's CARD OF 'quitclaimlaw10.PathJoins'. -/
def pathJoinsUptoCard : Claim7 := { stood := { row := pathJoinsUptoRow, standIns := [], harness := (true, "dd66d5a5f3a64c2d4a931af10c052fa99c215564bfab26ee158c47a86e04b647"), looks := false }, kinds := [], alts := [], laidByText := true, laidKinds := [.data, .pinned], laidTests := true, laidLooks := .later }
def PathJoinsUptoCardSaid : Prop := Claim7.holds Tryd.pinned (.plain (OpenSpec.upto pathJoinsSpec)) pathJoinsUptoCard

/-- THE SECOND FORM's CARD OF 'quitclaimlaw14.TreeAll'. -/
def treeAllUptoCard : Claim7 := { stood := { row := treeAllUptoRow, standIns := [], harness := (true, "dd66d5a5f3a64c2d4a931af10c052fa99c215564bfab26ee158c47a86e04b647"), looks := false }, kinds := [], alts := [], laidByText := true, laidKinds := [.data, .pinned], laidTests := true, laidLooks := .later }
def TreeAllUptoCardSaid : Prop := Claim7.holds Tryd.pinned (.plain (OpenSpec.upto treeAllSpec)) treeAllUptoCard

/-- THE SECOND FORM's CARD OF 'quitclaimlaw14.TreeSteps'. -/
def treeStepsUptoCard : Claim7 := { stood := { row := treeStepsUptoRow, standIns := [], harness := (true, "dd66d5a5f3a64c2d4a931af10c052fa99c215564bfab26ee158c47a86e04b647"), looks := false }, kinds := [], alts := [], laidByText := true, laidKinds := [.data, .pinned], laidTests := true, laidLooks := .later }
def TreeStepsUptoCardSaid : Prop := Claim7.holds Tryd.pinned (.plain (OpenSpec.upto treeStepsSpec)) treeStepsUptoCard
end Rows
end Go.Proofs.YtngcfmnmjkncoaaDoor
