/-
  DERIVED. GIVEN WITH THE SEED: THE CARDS: each row of YtcdnjehkkbnfbaaGreatDoorRows.lean that lists a variable, with what it lists TIED to the program's text (the seventh form; the later family's looks); each row that meets fmt, with fmt's text TOLD by the authors' own Lean function (tested against real Go, not proved from fmt's source: count such statements apart). THE CARD IS WHAT COUNTS. Prove the row's statement (the work); the ties are given (YtcdnjehkkbnfbaaGreatDoorTie.lean); close each card by the builder's one call (the guide's Derived/Test/ToyasCard.lean, 'card_holds'). Laid BY PROGRAM, IN A SANDBOX (cutbox-door.mjs). By AI agents, Wed Nov 11 2026. No macro, syntax, notation, axiom, sorry.
-/
import Derived.Test.YtcdnjehkkbnfbaaGreatDoorRows
import GoSem.ClaimSeven
namespace Go.Proofs.YtcdnjehkkbnfbaaGreatDoor
namespace Rows

/-- THE TIED CARD OF 'tumbtop.TopSheetsAreOfficial'. -/
def topSheetsAreOfficialCard : Claim7 := { stood := { row := topSheetsAreOfficialRow, standIns := [], harness := (true, "204cb8aee3b333970ddbf4f48b917d9f43949f5f3dd7da9b5d4e7cbad85d4908"), looks := false }, kinds := [], alts := [], laidByText := true, laidKinds := [.data, .data, .data, .data, .pinned], laidTests := true, laidLooks := .later }
def TopSheetsAreOfficialCardSaid : Prop := Claim7.holds Tryz.pinned (.plain (OpenSpec.ofChange topSheetsAreOfficialSpec)) topSheetsAreOfficialCard

/-- THE TIED CARD OF 'tumblaw1.LapsFound'. -/
def lapsFoundCard : Claim7 := { stood := { row := lapsFoundRow, standIns := [], harness := (true, "204cb8aee3b333970ddbf4f48b917d9f43949f5f3dd7da9b5d4e7cbad85d4908"), looks := false }, kinds := [], alts := [], laidByText := true, laidKinds := [.data, .pinned], laidTests := true, laidLooks := .later }
def LapsFoundCardSaid : Prop := Claim7.holds Tryz.pinned (.plain (OpenSpec.ofChange lapsFoundSpec)) lapsFoundCard

/-- THE TIED CARD OF 'tumblaw1.FinalsMade'. -/
def finalsMadeCard : Claim7 := { stood := { row := finalsMadeRow, standIns := [], harness := (true, "204cb8aee3b333970ddbf4f48b917d9f43949f5f3dd7da9b5d4e7cbad85d4908"), looks := false }, kinds := [], alts := [], laidByText := true, laidKinds := [.data, .data, .data, .data, .pinned], laidTests := true, laidLooks := .later }
def FinalsMadeCardSaid : Prop := Claim7.holds Tryz.pinned (.plain (OpenSpec.ofChange finalsMadeSpec)) finalsMadeCard

/-- THE TIED CARD OF 'tumblaw1.SheetsMade'. -/
def sheetsMadeCard : Claim7 := { stood := { row := sheetsMadeRow, standIns := [], harness := (true, "204cb8aee3b333970ddbf4f48b917d9f43949f5f3dd7da9b5d4e7cbad85d4908"), looks := false }, kinds := [], alts := [], laidByText := true, laidKinds := [.data, .pinned], laidTests := true, laidLooks := .later }
def SheetsMadeCardSaid : Prop := Claim7.holds Tryz.pinned (.plain (OpenSpec.ofChange sheetsMadeSpec)) sheetsMadeCard

/-- THE TIED CARD OF 'tumbkeep1.PadsStay'. -/
def padsStayCard : Claim7 := { stood := { row := padsStayRow, standIns := [], harness := (true, "204cb8aee3b333970ddbf4f48b917d9f43949f5f3dd7da9b5d4e7cbad85d4908"), looks := false }, kinds := [], alts := [], laidByText := true, laidKinds := [.data, .data, .data, .data, .pinned], laidTests := true, laidLooks := .later }
def PadsStayCardSaid : Prop := Claim7.holds Tryz.pinned (.plain (OpenSpec.ofChange padsStaySpec)) padsStayCard

/-- THE TIED CARD OF 'tumblaw1.VerdictsTold'. -/
def verdictsToldCard : Claim7 := { stood := { row := verdictsToldRow, standIns := [], harness := (true, "204cb8aee3b333970ddbf4f48b917d9f43949f5f3dd7da9b5d4e7cbad85d4908"), looks := false }, kinds := [], alts := [], laidByText := true, laidKinds := [.data, .data, .data, .data, .pinned], laidTests := true, laidLooks := .later }
def VerdictsToldCardSaid : Prop := Claim7.holds Tryz.pinned (.plain (OpenSpec.ofChange verdictsToldSpec)) verdictsToldCard

/-- THE TIED CARD OF 'tumbkeep1.SwimOffsDecide'. -/
def swimOffsDecideCard : Claim7 := { stood := { row := swimOffsDecideRow, standIns := [], harness := (true, "204cb8aee3b333970ddbf4f48b917d9f43949f5f3dd7da9b5d4e7cbad85d4908"), looks := false }, kinds := [], alts := [], laidByText := true, laidKinds := [.data, .data, .data, .data, .pinned], laidTests := true, laidLooks := .later }
def SwimOffsDecideCardSaid : Prop := Claim7.holds Tryz.pinned (.plain (OpenSpec.ofChange swimOffsDecideSpec)) swimOffsDecideCard

/-- THE TIED CARD OF 'tumbkeep1.TouchesAreLapsOrGhosts'. -/
def touchesAreLapsOrGhostsCard : Claim7 := { stood := { row := touchesAreLapsOrGhostsRow, standIns := [], harness := (true, "204cb8aee3b333970ddbf4f48b917d9f43949f5f3dd7da9b5d4e7cbad85d4908"), looks := false }, kinds := [], alts := [], laidByText := true, laidKinds := [.data, .data, .data, .data, .pinned], laidTests := true, laidLooks := .later }
def TouchesAreLapsOrGhostsCardSaid : Prop := Claim7.holds Tryz.pinned (.plain (OpenSpec.ofChange touchesAreLapsOrGhostsSpec)) touchesAreLapsOrGhostsCard

/-- THE TIED CARD OF 'tumbkeep1.DevicesAgree'. -/
def devicesAgreeCard : Claim7 := { stood := { row := devicesAgreeRow, standIns := [], harness := (true, "204cb8aee3b333970ddbf4f48b917d9f43949f5f3dd7da9b5d4e7cbad85d4908"), looks := false }, kinds := [], alts := [], laidByText := true, laidKinds := [.data, .data, .data, .data, .pinned], laidTests := true, laidLooks := .later }
def DevicesAgreeCardSaid : Prop := Claim7.holds Tryz.pinned (.plain (OpenSpec.ofChange devicesAgreeSpec)) devicesAgreeCard

/-- THE TIED CARD OF 'tumbtop.TopLapsRace'. -/
def topLapsRaceCard : Claim7 := { stood := { row := topLapsRaceRow, standIns := [], harness := (true, "204cb8aee3b333970ddbf4f48b917d9f43949f5f3dd7da9b5d4e7cbad85d4908"), looks := false }, kinds := [], alts := [], laidByText := true, laidKinds := [.data, .data, .data, .data, .pinned], laidTests := true, laidLooks := .later }
def TopLapsRaceCardSaid : Prop := Claim7.holds Tryz.pinned (.plain (OpenSpec.ofChange topLapsRaceSpec)) topLapsRaceCard

/-- THE SECOND FORM's CARD OF 'tumbtop.TopSheetsAreOfficial'. -/
def topSheetsAreOfficialUptoCard : Claim7 := { stood := { row := topSheetsAreOfficialUptoRow, standIns := [], harness := (true, "204cb8aee3b333970ddbf4f48b917d9f43949f5f3dd7da9b5d4e7cbad85d4908"), looks := false }, kinds := [], alts := [], laidByText := true, laidKinds := [.data, .data, .data, .data, .pinned], laidTests := true, laidLooks := .later }
def TopSheetsAreOfficialUptoCardSaid : Prop := Claim7.holds Tryz.pinned (.plain (OpenSpec.upto topSheetsAreOfficialSpec)) topSheetsAreOfficialUptoCard

/-- THE SECOND FORM's CARD OF 'tumblaw1.LapsFound'. -/
def lapsFoundUptoCard : Claim7 := { stood := { row := lapsFoundUptoRow, standIns := [], harness := (true, "204cb8aee3b333970ddbf4f48b917d9f43949f5f3dd7da9b5d4e7cbad85d4908"), looks := false }, kinds := [], alts := [], laidByText := true, laidKinds := [.data, .pinned], laidTests := true, laidLooks := .later }
def LapsFoundUptoCardSaid : Prop := Claim7.holds Tryz.pinned (.plain (OpenSpec.upto lapsFoundSpec)) lapsFoundUptoCard

/-- THE SECOND FORM's CARD OF 'tumblaw1.FinalsMade'. -/
def finalsMadeUptoCard : Claim7 := { stood := { row := finalsMadeUptoRow, standIns := [], harness := (true, "204cb8aee3b333970ddbf4f48b917d9f43949f5f3dd7da9b5d4e7cbad85d4908"), looks := false }, kinds := [], alts := [], laidByText := true, laidKinds := [.data, .data, .data, .data, .pinned], laidTests := true, laidLooks := .later }
def FinalsMadeUptoCardSaid : Prop := Claim7.holds Tryz.pinned (.plain (OpenSpec.upto finalsMadeSpec)) finalsMadeUptoCard

/-- THE SECOND FORM's CARD OF 'tumblaw1.SheetsMade'. -/
def sheetsMadeUptoCard : Claim7 := { stood := { row := sheetsMadeUptoRow, standIns := [], harness := (true, "204cb8aee3b333970ddbf4f48b917d9f43949f5f3dd7da9b5d4e7cbad85d4908"), looks := false }, kinds := [], alts := [], laidByText := true, laidKinds := [.data, .pinned], laidTests := true, laidLooks := .later }
def SheetsMadeUptoCardSaid : Prop := Claim7.holds Tryz.pinned (.plain (OpenSpec.upto sheetsMadeSpec)) sheetsMadeUptoCard

/-- THE SECOND FORM's CARD OF 'tumbkeep1.PadsStay'. -/
def padsStayUptoCard : Claim7 := { stood := { row := padsStayUptoRow, standIns := [], harness := (true, "204cb8aee3b333970ddbf4f48b917d9f43949f5f3dd7da9b5d4e7cbad85d4908"), looks := false }, kinds := [], alts := [], laidByText := true, laidKinds := [.data, .data, .data, .data, .pinned], laidTests := true, laidLooks := .later }
def PadsStayUptoCardSaid : Prop := Claim7.holds Tryz.pinned (.plain (OpenSpec.upto padsStaySpec)) padsStayUptoCard

/-- THE SECOND FORM's CARD OF 'tumblaw1.VerdictsTold'. -/
def verdictsToldUptoCard : Claim7 := { stood := { row := verdictsToldUptoRow, standIns := [], harness := (true, "204cb8aee3b333970ddbf4f48b917d9f43949f5f3dd7da9b5d4e7cbad85d4908"), looks := false }, kinds := [], alts := [], laidByText := true, laidKinds := [.data, .data, .data, .data, .pinned], laidTests := true, laidLooks := .later }
def VerdictsToldUptoCardSaid : Prop := Claim7.holds Tryz.pinned (.plain (OpenSpec.upto verdictsToldSpec)) verdictsToldUptoCard

/-- THE SECOND FORM's CARD OF 'tumbkeep1.SwimOffsDecide'. -/
def swimOffsDecideUptoCard : Claim7 := { stood := { row := swimOffsDecideUptoRow, standIns := [], harness := (true, "204cb8aee3b333970ddbf4f48b917d9f43949f5f3dd7da9b5d4e7cbad85d4908"), looks := false }, kinds := [], alts := [], laidByText := true, laidKinds := [.data, .data, .data, .data, .pinned], laidTests := true, laidLooks := .later }
def SwimOffsDecideUptoCardSaid : Prop := Claim7.holds Tryz.pinned (.plain (OpenSpec.upto swimOffsDecideSpec)) swimOffsDecideUptoCard

/-- THE SECOND FORM's CARD OF 'tumbkeep1.TouchesAreLapsOrGhosts'. -/
def touchesAreLapsOrGhostsUptoCard : Claim7 := { stood := { row := touchesAreLapsOrGhostsUptoRow, standIns := [], harness := (true, "204cb8aee3b333970ddbf4f48b917d9f43949f5f3dd7da9b5d4e7cbad85d4908"), looks := false }, kinds := [], alts := [], laidByText := true, laidKinds := [.data, .data, .data, .data, .pinned], laidTests := true, laidLooks := .later }
def TouchesAreLapsOrGhostsUptoCardSaid : Prop := Claim7.holds Tryz.pinned (.plain (OpenSpec.upto touchesAreLapsOrGhostsSpec)) touchesAreLapsOrGhostsUptoCard

/-- THE SECOND FORM's CARD OF 'tumbkeep1.DevicesAgree'. -/
def devicesAgreeUptoCard : Claim7 := { stood := { row := devicesAgreeUptoRow, standIns := [], harness := (true, "204cb8aee3b333970ddbf4f48b917d9f43949f5f3dd7da9b5d4e7cbad85d4908"), looks := false }, kinds := [], alts := [], laidByText := true, laidKinds := [.data, .data, .data, .data, .pinned], laidTests := true, laidLooks := .later }
def DevicesAgreeUptoCardSaid : Prop := Claim7.holds Tryz.pinned (.plain (OpenSpec.upto devicesAgreeSpec)) devicesAgreeUptoCard

/-- THE SECOND FORM's CARD OF 'tumbtop.TopLapsRace'. -/
def topLapsRaceUptoCard : Claim7 := { stood := { row := topLapsRaceUptoRow, standIns := [], harness := (true, "204cb8aee3b333970ddbf4f48b917d9f43949f5f3dd7da9b5d4e7cbad85d4908"), looks := false }, kinds := [], alts := [], laidByText := true, laidKinds := [.data, .data, .data, .data, .pinned], laidTests := true, laidLooks := .later }
def TopLapsRaceUptoCardSaid : Prop := Claim7.holds Tryz.pinned (.plain (OpenSpec.upto topLapsRaceSpec)) topLapsRaceUptoCard
end Rows
end Go.Proofs.YtcdnjehkkbnfbaaGreatDoor
