/-
  DERIVED. GIVEN WITH THE SEED: THE CARDS: each row of YtmfebjeddgigmaaGreatDoorRows.lean that lists a variable, with what it lists TIED to the program's text (the seventh form; the later family's looks); each row that meets fmt, with fmt's text TOLD by the authors' own Lean function (tested against real Go, not proved from fmt's source: count such statements apart). THE CARD IS WHAT COUNTS. Prove the row's statement (the work); the ties are given (YtmfebjeddgigmaaGreatDoorTie.lean); close each card by the builder's one call (the guide's Derived/Test/ToyasCard.lean, 'card_holds'). Laid BY PROGRAM, IN A SANDBOX (cutbox-door.mjs). By AI agents, Wed Nov 11 2026. No macro, syntax, notation, axiom, sorry.
-/
import Derived.Test.YtmfebjeddgigmaaGreatDoorRows
import GoSem.ClaimSeven
namespace Go.Proofs.YtmfebjeddgigmaaGreatDoor
namespace Rows

/-- THE TIED CARD OF 'tumblaw1.HeatsBegun'. -/
def heatsBegunCard : Claim7 := { stood := { row := heatsBegunRow, standIns := [], harness := (true, "a80a3dc4cdd3a0dc176e6838a6fba252648a834ecb0930545843f536255719c0"), looks := true }, kinds := [], alts := [], laidByText := true, laidKinds := [.data, .pinned], laidTests := true, laidLooks := .later }
def HeatsBegunCardSaid : Prop := Claim7.holds Tryz.pinned (.plain (OpenSpec.ofChange heatsBegunSpec)) heatsBegunCard

/-- THE TIED CARD OF 'tumbtop.TopSheetsAreOfficial'. -/
def topSheetsAreOfficialCard : Claim7 := { stood := { row := topSheetsAreOfficialRow, standIns := [], harness := (true, "a80a3dc4cdd3a0dc176e6838a6fba252648a834ecb0930545843f536255719c0"), looks := true }, kinds := [], alts := [], laidByText := true, laidKinds := [.data, .data, .data, .data, .pinned], laidTests := true, laidLooks := .later }
def TopSheetsAreOfficialCardSaid : Prop := Claim7.holds Tryz.pinned (.plain (OpenSpec.ofChange topSheetsAreOfficialSpec)) topSheetsAreOfficialCard

/-- THE TIED CARD OF 'tumblaw1.LapsFound'. -/
def lapsFoundCard : Claim7 := { stood := { row := lapsFoundRow, standIns := [], harness := (true, "a80a3dc4cdd3a0dc176e6838a6fba252648a834ecb0930545843f536255719c0"), looks := true }, kinds := [], alts := [], laidByText := true, laidKinds := [.data, .pinned], laidTests := true, laidLooks := .later }
def LapsFoundCardSaid : Prop := Claim7.holds Tryz.pinned (.plain (OpenSpec.ofChange lapsFoundSpec)) lapsFoundCard

/-- THE TIED CARD OF 'tumblaw1.FinalsMade'. -/
def finalsMadeCard : Claim7 := { stood := { row := finalsMadeRow, standIns := [], harness := (true, "a80a3dc4cdd3a0dc176e6838a6fba252648a834ecb0930545843f536255719c0"), looks := true }, kinds := [], alts := [], laidByText := true, laidKinds := [.data, .data, .data, .data, .pinned], laidTests := true, laidLooks := .later }
def FinalsMadeCardSaid : Prop := Claim7.holds Tryz.pinned (.plain (OpenSpec.ofChange finalsMadeSpec)) finalsMadeCard

/-- THE TIED CARD OF 'tumblaw1.FieldTexts'. -/
def fieldTextsCard : Claim7 := { stood := { row := fieldTextsRow, standIns := [], harness := (true, "a80a3dc4cdd3a0dc176e6838a6fba252648a834ecb0930545843f536255719c0"), looks := true }, kinds := [], alts := [], laidByText := true, laidKinds := [.data, .data, .data, .data, .sentinel, .sentinel, .pinned], laidTests := true, laidLooks := .later }
def FieldTextsCardSaid : Prop := Claim7.holds Tryz.pinned (.plain (OpenSpec.ofChange fieldTextsSpec)) fieldTextsCard

/-- THE TIED CARD OF 'tumblaw1.SheetsMade'. -/
def sheetsMadeCard : Claim7 := { stood := { row := sheetsMadeRow, standIns := [], harness := (true, "a80a3dc4cdd3a0dc176e6838a6fba252648a834ecb0930545843f536255719c0"), looks := true }, kinds := [], alts := [], laidByText := true, laidKinds := [.data, .pinned], laidTests := true, laidLooks := .later }
def SheetsMadeCardSaid : Prop := Claim7.holds Tryz.pinned (.plain (OpenSpec.ofChange sheetsMadeSpec)) sheetsMadeCard

/-- THE TIED CARD OF 'tumblaw1.VerdictsTold'. -/
def verdictsToldCard : Claim7 := { stood := { row := verdictsToldRow, standIns := [], harness := (true, "a80a3dc4cdd3a0dc176e6838a6fba252648a834ecb0930545843f536255719c0"), looks := true }, kinds := [], alts := [], laidByText := true, laidKinds := [.data, .data, .data, .data, .pinned], laidTests := true, laidLooks := .later }
def VerdictsToldCardSaid : Prop := Claim7.holds Tryz.pinned (.plain (OpenSpec.ofChange verdictsToldSpec)) verdictsToldCard

/-- THE TIED CARD OF 'tumbkeep1.SwimOffsDecide'. -/
def swimOffsDecideCard : Claim7 := { stood := { row := swimOffsDecideRow, standIns := [], harness := (true, "a80a3dc4cdd3a0dc176e6838a6fba252648a834ecb0930545843f536255719c0"), looks := true }, kinds := [], alts := [], laidByText := true, laidKinds := [.data, .data, .data, .data, .pinned], laidTests := true, laidLooks := .later }
def SwimOffsDecideCardSaid : Prop := Claim7.holds Tryz.pinned (.plain (OpenSpec.ofChange swimOffsDecideSpec)) swimOffsDecideCard

/-- THE SECOND FORM's CARD OF 'tumblaw1.HeatsBegun'. -/
def heatsBegunUptoCard : Claim7 := { stood := { row := heatsBegunUptoRow, standIns := [], harness := (true, "a80a3dc4cdd3a0dc176e6838a6fba252648a834ecb0930545843f536255719c0"), looks := true }, kinds := [], alts := [], laidByText := true, laidKinds := [.data, .pinned], laidTests := true, laidLooks := .later }
def HeatsBegunUptoCardSaid : Prop := Claim7.holds Tryz.pinned (.plain (OpenSpec.upto heatsBegunSpec)) heatsBegunUptoCard

/-- THE SECOND FORM's CARD OF 'tumbtop.TopSheetsAreOfficial'. -/
def topSheetsAreOfficialUptoCard : Claim7 := { stood := { row := topSheetsAreOfficialUptoRow, standIns := [], harness := (true, "a80a3dc4cdd3a0dc176e6838a6fba252648a834ecb0930545843f536255719c0"), looks := true }, kinds := [], alts := [], laidByText := true, laidKinds := [.data, .data, .data, .data, .pinned], laidTests := true, laidLooks := .later }
def TopSheetsAreOfficialUptoCardSaid : Prop := Claim7.holds Tryz.pinned (.plain (OpenSpec.upto topSheetsAreOfficialSpec)) topSheetsAreOfficialUptoCard

/-- THE SECOND FORM's CARD OF 'tumblaw1.LapsFound'. -/
def lapsFoundUptoCard : Claim7 := { stood := { row := lapsFoundUptoRow, standIns := [], harness := (true, "a80a3dc4cdd3a0dc176e6838a6fba252648a834ecb0930545843f536255719c0"), looks := true }, kinds := [], alts := [], laidByText := true, laidKinds := [.data, .pinned], laidTests := true, laidLooks := .later }
def LapsFoundUptoCardSaid : Prop := Claim7.holds Tryz.pinned (.plain (OpenSpec.upto lapsFoundSpec)) lapsFoundUptoCard

/-- THE SECOND FORM's CARD OF 'tumblaw1.FinalsMade'. -/
def finalsMadeUptoCard : Claim7 := { stood := { row := finalsMadeUptoRow, standIns := [], harness := (true, "a80a3dc4cdd3a0dc176e6838a6fba252648a834ecb0930545843f536255719c0"), looks := true }, kinds := [], alts := [], laidByText := true, laidKinds := [.data, .data, .data, .data, .pinned], laidTests := true, laidLooks := .later }
def FinalsMadeUptoCardSaid : Prop := Claim7.holds Tryz.pinned (.plain (OpenSpec.upto finalsMadeSpec)) finalsMadeUptoCard

/-- THE SECOND FORM's CARD OF 'tumblaw1.FieldTexts'. -/
def fieldTextsUptoCard : Claim7 := { stood := { row := fieldTextsUptoRow, standIns := [], harness := (true, "a80a3dc4cdd3a0dc176e6838a6fba252648a834ecb0930545843f536255719c0"), looks := true }, kinds := [], alts := [], laidByText := true, laidKinds := [.data, .data, .data, .data, .sentinel, .sentinel, .pinned], laidTests := true, laidLooks := .later }
def FieldTextsUptoCardSaid : Prop := Claim7.holds Tryz.pinned (.plain (OpenSpec.upto fieldTextsSpec)) fieldTextsUptoCard

/-- THE SECOND FORM's CARD OF 'tumblaw1.SheetsMade'. -/
def sheetsMadeUptoCard : Claim7 := { stood := { row := sheetsMadeUptoRow, standIns := [], harness := (true, "a80a3dc4cdd3a0dc176e6838a6fba252648a834ecb0930545843f536255719c0"), looks := true }, kinds := [], alts := [], laidByText := true, laidKinds := [.data, .pinned], laidTests := true, laidLooks := .later }
def SheetsMadeUptoCardSaid : Prop := Claim7.holds Tryz.pinned (.plain (OpenSpec.upto sheetsMadeSpec)) sheetsMadeUptoCard

/-- THE SECOND FORM's CARD OF 'tumblaw1.VerdictsTold'. -/
def verdictsToldUptoCard : Claim7 := { stood := { row := verdictsToldUptoRow, standIns := [], harness := (true, "a80a3dc4cdd3a0dc176e6838a6fba252648a834ecb0930545843f536255719c0"), looks := true }, kinds := [], alts := [], laidByText := true, laidKinds := [.data, .data, .data, .data, .pinned], laidTests := true, laidLooks := .later }
def VerdictsToldUptoCardSaid : Prop := Claim7.holds Tryz.pinned (.plain (OpenSpec.upto verdictsToldSpec)) verdictsToldUptoCard

/-- THE SECOND FORM's CARD OF 'tumbkeep1.SwimOffsDecide'. -/
def swimOffsDecideUptoCard : Claim7 := { stood := { row := swimOffsDecideUptoRow, standIns := [], harness := (true, "a80a3dc4cdd3a0dc176e6838a6fba252648a834ecb0930545843f536255719c0"), looks := true }, kinds := [], alts := [], laidByText := true, laidKinds := [.data, .data, .data, .data, .pinned], laidTests := true, laidLooks := .later }
def SwimOffsDecideUptoCardSaid : Prop := Claim7.holds Tryz.pinned (.plain (OpenSpec.upto swimOffsDecideSpec)) swimOffsDecideUptoCard
end Rows
end Go.Proofs.YtmfebjeddgigmaaGreatDoor
