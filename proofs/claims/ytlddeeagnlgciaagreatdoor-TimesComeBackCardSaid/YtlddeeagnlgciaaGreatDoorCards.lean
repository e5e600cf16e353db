/-
  DERIVED. GIVEN WITH THE SEED: THE CARDS: each row of YtlddeeagnlgciaaGreatDoorRows.lean that lists a variable, with what it lists TIED to the program's text (the seventh form; the later family's looks); each row that meets fmt, with fmt's text TOLD by the authors' own Lean function (tested against real Go, not proved from fmt's source: count such statements apart). THE CARD IS WHAT COUNTS. Prove the row's statement (the work); the ties are given (YtlddeeagnlgciaaGreatDoorTie.lean); close each card by the builder's one call (the guide's Derived/Test/ToyasCard.lean, 'card_holds'). Laid BY PROGRAM, IN A SANDBOX (cutbox-door.mjs). By AI agents, Wed Nov 11 2026. No macro, syntax, notation, axiom, sorry.
-/
import Derived.Test.YtlddeeagnlgciaaGreatDoorRows
import GoSem.ClaimSeven
namespace Go.Proofs.YtlddeeagnlgciaaGreatDoor
namespace Rows

/-- THE TIED CARD OF 'tumbtop.TopWinnersLead'. -/
def topWinnersLeadCard : Claim7 := { stood := { row := topWinnersLeadRow, standIns := [], harness := (true, "a5ab90c912b639e4d8bb2ca96108120f8a6456aa69e1d47c4da36c1752ecd6ab"), looks := true }, kinds := [], alts := [], laidByText := true, laidKinds := [.data, .data, .data, .data, .pinned], laidTests := true, laidLooks := .later }
def TopWinnersLeadCardSaid : Prop := Claim7.holds Tryz.pinned (.plain (OpenSpec.ofChange topWinnersLeadSpec)) topWinnersLeadCard

/-- THE TIED CARD OF 'tumblaw1.HeatsBegun'. -/
def heatsBegunCard : Claim7 := { stood := { row := heatsBegunRow, standIns := [], harness := (true, "a5ab90c912b639e4d8bb2ca96108120f8a6456aa69e1d47c4da36c1752ecd6ab"), looks := true }, kinds := [], alts := [], laidByText := true, laidKinds := [.data, .pinned], laidTests := true, laidLooks := .later }
def HeatsBegunCardSaid : Prop := Claim7.holds Tryz.pinned (.plain (OpenSpec.ofChange heatsBegunSpec)) heatsBegunCard

/-- THE TIED CARD OF 'tumblaw1.LeadsFollowed'. -/
def leadsFollowedCard : Claim7 := { stood := { row := leadsFollowedRow, standIns := [], harness := (true, "a5ab90c912b639e4d8bb2ca96108120f8a6456aa69e1d47c4da36c1752ecd6ab"), looks := true }, kinds := [], alts := [], laidByText := true, laidKinds := [.data, .pinned], laidTests := true, laidLooks := .later }
def LeadsFollowedCardSaid : Prop := Claim7.holds Tryz.pinned (.plain (OpenSpec.ofChange leadsFollowedSpec)) leadsFollowedCard

/-- THE TIED CARD OF 'tumblaw1.TimesRanked'. -/
def timesRankedCard : Claim7 := { stood := { row := timesRankedRow, standIns := [], harness := (true, "a5ab90c912b639e4d8bb2ca96108120f8a6456aa69e1d47c4da36c1752ecd6ab"), looks := true }, kinds := [], alts := [], laidByText := true, laidKinds := [.data, .data, .data, .data, .pinned], laidTests := true, laidLooks := .later }
def TimesRankedCardSaid : Prop := Claim7.holds Tryz.pinned (.plain (OpenSpec.ofChange timesRankedSpec)) timesRankedCard

/-- THE TIED CARD OF 'tumblaw1.HeatsSized'. -/
def heatsSizedCard : Claim7 := { stood := { row := heatsSizedRow, standIns := [], harness := (true, "a5ab90c912b639e4d8bb2ca96108120f8a6456aa69e1d47c4da36c1752ecd6ab"), looks := true }, kinds := [], alts := [], laidByText := true, laidKinds := [.data, .data, .data, .data, .pinned], laidTests := true, laidLooks := .later }
def HeatsSizedCardSaid : Prop := Claim7.holds Tryz.pinned (.plain (OpenSpec.ofChange heatsSizedSpec)) heatsSizedCard

/-- THE TIED CARD OF 'tumbkeep1.TimesComeBack'. -/
def timesComeBackCard : Claim7 := { stood := { row := timesComeBackRow, standIns := [], harness := (true, "a5ab90c912b639e4d8bb2ca96108120f8a6456aa69e1d47c4da36c1752ecd6ab"), looks := true }, kinds := [], alts := [], laidByText := true, laidKinds := [.data, .data, .data, .data, .sentinel, .sentinel, .pinned], laidTests := true, laidLooks := .later }
def TimesComeBackCardSaid : Prop := Claim7.holds Tryz.pinned (.plain (OpenSpec.ofChange timesComeBackSpec)) timesComeBackCard

/-- THE TIED CARD OF 'tumbkeep1.PassesChangeSides'. -/
def passesChangeSidesCard : Claim7 := { stood := { row := passesChangeSidesRow, standIns := [], harness := (true, "a5ab90c912b639e4d8bb2ca96108120f8a6456aa69e1d47c4da36c1752ecd6ab"), looks := true }, kinds := [], alts := [], laidByText := true, laidKinds := [.data, .data, .data, .data, .pinned], laidTests := true, laidLooks := .later }
def PassesChangeSidesCardSaid : Prop := Claim7.holds Tryz.pinned (.plain (OpenSpec.ofChange passesChangeSidesSpec)) passesChangeSidesCard

/-- THE SECOND FORM's CARD OF 'tumbtop.TopWinnersLead'. -/
def topWinnersLeadUptoCard : Claim7 := { stood := { row := topWinnersLeadUptoRow, standIns := [], harness := (true, "a5ab90c912b639e4d8bb2ca96108120f8a6456aa69e1d47c4da36c1752ecd6ab"), looks := true }, kinds := [], alts := [], laidByText := true, laidKinds := [.data, .data, .data, .data, .pinned], laidTests := true, laidLooks := .later }
def TopWinnersLeadUptoCardSaid : Prop := Claim7.holds Tryz.pinned (.plain (OpenSpec.upto topWinnersLeadSpec)) topWinnersLeadUptoCard

/-- THE SECOND FORM's CARD OF 'tumblaw1.HeatsBegun'. -/
def heatsBegunUptoCard : Claim7 := { stood := { row := heatsBegunUptoRow, standIns := [], harness := (true, "a5ab90c912b639e4d8bb2ca96108120f8a6456aa69e1d47c4da36c1752ecd6ab"), looks := true }, kinds := [], alts := [], laidByText := true, laidKinds := [.data, .pinned], laidTests := true, laidLooks := .later }
def HeatsBegunUptoCardSaid : Prop := Claim7.holds Tryz.pinned (.plain (OpenSpec.upto heatsBegunSpec)) heatsBegunUptoCard

/-- THE SECOND FORM's CARD OF 'tumblaw1.LeadsFollowed'. -/
def leadsFollowedUptoCard : Claim7 := { stood := { row := leadsFollowedUptoRow, standIns := [], harness := (true, "a5ab90c912b639e4d8bb2ca96108120f8a6456aa69e1d47c4da36c1752ecd6ab"), looks := true }, kinds := [], alts := [], laidByText := true, laidKinds := [.data, .pinned], laidTests := true, laidLooks := .later }
def LeadsFollowedUptoCardSaid : Prop := Claim7.holds Tryz.pinned (.plain (OpenSpec.upto leadsFollowedSpec)) leadsFollowedUptoCard

/-- THE SECOND FORM's CARD OF 'tumblaw1.TimesRanked'. -/
def timesRankedUptoCard : Claim7 := { stood := { row := timesRankedUptoRow, standIns := [], harness := (true, "a5ab90c912b639e4d8bb2ca96108120f8a6456aa69e1d47c4da36c1752ecd6ab"), looks := true }, kinds := [], alts := [], laidByText := true, laidKinds := [.data, .data, .data, .data, .pinned], laidTests := true, laidLooks := .later }
def TimesRankedUptoCardSaid : Prop := Claim7.holds Tryz.pinned (.plain (OpenSpec.upto timesRankedSpec)) timesRankedUptoCard

/-- THE SECOND FORM's CARD OF 'tumblaw1.HeatsSized'. -/
def heatsSizedUptoCard : Claim7 := { stood := { row := heatsSizedUptoRow, standIns := [], harness := (true, "a5ab90c912b639e4d8bb2ca96108120f8a6456aa69e1d47c4da36c1752ecd6ab"), looks := true }, kinds := [], alts := [], laidByText := true, laidKinds := [.data, .data, .data, .data, .pinned], laidTests := true, laidLooks := .later }
def HeatsSizedUptoCardSaid : Prop := Claim7.holds Tryz.pinned (.plain (OpenSpec.upto heatsSizedSpec)) heatsSizedUptoCard

/-- THE SECOND FORM's CARD OF 'tumbkeep1.TimesComeBack'. -/
def timesComeBackUptoCard : Claim7 := { stood := { row := timesComeBackUptoRow, standIns := [], harness := (true, "a5ab90c912b639e4d8bb2ca96108120f8a6456aa69e1d47c4da36c1752ecd6ab"), looks := true }, kinds := [], alts := [], laidByText := true, laidKinds := [.data, .data, .data, .data, .sentinel, .sentinel, .pinned], laidTests := true, laidLooks := .later }
def TimesComeBackUptoCardSaid : Prop := Claim7.holds Tryz.pinned (.plain (OpenSpec.upto timesComeBackSpec)) timesComeBackUptoCard

/-- THE SECOND FORM's CARD OF 'tumbkeep1.PassesChangeSides'. -/
def passesChangeSidesUptoCard : Claim7 := { stood := { row := passesChangeSidesUptoRow, standIns := [], harness := (true, "a5ab90c912b639e4d8bb2ca96108120f8a6456aa69e1d47c4da36c1752ecd6ab"), looks := true }, kinds := [], alts := [], laidByText := true, laidKinds := [.data, .data, .data, .data, .pinned], laidTests := true, laidLooks := .later }
def PassesChangeSidesUptoCardSaid : Prop := Claim7.holds Tryz.pinned (.plain (OpenSpec.upto passesChangeSidesSpec)) passesChangeSidesUptoCard
end Rows
end Go.Proofs.YtlddeeagnlgciaaGreatDoor
