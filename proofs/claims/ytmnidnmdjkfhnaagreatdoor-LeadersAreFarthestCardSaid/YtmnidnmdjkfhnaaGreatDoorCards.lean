/-
  DERIVED. GIVEN WITH THE SEED: THE CARDS: each row of YtmnidnmdjkfhnaaGreatDoorRows.lean that lists a variable, with what it lists TIED to the program's text (the seventh form; the later family's looks); each row that meets fmt, with fmt's text TOLD by the authors' own Lean function (tested against real Go, not proved from fmt's source: count such statements apart). THE CARD IS WHAT COUNTS. Prove the row's statement (the work); the ties are given (YtmnidnmdjkfhnaaGreatDoorTie.lean); close each card by the builder's one call (the guide's Derived/Test/ToyasCard.lean, 'card_holds'). Laid BY PROGRAM, IN A SANDBOX (cutbox-door.mjs). By AI agents, Wed Nov 11 2026. No macro, syntax, notation, axiom, sorry.
-/
import Derived.Test.YtmnidnmdjkfhnaaGreatDoorRows
import GoSem.ClaimSeven
namespace Go.Proofs.YtmnidnmdjkfhnaaGreatDoor
namespace Rows

/-- THE TIED CARD OF 'tumbtop.TopWinnersLead'. -/
def topWinnersLeadCard : Claim7 := { stood := { row := topWinnersLeadRow, standIns := [], harness := (true, "13b5927ee16bfb3886a9026a169d8283ce689b2f194124264ae18f09aa6deadb"), looks := false }, kinds := [], alts := [], laidByText := true, laidKinds := [.data, .data, .data, .data, .pinned], laidTests := true, laidLooks := .later }
def TopWinnersLeadCardSaid : Prop := Claim7.holds Tryz.pinned (.plain (OpenSpec.ofChange topWinnersLeadSpec)) topWinnersLeadCard

/-- THE TIED CARD OF 'tumblaw1.FieldsTold'. -/
def fieldsToldCard : Claim7 := { stood := { row := fieldsToldRow, standIns := [], harness := (true, "13b5927ee16bfb3886a9026a169d8283ce689b2f194124264ae18f09aa6deadb"), looks := false }, kinds := [], alts := [], laidByText := true, laidKinds := [.data, .pinned], laidTests := true, laidLooks := .later }
def FieldsToldCardSaid : Prop := Claim7.holds Tryz.pinned (.plain (OpenSpec.ofChange fieldsToldSpec)) fieldsToldCard

/-- THE TIED CARD OF 'tumblaw1.LeadsFollowed'. -/
def leadsFollowedCard : Claim7 := { stood := { row := leadsFollowedRow, standIns := [], harness := (true, "13b5927ee16bfb3886a9026a169d8283ce689b2f194124264ae18f09aa6deadb"), looks := false }, kinds := [], alts := [], laidByText := true, laidKinds := [.data, .pinned], laidTests := true, laidLooks := .later }
def LeadsFollowedCardSaid : Prop := Claim7.holds Tryz.pinned (.plain (OpenSpec.ofChange leadsFollowedSpec)) leadsFollowedCard

/-- THE TIED CARD OF 'tumbkeep1.LeadersAreFarthest'. -/
def leadersAreFarthestCard : Claim7 := { stood := { row := leadersAreFarthestRow, standIns := [], harness := (true, "13b5927ee16bfb3886a9026a169d8283ce689b2f194124264ae18f09aa6deadb"), looks := false }, kinds := [], alts := [], laidByText := true, laidKinds := [.data, .data, .data, .data, .pinned], laidTests := true, laidLooks := .later }
def LeadersAreFarthestCardSaid : Prop := Claim7.holds Tryz.pinned (.plain (OpenSpec.ofChange leadersAreFarthestSpec)) leadersAreFarthestCard

/-- THE TIED CARD OF 'tumbkeep1.PassesChangeSides'. -/
def passesChangeSidesCard : Claim7 := { stood := { row := passesChangeSidesRow, standIns := [], harness := (true, "13b5927ee16bfb3886a9026a169d8283ce689b2f194124264ae18f09aa6deadb"), looks := false }, kinds := [], alts := [], laidByText := true, laidKinds := [.data, .data, .data, .data, .pinned], laidTests := true, laidLooks := .later }
def PassesChangeSidesCardSaid : Prop := Claim7.holds Tryz.pinned (.plain (OpenSpec.ofChange passesChangeSidesSpec)) passesChangeSidesCard

/-- THE SECOND FORM's CARD OF 'tumbtop.TopWinnersLead'. -/
def topWinnersLeadUptoCard : Claim7 := { stood := { row := topWinnersLeadUptoRow, standIns := [], harness := (true, "13b5927ee16bfb3886a9026a169d8283ce689b2f194124264ae18f09aa6deadb"), looks := false }, kinds := [], alts := [], laidByText := true, laidKinds := [.data, .data, .data, .data, .pinned], laidTests := true, laidLooks := .later }
def TopWinnersLeadUptoCardSaid : Prop := Claim7.holds Tryz.pinned (.plain (OpenSpec.upto topWinnersLeadSpec)) topWinnersLeadUptoCard

/-- THE SECOND FORM's CARD OF 'tumblaw1.FieldsTold'. -/
def fieldsToldUptoCard : Claim7 := { stood := { row := fieldsToldUptoRow, standIns := [], harness := (true, "13b5927ee16bfb3886a9026a169d8283ce689b2f194124264ae18f09aa6deadb"), looks := false }, kinds := [], alts := [], laidByText := true, laidKinds := [.data, .pinned], laidTests := true, laidLooks := .later }
def FieldsToldUptoCardSaid : Prop := Claim7.holds Tryz.pinned (.plain (OpenSpec.upto fieldsToldSpec)) fieldsToldUptoCard

/-- THE SECOND FORM's CARD OF 'tumblaw1.LeadsFollowed'. -/
def leadsFollowedUptoCard : Claim7 := { stood := { row := leadsFollowedUptoRow, standIns := [], harness := (true, "13b5927ee16bfb3886a9026a169d8283ce689b2f194124264ae18f09aa6deadb"), looks := false }, kinds := [], alts := [], laidByText := true, laidKinds := [.data, .pinned], laidTests := true, laidLooks := .later }
def LeadsFollowedUptoCardSaid : Prop := Claim7.holds Tryz.pinned (.plain (OpenSpec.upto leadsFollowedSpec)) leadsFollowedUptoCard

/-- THE SECOND FORM's CARD OF 'tumbkeep1.LeadersAreFarthest'. -/
def leadersAreFarthestUptoCard : Claim7 := { stood := { row := leadersAreFarthestUptoRow, standIns := [], harness := (true, "13b5927ee16bfb3886a9026a169d8283ce689b2f194124264ae18f09aa6deadb"), looks := false }, kinds := [], alts := [], laidByText := true, laidKinds := [.data, .data, .data, .data, .pinned], laidTests := true, laidLooks := .later }
def LeadersAreFarthestUptoCardSaid : Prop := Claim7.holds Tryz.pinned (.plain (OpenSpec.upto leadersAreFarthestSpec)) leadersAreFarthestUptoCard

/-- THE SECOND FORM's CARD OF 'tumbkeep1.PassesChangeSides'. -/
def passesChangeSidesUptoCard : Claim7 := { stood := { row := passesChangeSidesUptoRow, standIns := [], harness := (true, "13b5927ee16bfb3886a9026a169d8283ce689b2f194124264ae18f09aa6deadb"), looks := false }, kinds := [], alts := [], laidByText := true, laidKinds := [.data, .data, .data, .data, .pinned], laidTests := true, laidLooks := .later }
def PassesChangeSidesUptoCardSaid : Prop := Claim7.holds Tryz.pinned (.plain (OpenSpec.upto passesChangeSidesSpec)) passesChangeSidesUptoCard
end Rows
end Go.Proofs.YtmnidnmdjkfhnaaGreatDoor
