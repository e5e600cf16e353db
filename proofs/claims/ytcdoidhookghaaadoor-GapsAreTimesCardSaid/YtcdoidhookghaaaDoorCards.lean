/-
  DERIVED. GIVEN WITH THE SEED: THE CARDS: each row of YtcdoidhookghaaaDoorRows.lean that lists a variable, with what it lists TIED to the program's text (the seventh form; the later family's looks); each row that meets fmt, with fmt's text TOLD by the authors' own Lean function (tested against real Go, not proved from fmt's source: count such statements apart). THE CARD IS WHAT COUNTS. Prove the row's statement (the work); the ties are given (YtcdoidhookghaaaDoorTie.lean); close each card by the builder's one call (the guide's Derived/Test/ToyasCard.lean, 'card_holds'). Laid BY PROGRAM, IN A SANDBOX (cutbox-door.mjs). By AI agents, Wed Nov 11 2026. No macro, syntax, notation, axiom, sorry.
-/
import Derived.Test.YtcdoidhookghaaaDoorRows
import GoSem.ClaimSeven
namespace Go.Proofs.YtcdoidhookghaaaDoor
namespace Rows

/-- THE TIED CARD OF 'tumblaw1.LengthsBest'. -/
def lengthsBestCard : Claim7 := { stood := { row := lengthsBestRow, standIns := [], harness := (true, "53a512281f7af86b40953945a25eea9736d6d18ad08e47614e9b7f992332d89d"), looks := true }, kinds := [], alts := [], laidByText := true, laidKinds := [.data, .pinned], laidTests := true, laidLooks := .later }
def LengthsBestCardSaid : Prop := Claim7.holds Tryd.pinned (.plain (OpenSpec.ofChange lengthsBestSpec)) lengthsBestCard

/-- THE TIED CARD OF 'tumblaw1.TouchesOfficial'. -/
def touchesOfficialCard : Claim7 := { stood := { row := touchesOfficialRow, standIns := [], harness := (true, "53a512281f7af86b40953945a25eea9736d6d18ad08e47614e9b7f992332d89d"), looks := true }, kinds := [], alts := [], laidByText := true, laidKinds := [.data, .data, .data], laidTests := true, laidLooks := .later }
def TouchesOfficialCardSaid : Prop := Claim7.holds Tryd.pinned (.plain (OpenSpec.ofChange touchesOfficialSpec)) touchesOfficialCard

/-- THE TIED CARD OF 'tumbkeep1.GapsAreTimes'. -/
def gapsAreTimesCard : Claim7 := { stood := { row := gapsAreTimesRow, standIns := [], harness := (true, "53a512281f7af86b40953945a25eea9736d6d18ad08e47614e9b7f992332d89d"), looks := true }, kinds := [], alts := [], laidByText := true, laidKinds := [.data, .data, .data, .data, .pinned], laidTests := true, laidLooks := .later }
def GapsAreTimesCardSaid : Prop := Claim7.holds Tryd.pinned (.plain (OpenSpec.ofChange gapsAreTimesSpec)) gapsAreTimesCard

/-- THE TIED CARD OF 'tumblaw1.TimesWritten'. -/
def timesWrittenCard : Claim7 := { stood := { row := timesWrittenRow, standIns := [], harness := (true, "53a512281f7af86b40953945a25eea9736d6d18ad08e47614e9b7f992332d89d"), looks := true }, kinds := [], alts := [], laidByText := true, laidKinds := [.data, .data, .data, .data, .sentinel, .sentinel, .pinned], laidTests := true, laidLooks := .later }
def TimesWrittenCardSaid : Prop := Claim7.holds Tryd.pinned (.plain (OpenSpec.ofChange timesWrittenSpec)) timesWrittenCard

/-- THE TIED CARD OF 'tumbkeep1.IdealIsBest'. -/
def idealIsBestCard : Claim7 := { stood := { row := idealIsBestRow, standIns := [], harness := (true, "53a512281f7af86b40953945a25eea9736d6d18ad08e47614e9b7f992332d89d"), looks := true }, kinds := [], alts := [], laidByText := true, laidKinds := [.data, .data, .data, .data, .pinned], laidTests := true, laidLooks := .later }
def IdealIsBestCardSaid : Prop := Claim7.holds Tryd.pinned (.plain (OpenSpec.ofChange idealIsBestSpec)) idealIsBestCard

/-- THE TIED CARD OF 'tumbkeep1.RacesStay'. -/
def racesStayCard : Claim7 := { stood := { row := racesStayRow, standIns := [], harness := (true, "53a512281f7af86b40953945a25eea9736d6d18ad08e47614e9b7f992332d89d"), looks := true }, kinds := [], alts := [], laidByText := true, laidKinds := [.data, .data, .data, .data, .pinned], laidTests := true, laidLooks := .later }
def RacesStayCardSaid : Prop := Claim7.holds Tryd.pinned (.plain (OpenSpec.ofChange racesStaySpec)) racesStayCard

/-- THE SECOND FORM's CARD OF 'tumblaw1.LengthsBest'. -/
def lengthsBestUptoCard : Claim7 := { stood := { row := lengthsBestUptoRow, standIns := [], harness := (true, "53a512281f7af86b40953945a25eea9736d6d18ad08e47614e9b7f992332d89d"), looks := true }, kinds := [], alts := [], laidByText := true, laidKinds := [.data, .pinned], laidTests := true, laidLooks := .later }
def LengthsBestUptoCardSaid : Prop := Claim7.holds Tryd.pinned (.plain (OpenSpec.upto lengthsBestSpec)) lengthsBestUptoCard

/-- THE SECOND FORM's CARD OF 'tumblaw1.TouchesOfficial'. -/
def touchesOfficialUptoCard : Claim7 := { stood := { row := touchesOfficialUptoRow, standIns := [], harness := (true, "53a512281f7af86b40953945a25eea9736d6d18ad08e47614e9b7f992332d89d"), looks := true }, kinds := [], alts := [], laidByText := true, laidKinds := [.data, .data, .data], laidTests := true, laidLooks := .later }
def TouchesOfficialUptoCardSaid : Prop := Claim7.holds Tryd.pinned (.plain (OpenSpec.upto touchesOfficialSpec)) touchesOfficialUptoCard

/-- THE SECOND FORM's CARD OF 'tumbkeep1.GapsAreTimes'. -/
def gapsAreTimesUptoCard : Claim7 := { stood := { row := gapsAreTimesUptoRow, standIns := [], harness := (true, "53a512281f7af86b40953945a25eea9736d6d18ad08e47614e9b7f992332d89d"), looks := true }, kinds := [], alts := [], laidByText := true, laidKinds := [.data, .data, .data, .data, .pinned], laidTests := true, laidLooks := .later }
def GapsAreTimesUptoCardSaid : Prop := Claim7.holds Tryd.pinned (.plain (OpenSpec.upto gapsAreTimesSpec)) gapsAreTimesUptoCard

/-- THE SECOND FORM's CARD OF 'tumblaw1.TimesWritten'. -/
def timesWrittenUptoCard : Claim7 := { stood := { row := timesWrittenUptoRow, standIns := [], harness := (true, "53a512281f7af86b40953945a25eea9736d6d18ad08e47614e9b7f992332d89d"), looks := true }, kinds := [], alts := [], laidByText := true, laidKinds := [.data, .data, .data, .data, .sentinel, .sentinel, .pinned], laidTests := true, laidLooks := .later }
def TimesWrittenUptoCardSaid : Prop := Claim7.holds Tryd.pinned (.plain (OpenSpec.upto timesWrittenSpec)) timesWrittenUptoCard

/-- THE SECOND FORM's CARD OF 'tumbkeep1.IdealIsBest'. -/
def idealIsBestUptoCard : Claim7 := { stood := { row := idealIsBestUptoRow, standIns := [], harness := (true, "53a512281f7af86b40953945a25eea9736d6d18ad08e47614e9b7f992332d89d"), looks := true }, kinds := [], alts := [], laidByText := true, laidKinds := [.data, .data, .data, .data, .pinned], laidTests := true, laidLooks := .later }
def IdealIsBestUptoCardSaid : Prop := Claim7.holds Tryd.pinned (.plain (OpenSpec.upto idealIsBestSpec)) idealIsBestUptoCard

/-- THE SECOND FORM's CARD OF 'tumbkeep1.RacesStay'. -/
def racesStayUptoCard : Claim7 := { stood := { row := racesStayUptoRow, standIns := [], harness := (true, "53a512281f7af86b40953945a25eea9736d6d18ad08e47614e9b7f992332d89d"), looks := true }, kinds := [], alts := [], laidByText := true, laidKinds := [.data, .data, .data, .data, .pinned], laidTests := true, laidLooks := .later }
def RacesStayUptoCardSaid : Prop := Claim7.holds Tryd.pinned (.plain (OpenSpec.upto racesStaySpec)) racesStayUptoCard
end Rows
end Go.Proofs.YtcdoidhookghaaaDoor
