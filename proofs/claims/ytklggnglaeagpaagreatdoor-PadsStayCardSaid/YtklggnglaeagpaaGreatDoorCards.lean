/-
  DERIVED. GIVEN WITH THE SEED: THE CARDS: each row of YtklggnglaeagpaaGreatDoorRows.lean that lists a variable, with what it lists TIED to the program's text (the seventh form; the later family's looks); each row that meets fmt, with fmt's text TOLD by the authors' own Lean function (tested against real Go, not proved from fmt's source: count such statements apart). THE CARD IS WHAT COUNTS. Prove the row's statement (the work); the ties are given (YtklggnglaeagpaaGreatDoorTie.lean); close each card by the builder's one call (the guide's Derived/Test/ToyasCard.lean, 'card_holds'). Laid BY PROGRAM, IN A SANDBOX (cutbox-door.mjs). By AI agents, Wed Nov 11 2026. No macro, syntax, notation, axiom, sorry.
-/
import Derived.Test.YtklggnglaeagpaaGreatDoorRows
import GoSem.ClaimSeven
namespace Go.Proofs.YtklggnglaeagpaaGreatDoor
namespace Rows

/-- THE TIED CARD OF 'tumblaw1.TimesRanked'. -/
def timesRankedCard : Claim7 := { stood := { row := timesRankedRow, standIns := [], harness := (true, "05183b168a8a1447082f016759863a0028ca590ee9066cdc282db05bedbebbee"), looks := true }, kinds := [], alts := [], laidByText := true, laidKinds := [.data, .data, .data, .data, .pinned], laidTests := true, laidLooks := .later }
def TimesRankedCardSaid : Prop := Claim7.holds Tryz.pinned (.plain (OpenSpec.ofChange timesRankedSpec)) timesRankedCard

/-- THE TIED CARD OF 'tumbkeep1.PadsStay'. -/
def padsStayCard : Claim7 := { stood := { row := padsStayRow, standIns := [], harness := (true, "05183b168a8a1447082f016759863a0028ca590ee9066cdc282db05bedbebbee"), looks := true }, kinds := [], alts := [], laidByText := true, laidKinds := [.data, .data, .data, .data, .pinned], laidTests := true, laidLooks := .later }
def PadsStayCardSaid : Prop := Claim7.holds Tryz.pinned (.plain (OpenSpec.ofChange padsStaySpec)) padsStayCard

/-- THE TIED CARD OF 'tumbkeep1.TimesStay'. -/
def timesStayCard : Claim7 := { stood := { row := timesStayRow, standIns := [], harness := (true, "05183b168a8a1447082f016759863a0028ca590ee9066cdc282db05bedbebbee"), looks := true }, kinds := [], alts := [], laidByText := true, laidKinds := [.data, .data, .data, .data, .pinned], laidTests := true, laidLooks := .later }
def TimesStayCardSaid : Prop := Claim7.holds Tryz.pinned (.plain (OpenSpec.ofChange timesStaySpec)) timesStayCard

/-- THE TIED CARD OF 'tumbkeep1.JudgesStay'. -/
def judgesStayCard : Claim7 := { stood := { row := judgesStayRow, standIns := [], harness := (true, "05183b168a8a1447082f016759863a0028ca590ee9066cdc282db05bedbebbee"), looks := true }, kinds := [], alts := [], laidByText := true, laidKinds := [.data, .data, .data, .data, .pinned], laidTests := true, laidLooks := .later }
def JudgesStayCardSaid : Prop := Claim7.holds Tryz.pinned (.plain (OpenSpec.ofChange judgesStaySpec)) judgesStayCard

/-- THE TIED CARD OF 'tumblaw1.SheetsFixed'. -/
def sheetsFixedCard : Claim7 := { stood := { row := sheetsFixedRow, standIns := [], harness := (true, "05183b168a8a1447082f016759863a0028ca590ee9066cdc282db05bedbebbee"), looks := true }, kinds := [], alts := [], laidByText := true, laidKinds := [.data, .data, .data, .data, .sentinel, .sentinel, .pinned], laidTests := true, laidLooks := .later }
def SheetsFixedCardSaid : Prop := Claim7.holds Tryz.pinned (.plain (OpenSpec.ofChange sheetsFixedSpec)) sheetsFixedCard

/-- THE TIED CARD OF 'tumblaw1.PlacesChanged'. -/
def placesChangedCard : Claim7 := { stood := { row := placesChangedRow, standIns := [], harness := (true, "05183b168a8a1447082f016759863a0028ca590ee9066cdc282db05bedbebbee"), looks := true }, kinds := [], alts := [], laidByText := true, laidKinds := [.data, .data, .data, .data, .sentinel, .sentinel, .pinned], laidTests := true, laidLooks := .later }
def PlacesChangedCardSaid : Prop := Claim7.holds Tryz.pinned (.plain (OpenSpec.ofChange placesChangedSpec)) placesChangedCard

/-- THE TIED CARD OF 'tumblaw1.MedalsGiven'. -/
def medalsGivenCard : Claim7 := { stood := { row := medalsGivenRow, standIns := [], harness := (true, "05183b168a8a1447082f016759863a0028ca590ee9066cdc282db05bedbebbee"), looks := true }, kinds := [], alts := [], laidByText := true, laidKinds := [.data, .data, .data, .data, .sentinel, .sentinel, .pinned], laidTests := true, laidLooks := .later }
def MedalsGivenCardSaid : Prop := Claim7.holds Tryz.pinned (.plain (OpenSpec.ofChange medalsGivenSpec)) medalsGivenCard

/-- THE SECOND FORM's CARD OF 'tumblaw1.TimesRanked'. -/
def timesRankedUptoCard : Claim7 := { stood := { row := timesRankedUptoRow, standIns := [], harness := (true, "05183b168a8a1447082f016759863a0028ca590ee9066cdc282db05bedbebbee"), looks := true }, kinds := [], alts := [], laidByText := true, laidKinds := [.data, .data, .data, .data, .pinned], laidTests := true, laidLooks := .later }
def TimesRankedUptoCardSaid : Prop := Claim7.holds Tryz.pinned (.plain (OpenSpec.upto timesRankedSpec)) timesRankedUptoCard

/-- THE SECOND FORM's CARD OF 'tumbkeep1.PadsStay'. -/
def padsStayUptoCard : Claim7 := { stood := { row := padsStayUptoRow, standIns := [], harness := (true, "05183b168a8a1447082f016759863a0028ca590ee9066cdc282db05bedbebbee"), looks := true }, kinds := [], alts := [], laidByText := true, laidKinds := [.data, .data, .data, .data, .pinned], laidTests := true, laidLooks := .later }
def PadsStayUptoCardSaid : Prop := Claim7.holds Tryz.pinned (.plain (OpenSpec.upto padsStaySpec)) padsStayUptoCard

/-- THE SECOND FORM's CARD OF 'tumbkeep1.TimesStay'. -/
def timesStayUptoCard : Claim7 := { stood := { row := timesStayUptoRow, standIns := [], harness := (true, "05183b168a8a1447082f016759863a0028ca590ee9066cdc282db05bedbebbee"), looks := true }, kinds := [], alts := [], laidByText := true, laidKinds := [.data, .data, .data, .data, .pinned], laidTests := true, laidLooks := .later }
def TimesStayUptoCardSaid : Prop := Claim7.holds Tryz.pinned (.plain (OpenSpec.upto timesStaySpec)) timesStayUptoCard

/-- THE SECOND FORM's CARD OF 'tumbkeep1.JudgesStay'. -/
def judgesStayUptoCard : Claim7 := { stood := { row := judgesStayUptoRow, standIns := [], harness := (true, "05183b168a8a1447082f016759863a0028ca590ee9066cdc282db05bedbebbee"), looks := true }, kinds := [], alts := [], laidByText := true, laidKinds := [.data, .data, .data, .data, .pinned], laidTests := true, laidLooks := .later }
def JudgesStayUptoCardSaid : Prop := Claim7.holds Tryz.pinned (.plain (OpenSpec.upto judgesStaySpec)) judgesStayUptoCard

/-- THE SECOND FORM's CARD OF 'tumblaw1.SheetsFixed'. -/
def sheetsFixedUptoCard : Claim7 := { stood := { row := sheetsFixedUptoRow, standIns := [], harness := (true, "05183b168a8a1447082f016759863a0028ca590ee9066cdc282db05bedbebbee"), looks := true }, kinds := [], alts := [], laidByText := true, laidKinds := [.data, .data, .data, .data, .sentinel, .sentinel, .pinned], laidTests := true, laidLooks := .later }
def SheetsFixedUptoCardSaid : Prop := Claim7.holds Tryz.pinned (.plain (OpenSpec.upto sheetsFixedSpec)) sheetsFixedUptoCard

/-- THE SECOND FORM's CARD OF 'tumblaw1.PlacesChanged'. -/
def placesChangedUptoCard : Claim7 := { stood := { row := placesChangedUptoRow, standIns := [], harness := (true, "05183b168a8a1447082f016759863a0028ca590ee9066cdc282db05bedbebbee"), looks := true }, kinds := [], alts := [], laidByText := true, laidKinds := [.data, .data, .data, .data, .sentinel, .sentinel, .pinned], laidTests := true, laidLooks := .later }
def PlacesChangedUptoCardSaid : Prop := Claim7.holds Tryz.pinned (.plain (OpenSpec.upto placesChangedSpec)) placesChangedUptoCard

/-- THE SECOND FORM's CARD OF 'tumblaw1.MedalsGiven'. -/
def medalsGivenUptoCard : Claim7 := { stood := { row := medalsGivenUptoRow, standIns := [], harness := (true, "05183b168a8a1447082f016759863a0028ca590ee9066cdc282db05bedbebbee"), looks := true }, kinds := [], alts := [], laidByText := true, laidKinds := [.data, .data, .data, .data, .sentinel, .sentinel, .pinned], laidTests := true, laidLooks := .later }
def MedalsGivenUptoCardSaid : Prop := Claim7.holds Tryz.pinned (.plain (OpenSpec.upto medalsGivenSpec)) medalsGivenUptoCard
end Rows
end Go.Proofs.YtklggnglaeagpaaGreatDoor
