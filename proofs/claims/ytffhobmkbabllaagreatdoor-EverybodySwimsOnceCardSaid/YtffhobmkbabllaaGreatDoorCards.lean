/-
  DERIVED. GIVEN WITH THE SEED: THE CARDS: each row of YtffhobmkbabllaaGreatDoorRows.lean that lists a variable, with what it lists TIED to the program's text (the seventh form; the later family's looks); each row that meets fmt, with fmt's text TOLD by the authors' own Lean function (tested against real Go, not proved from fmt's source: count such statements apart). THE CARD IS WHAT COUNTS. Prove the row's statement (the work); the ties are given (YtffhobmkbabllaaGreatDoorTie.lean); close each card by the builder's one call (the guide's Derived/Test/ToyasCard.lean, 'card_holds'). Laid BY PROGRAM, IN A SANDBOX (cutbox-door.mjs). By AI agents, Wed Nov 11 2026. No macro, syntax, notation, axiom, sorry.
-/
import Derived.Test.YtffhobmkbabllaaGreatDoorRows
import GoSem.ClaimSeven
namespace Go.Proofs.YtffhobmkbabllaaGreatDoor
namespace Rows

/-- THE TIED CARD OF 'tumblaw1.TimesRanked'. -/
def timesRankedCard : Claim7 := { stood := { row := timesRankedRow, standIns := [], harness := (true, "71cb750c513158e50bdfad1b05f56973389140de8904c2755b89b63cc85d4327"), looks := false }, kinds := [], alts := [], laidByText := true, laidKinds := [.data, .data, .data, .data, .pinned], laidTests := true, laidLooks := .later }
def TimesRankedCardSaid : Prop := Claim7.holds Tryz.pinned (.plain (OpenSpec.ofChange timesRankedSpec)) timesRankedCard

/-- THE TIED CARD OF 'tumbkeep1.TimesStay'. -/
def timesStayCard : Claim7 := { stood := { row := timesStayRow, standIns := [], harness := (true, "71cb750c513158e50bdfad1b05f56973389140de8904c2755b89b63cc85d4327"), looks := false }, kinds := [], alts := [], laidByText := true, laidKinds := [.data, .data, .data, .data, .pinned], laidTests := true, laidLooks := .later }
def TimesStayCardSaid : Prop := Claim7.holds Tryz.pinned (.plain (OpenSpec.ofChange timesStaySpec)) timesStayCard

/-- THE TIED CARD OF 'tumblaw1.StartsChanged'. -/
def startsChangedCard : Claim7 := { stood := { row := startsChangedRow, standIns := [], harness := (true, "71cb750c513158e50bdfad1b05f56973389140de8904c2755b89b63cc85d4327"), looks := false }, kinds := [], alts := [], laidByText := true, laidKinds := [.data, .data, .data, .data, .pinned], laidTests := true, laidLooks := .later }
def StartsChangedCardSaid : Prop := Claim7.holds Tryz.pinned (.plain (OpenSpec.ofChange startsChangedSpec)) startsChangedCard

/-- THE TIED CARD OF 'tumblaw1.HeatsDrawn'. -/
def heatsDrawnCard : Claim7 := { stood := { row := heatsDrawnRow, standIns := [], harness := (true, "71cb750c513158e50bdfad1b05f56973389140de8904c2755b89b63cc85d4327"), looks := false }, kinds := [], alts := [], laidByText := true, laidKinds := [.data, .data, .data, .data, .pinned], laidTests := true, laidLooks := .later }
def HeatsDrawnCardSaid : Prop := Claim7.holds Tryz.pinned (.plain (OpenSpec.ofChange heatsDrawnSpec)) heatsDrawnCard

/-- THE TIED CARD OF 'tumbkeep1.FastestInTheMiddle'. -/
def fastestInTheMiddleCard : Claim7 := { stood := { row := fastestInTheMiddleRow, standIns := [], harness := (true, "71cb750c513158e50bdfad1b05f56973389140de8904c2755b89b63cc85d4327"), looks := false }, kinds := [], alts := [], laidByText := true, laidKinds := [.data, .data, .data, .data, .pinned], laidTests := true, laidLooks := .later }
def FastestInTheMiddleCardSaid : Prop := Claim7.holds Tryz.pinned (.plain (OpenSpec.ofChange fastestInTheMiddleSpec)) fastestInTheMiddleCard

/-- THE TIED CARD OF 'tumbkeep1.EverybodySwimsOnce'. -/
def everybodySwimsOnceCard : Claim7 := { stood := { row := everybodySwimsOnceRow, standIns := [], harness := (true, "71cb750c513158e50bdfad1b05f56973389140de8904c2755b89b63cc85d4327"), looks := false }, kinds := [], alts := [], laidByText := true, laidKinds := [.data, .data, .data, .data, .pinned], laidTests := true, laidLooks := .later }
def EverybodySwimsOnceCardSaid : Prop := Claim7.holds Tryz.pinned (.plain (OpenSpec.ofChange everybodySwimsOnceSpec)) everybodySwimsOnceCard

/-- THE TIED CARD OF 'tumbkeep1.ScratchedAreGone'. -/
def scratchedAreGoneCard : Claim7 := { stood := { row := scratchedAreGoneRow, standIns := [], harness := (true, "71cb750c513158e50bdfad1b05f56973389140de8904c2755b89b63cc85d4327"), looks := false }, kinds := [], alts := [], laidByText := true, laidKinds := [.data, .data, .data, .data, .pinned], laidTests := true, laidLooks := .later }
def ScratchedAreGoneCardSaid : Prop := Claim7.holds Tryz.pinned (.plain (OpenSpec.ofChange scratchedAreGoneSpec)) scratchedAreGoneCard

/-- THE TIED CARD OF 'tumbkeep1.JudgesStay'. -/
def judgesStayCard : Claim7 := { stood := { row := judgesStayRow, standIns := [], harness := (true, "71cb750c513158e50bdfad1b05f56973389140de8904c2755b89b63cc85d4327"), looks := false }, kinds := [], alts := [], laidByText := true, laidKinds := [.data, .data, .data, .data, .pinned], laidTests := true, laidLooks := .later }
def JudgesStayCardSaid : Prop := Claim7.holds Tryz.pinned (.plain (OpenSpec.ofChange judgesStaySpec)) judgesStayCard

/-- THE TIED CARD OF 'tumbkeep1.HeatsStay'. -/
def heatsStayCard : Claim7 := { stood := { row := heatsStayRow, standIns := [], harness := (true, "71cb750c513158e50bdfad1b05f56973389140de8904c2755b89b63cc85d4327"), looks := false }, kinds := [], alts := [], laidByText := true, laidKinds := [.data, .data, .data, .data, .pinned], laidTests := true, laidLooks := .later }
def HeatsStayCardSaid : Prop := Claim7.holds Tryz.pinned (.plain (OpenSpec.ofChange heatsStaySpec)) heatsStayCard

/-- THE SECOND FORM's CARD OF 'tumblaw1.TimesRanked'. -/
def timesRankedUptoCard : Claim7 := { stood := { row := timesRankedUptoRow, standIns := [], harness := (true, "71cb750c513158e50bdfad1b05f56973389140de8904c2755b89b63cc85d4327"), looks := false }, kinds := [], alts := [], laidByText := true, laidKinds := [.data, .data, .data, .data, .pinned], laidTests := true, laidLooks := .later }
def TimesRankedUptoCardSaid : Prop := Claim7.holds Tryz.pinned (.plain (OpenSpec.upto timesRankedSpec)) timesRankedUptoCard

/-- THE SECOND FORM's CARD OF 'tumbkeep1.TimesStay'. -/
def timesStayUptoCard : Claim7 := { stood := { row := timesStayUptoRow, standIns := [], harness := (true, "71cb750c513158e50bdfad1b05f56973389140de8904c2755b89b63cc85d4327"), looks := false }, kinds := [], alts := [], laidByText := true, laidKinds := [.data, .data, .data, .data, .pinned], laidTests := true, laidLooks := .later }
def TimesStayUptoCardSaid : Prop := Claim7.holds Tryz.pinned (.plain (OpenSpec.upto timesStaySpec)) timesStayUptoCard

/-- THE SECOND FORM's CARD OF 'tumblaw1.StartsChanged'. -/
def startsChangedUptoCard : Claim7 := { stood := { row := startsChangedUptoRow, standIns := [], harness := (true, "71cb750c513158e50bdfad1b05f56973389140de8904c2755b89b63cc85d4327"), looks := false }, kinds := [], alts := [], laidByText := true, laidKinds := [.data, .data, .data, .data, .pinned], laidTests := true, laidLooks := .later }
def StartsChangedUptoCardSaid : Prop := Claim7.holds Tryz.pinned (.plain (OpenSpec.upto startsChangedSpec)) startsChangedUptoCard

/-- THE SECOND FORM's CARD OF 'tumblaw1.HeatsDrawn'. -/
def heatsDrawnUptoCard : Claim7 := { stood := { row := heatsDrawnUptoRow, standIns := [], harness := (true, "71cb750c513158e50bdfad1b05f56973389140de8904c2755b89b63cc85d4327"), looks := false }, kinds := [], alts := [], laidByText := true, laidKinds := [.data, .data, .data, .data, .pinned], laidTests := true, laidLooks := .later }
def HeatsDrawnUptoCardSaid : Prop := Claim7.holds Tryz.pinned (.plain (OpenSpec.upto heatsDrawnSpec)) heatsDrawnUptoCard

/-- THE SECOND FORM's CARD OF 'tumbkeep1.FastestInTheMiddle'. -/
def fastestInTheMiddleUptoCard : Claim7 := { stood := { row := fastestInTheMiddleUptoRow, standIns := [], harness := (true, "71cb750c513158e50bdfad1b05f56973389140de8904c2755b89b63cc85d4327"), looks := false }, kinds := [], alts := [], laidByText := true, laidKinds := [.data, .data, .data, .data, .pinned], laidTests := true, laidLooks := .later }
def FastestInTheMiddleUptoCardSaid : Prop := Claim7.holds Tryz.pinned (.plain (OpenSpec.upto fastestInTheMiddleSpec)) fastestInTheMiddleUptoCard

/-- THE SECOND FORM's CARD OF 'tumbkeep1.EverybodySwimsOnce'. -/
def everybodySwimsOnceUptoCard : Claim7 := { stood := { row := everybodySwimsOnceUptoRow, standIns := [], harness := (true, "71cb750c513158e50bdfad1b05f56973389140de8904c2755b89b63cc85d4327"), looks := false }, kinds := [], alts := [], laidByText := true, laidKinds := [.data, .data, .data, .data, .pinned], laidTests := true, laidLooks := .later }
def EverybodySwimsOnceUptoCardSaid : Prop := Claim7.holds Tryz.pinned (.plain (OpenSpec.upto everybodySwimsOnceSpec)) everybodySwimsOnceUptoCard

/-- THE SECOND FORM's CARD OF 'tumbkeep1.ScratchedAreGone'. -/
def scratchedAreGoneUptoCard : Claim7 := { stood := { row := scratchedAreGoneUptoRow, standIns := [], harness := (true, "71cb750c513158e50bdfad1b05f56973389140de8904c2755b89b63cc85d4327"), looks := false }, kinds := [], alts := [], laidByText := true, laidKinds := [.data, .data, .data, .data, .pinned], laidTests := true, laidLooks := .later }
def ScratchedAreGoneUptoCardSaid : Prop := Claim7.holds Tryz.pinned (.plain (OpenSpec.upto scratchedAreGoneSpec)) scratchedAreGoneUptoCard

/-- THE SECOND FORM's CARD OF 'tumbkeep1.JudgesStay'. -/
def judgesStayUptoCard : Claim7 := { stood := { row := judgesStayUptoRow, standIns := [], harness := (true, "71cb750c513158e50bdfad1b05f56973389140de8904c2755b89b63cc85d4327"), looks := false }, kinds := [], alts := [], laidByText := true, laidKinds := [.data, .data, .data, .data, .pinned], laidTests := true, laidLooks := .later }
def JudgesStayUptoCardSaid : Prop := Claim7.holds Tryz.pinned (.plain (OpenSpec.upto judgesStaySpec)) judgesStayUptoCard

/-- THE SECOND FORM's CARD OF 'tumbkeep1.HeatsStay'. -/
def heatsStayUptoCard : Claim7 := { stood := { row := heatsStayUptoRow, standIns := [], harness := (true, "71cb750c513158e50bdfad1b05f56973389140de8904c2755b89b63cc85d4327"), looks := false }, kinds := [], alts := [], laidByText := true, laidKinds := [.data, .data, .data, .data, .pinned], laidTests := true, laidLooks := .later }
def HeatsStayUptoCardSaid : Prop := Claim7.holds Tryz.pinned (.plain (OpenSpec.upto heatsStaySpec)) heatsStayUptoCard
end Rows
end Go.Proofs.YtffhobmkbabllaaGreatDoor
