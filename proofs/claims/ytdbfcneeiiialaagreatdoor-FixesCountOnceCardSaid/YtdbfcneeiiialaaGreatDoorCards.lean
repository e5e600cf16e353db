/-
  DERIVED. GIVEN WITH THE SEED: THE CARDS: each row of YtdbfcneeiiialaaGreatDoorRows.lean that lists a variable, with what it lists TIED to the program's text (the seventh form; the later family's looks); each row that meets fmt, with fmt's text TOLD by the authors' own Lean function (tested against real Go, not proved from fmt's source: count such statements apart). THE CARD IS WHAT COUNTS. Prove the row's statement (the work); the ties are given (YtdbfcneeiiialaaGreatDoorTie.lean); close each card by the builder's one call (the guide's Derived/Test/ToyasCard.lean, 'card_holds'). Laid BY PROGRAM, IN A SANDBOX (cutbox-door.mjs). By AI agents, Wed Nov 11 2026. No macro, syntax, notation, axiom, sorry.
-/
import Derived.Test.YtdbfcneeiiialaaGreatDoorRows
import GoSem.ClaimSeven
namespace Go.Proofs.YtdbfcneeiiialaaGreatDoor
namespace Rows

/-- THE TIED CARD OF 'tumblaw1.TimesRanked'. -/
def timesRankedCard : Claim7 := { stood := { row := timesRankedRow, standIns := [], harness := (true, "6d55e3a99ef076c9b28f1725a7e496dfb9aee850f789c989c90f9e272fdade6c"), looks := false }, kinds := [], alts := [], laidByText := true, laidKinds := [.data, .data, .data, .data, .pinned], laidTests := true, laidLooks := .later }
def TimesRankedCardSaid : Prop := Claim7.holds Tryz.pinned (.plain (OpenSpec.ofChange timesRankedSpec)) timesRankedCard

/-- THE TIED CARD OF 'tumbkeep1.FixesCountOnce'. -/
def fixesCountOnceCard : Claim7 := { stood := { row := fixesCountOnceRow, standIns := [], harness := (true, "6d55e3a99ef076c9b28f1725a7e496dfb9aee850f789c989c90f9e272fdade6c"), looks := false }, kinds := [], alts := [], laidByText := true, laidKinds := [.data, .data, .data, .data, .pinned], laidTests := true, laidLooks := .later }
def FixesCountOnceCardSaid : Prop := Claim7.holds Tryz.pinned (.plain (OpenSpec.ofChange fixesCountOnceSpec)) fixesCountOnceCard

/-- THE TIED CARD OF 'tumbkeep1.PadsStay'. -/
def padsStayCard : Claim7 := { stood := { row := padsStayRow, standIns := [], harness := (true, "6d55e3a99ef076c9b28f1725a7e496dfb9aee850f789c989c90f9e272fdade6c"), looks := false }, kinds := [], alts := [], laidByText := true, laidKinds := [.data, .data, .data, .data, .pinned], laidTests := true, laidLooks := .later }
def PadsStayCardSaid : Prop := Claim7.holds Tryz.pinned (.plain (OpenSpec.ofChange padsStaySpec)) padsStayCard

/-- THE TIED CARD OF 'tumbkeep1.TimesStay'. -/
def timesStayCard : Claim7 := { stood := { row := timesStayRow, standIns := [], harness := (true, "6d55e3a99ef076c9b28f1725a7e496dfb9aee850f789c989c90f9e272fdade6c"), looks := false }, kinds := [], alts := [], laidByText := true, laidKinds := [.data, .data, .data, .data, .pinned], laidTests := true, laidLooks := .later }
def TimesStayCardSaid : Prop := Claim7.holds Tryz.pinned (.plain (OpenSpec.ofChange timesStaySpec)) timesStayCard

/-- THE TIED CARD OF 'tumblaw1.HeatsDrawn'. -/
def heatsDrawnCard : Claim7 := { stood := { row := heatsDrawnRow, standIns := [], harness := (true, "6d55e3a99ef076c9b28f1725a7e496dfb9aee850f789c989c90f9e272fdade6c"), looks := false }, kinds := [], alts := [], laidByText := true, laidKinds := [.data, .data, .data, .data, .pinned], laidTests := true, laidLooks := .later }
def HeatsDrawnCardSaid : Prop := Claim7.holds Tryz.pinned (.plain (OpenSpec.ofChange heatsDrawnSpec)) heatsDrawnCard

/-- THE TIED CARD OF 'tumbkeep1.JudgesStay'. -/
def judgesStayCard : Claim7 := { stood := { row := judgesStayRow, standIns := [], harness := (true, "6d55e3a99ef076c9b28f1725a7e496dfb9aee850f789c989c90f9e272fdade6c"), looks := false }, kinds := [], alts := [], laidByText := true, laidKinds := [.data, .data, .data, .data, .pinned], laidTests := true, laidLooks := .later }
def JudgesStayCardSaid : Prop := Claim7.holds Tryz.pinned (.plain (OpenSpec.ofChange judgesStaySpec)) judgesStayCard

/-- THE TIED CARD OF 'tumbkeep1.HeatsStay'. -/
def heatsStayCard : Claim7 := { stood := { row := heatsStayRow, standIns := [], harness := (true, "6d55e3a99ef076c9b28f1725a7e496dfb9aee850f789c989c90f9e272fdade6c"), looks := false }, kinds := [], alts := [], laidByText := true, laidKinds := [.data, .data, .data, .data, .pinned], laidTests := true, laidLooks := .later }
def HeatsStayCardSaid : Prop := Claim7.holds Tryz.pinned (.plain (OpenSpec.ofChange heatsStaySpec)) heatsStayCard

/-- THE SECOND FORM's CARD OF 'tumblaw1.TimesRanked'. -/
def timesRankedUptoCard : Claim7 := { stood := { row := timesRankedUptoRow, standIns := [], harness := (true, "6d55e3a99ef076c9b28f1725a7e496dfb9aee850f789c989c90f9e272fdade6c"), looks := false }, kinds := [], alts := [], laidByText := true, laidKinds := [.data, .data, .data, .data, .pinned], laidTests := true, laidLooks := .later }
def TimesRankedUptoCardSaid : Prop := Claim7.holds Tryz.pinned (.plain (OpenSpec.upto timesRankedSpec)) timesRankedUptoCard

/-- THE SECOND FORM's CARD OF 'tumbkeep1.FixesCountOnce'. -/
def fixesCountOnceUptoCard : Claim7 := { stood := { row := fixesCountOnceUptoRow, standIns := [], harness := (true, "6d55e3a99ef076c9b28f1725a7e496dfb9aee850f789c989c90f9e272fdade6c"), looks := false }, kinds := [], alts := [], laidByText := true, laidKinds := [.data, .data, .data, .data, .pinned], laidTests := true, laidLooks := .later }
def FixesCountOnceUptoCardSaid : Prop := Claim7.holds Tryz.pinned (.plain (OpenSpec.upto fixesCountOnceSpec)) fixesCountOnceUptoCard

/-- THE SECOND FORM's CARD OF 'tumbkeep1.PadsStay'. -/
def padsStayUptoCard : Claim7 := { stood := { row := padsStayUptoRow, standIns := [], harness := (true, "6d55e3a99ef076c9b28f1725a7e496dfb9aee850f789c989c90f9e272fdade6c"), looks := false }, kinds := [], alts := [], laidByText := true, laidKinds := [.data, .data, .data, .data, .pinned], laidTests := true, laidLooks := .later }
def PadsStayUptoCardSaid : Prop := Claim7.holds Tryz.pinned (.plain (OpenSpec.upto padsStaySpec)) padsStayUptoCard

/-- THE SECOND FORM's CARD OF 'tumbkeep1.TimesStay'. -/
def timesStayUptoCard : Claim7 := { stood := { row := timesStayUptoRow, standIns := [], harness := (true, "6d55e3a99ef076c9b28f1725a7e496dfb9aee850f789c989c90f9e272fdade6c"), looks := false }, kinds := [], alts := [], laidByText := true, laidKinds := [.data, .data, .data, .data, .pinned], laidTests := true, laidLooks := .later }
def TimesStayUptoCardSaid : Prop := Claim7.holds Tryz.pinned (.plain (OpenSpec.upto timesStaySpec)) timesStayUptoCard

/-- THE SECOND FORM's CARD OF 'tumblaw1.HeatsDrawn'. -/
def heatsDrawnUptoCard : Claim7 := { stood := { row := heatsDrawnUptoRow, standIns := [], harness := (true, "6d55e3a99ef076c9b28f1725a7e496dfb9aee850f789c989c90f9e272fdade6c"), looks := false }, kinds := [], alts := [], laidByText := true, laidKinds := [.data, .data, .data, .data, .pinned], laidTests := true, laidLooks := .later }
def HeatsDrawnUptoCardSaid : Prop := Claim7.holds Tryz.pinned (.plain (OpenSpec.upto heatsDrawnSpec)) heatsDrawnUptoCard

/-- THE SECOND FORM's CARD OF 'tumbkeep1.JudgesStay'. -/
def judgesStayUptoCard : Claim7 := { stood := { row := judgesStayUptoRow, standIns := [], harness := (true, "6d55e3a99ef076c9b28f1725a7e496dfb9aee850f789c989c90f9e272fdade6c"), looks := false }, kinds := [], alts := [], laidByText := true, laidKinds := [.data, .data, .data, .data, .pinned], laidTests := true, laidLooks := .later }
def JudgesStayUptoCardSaid : Prop := Claim7.holds Tryz.pinned (.plain (OpenSpec.upto judgesStaySpec)) judgesStayUptoCard

/-- THE SECOND FORM's CARD OF 'tumbkeep1.HeatsStay'. -/
def heatsStayUptoCard : Claim7 := { stood := { row := heatsStayUptoRow, standIns := [], harness := (true, "6d55e3a99ef076c9b28f1725a7e496dfb9aee850f789c989c90f9e272fdade6c"), looks := false }, kinds := [], alts := [], laidByText := true, laidKinds := [.data, .data, .data, .data, .pinned], laidTests := true, laidLooks := .later }
def HeatsStayUptoCardSaid : Prop := Claim7.holds Tryz.pinned (.plain (OpenSpec.upto heatsStaySpec)) heatsStayUptoCard
end Rows
end Go.Proofs.YtdbfcneeiiialaaGreatDoor
