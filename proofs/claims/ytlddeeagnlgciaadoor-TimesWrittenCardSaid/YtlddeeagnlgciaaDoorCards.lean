/-
  DERIVED. GIVEN WITH THE SEED: THE CARDS: each row of YtlddeeagnlgciaaDoorRows.lean that lists a variable, with what it lists TIED to the program's text (the seventh form; the later family's looks); each row that meets fmt, with fmt's text TOLD by the authors' own Lean function (tested against real Go, not proved from fmt's source: count such statements apart). THE CARD IS WHAT COUNTS. Prove the row's statement (the work); the ties are given (YtlddeeagnlgciaaDoorTie.lean); close each card by the builder's one call (the guide's Derived/Test/ToyasCard.lean, 'card_holds'). Laid BY PROGRAM, IN A SANDBOX (cutbox-door.mjs). By AI agents, Wed Nov 11 2026. No macro, syntax, notation, axiom, sorry.
-/
import Derived.Test.YtlddeeagnlgciaaDoorRows
import GoSem.ClaimSeven
namespace Go.Proofs.YtlddeeagnlgciaaDoor
namespace Rows

/-- THE TIED CARD OF 'tumblaw1.TimesWritten'. -/
def timesWrittenCard : Claim7 := { stood := { row := timesWrittenRow, standIns := [], harness := (true, "43cf802f60c2b0b0a0d53af247376d06738435da48ad3280a330aafe979e64e6"), looks := true }, kinds := [], alts := [], laidByText := true, laidKinds := [.data, .data, .data, .data, .sentinel, .sentinel, .pinned], laidTests := true, laidLooks := .later }
def TimesWrittenCardSaid : Prop := Claim7.holds Tryd.pinned (.plain (OpenSpec.ofChange timesWrittenSpec)) timesWrittenCard

/-- THE TIED CARD OF 'tumblaw1.SignalsKept'. -/
def signalsKeptCard : Claim7 := { stood := { row := signalsKeptRow, standIns := [], harness := (true, "43cf802f60c2b0b0a0d53af247376d06738435da48ad3280a330aafe979e64e6"), looks := true }, kinds := [], alts := [], laidByText := true, laidKinds := [.data, .pinned], laidTests := true, laidLooks := .later }
def SignalsKeptCardSaid : Prop := Claim7.holds Tryd.pinned (.plain (OpenSpec.ofChange signalsKeptSpec)) signalsKeptCard

/-- THE TIED CARD OF 'tumbkeep1.RacesStay'. -/
def racesStayCard : Claim7 := { stood := { row := racesStayRow, standIns := [], harness := (true, "43cf802f60c2b0b0a0d53af247376d06738435da48ad3280a330aafe979e64e6"), looks := true }, kinds := [], alts := [], laidByText := true, laidKinds := [.data, .data, .data, .data, .pinned], laidTests := true, laidLooks := .later }
def RacesStayCardSaid : Prop := Claim7.holds Tryd.pinned (.plain (OpenSpec.ofChange racesStaySpec)) racesStayCard

/-- THE SECOND FORM's CARD OF 'tumblaw1.TimesWritten'. -/
def timesWrittenUptoCard : Claim7 := { stood := { row := timesWrittenUptoRow, standIns := [], harness := (true, "43cf802f60c2b0b0a0d53af247376d06738435da48ad3280a330aafe979e64e6"), looks := true }, kinds := [], alts := [], laidByText := true, laidKinds := [.data, .data, .data, .data, .sentinel, .sentinel, .pinned], laidTests := true, laidLooks := .later }
def TimesWrittenUptoCardSaid : Prop := Claim7.holds Tryd.pinned (.plain (OpenSpec.upto timesWrittenSpec)) timesWrittenUptoCard

/-- THE SECOND FORM's CARD OF 'tumblaw1.SignalsKept'. -/
def signalsKeptUptoCard : Claim7 := { stood := { row := signalsKeptUptoRow, standIns := [], harness := (true, "43cf802f60c2b0b0a0d53af247376d06738435da48ad3280a330aafe979e64e6"), looks := true }, kinds := [], alts := [], laidByText := true, laidKinds := [.data, .pinned], laidTests := true, laidLooks := .later }
def SignalsKeptUptoCardSaid : Prop := Claim7.holds Tryd.pinned (.plain (OpenSpec.upto signalsKeptSpec)) signalsKeptUptoCard

/-- THE SECOND FORM's CARD OF 'tumbkeep1.RacesStay'. -/
def racesStayUptoCard : Claim7 := { stood := { row := racesStayUptoRow, standIns := [], harness := (true, "43cf802f60c2b0b0a0d53af247376d06738435da48ad3280a330aafe979e64e6"), looks := true }, kinds := [], alts := [], laidByText := true, laidKinds := [.data, .data, .data, .data, .pinned], laidTests := true, laidLooks := .later }
def RacesStayUptoCardSaid : Prop := Claim7.holds Tryd.pinned (.plain (OpenSpec.upto racesStaySpec)) racesStayUptoCard
end Rows
end Go.Proofs.YtlddeeagnlgciaaDoor
