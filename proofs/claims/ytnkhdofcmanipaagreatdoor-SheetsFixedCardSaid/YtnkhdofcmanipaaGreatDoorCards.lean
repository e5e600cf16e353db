/-
  DERIVED. GIVEN WITH THE SEED: THE CARDS: each row of YtnkhdofcmanipaaGreatDoorRows.lean that lists a variable, with what it lists TIED to the program's text (the seventh form; the later family's looks); each row that meets fmt, with fmt's text TOLD by the authors' own Lean function (tested against real Go, not proved from fmt's source: count such statements apart). THE CARD IS WHAT COUNTS. Prove the row's statement (the work); the ties are given (YtnkhdofcmanipaaGreatDoorTie.lean); close each card by the builder's one call (the guide's Derived/Test/ToyasCard.lean, 'card_holds'). Laid BY PROGRAM, IN A SANDBOX (cutbox-door.mjs). By AI agents, Wed Nov 11 2026. No macro, syntax, notation, axiom, sorry.
-/
import Derived.Test.YtnkhdofcmanipaaGreatDoorRows
import GoSem.ClaimSeven
namespace Go.Proofs.YtnkhdofcmanipaaGreatDoor
namespace Rows

/-- THE TIED CARD OF 'tumblaw1.TimesRanked'. -/
def timesRankedCard : Claim7 := { stood := { row := timesRankedRow, standIns := [], harness := (true, "d0fa9600c17e4f55fe8222a8991ad580463c6115e2fbc37ba85710397a15bb89"), looks := true }, kinds := [], alts := [], laidByText := true, laidKinds := [.data, .data, .data, .data, .pinned], laidTests := true, laidLooks := .later }
def TimesRankedCardSaid : Prop := Claim7.holds Tryz.pinned (.plain (OpenSpec.ofChange timesRankedSpec)) timesRankedCard

/-- THE TIED CARD OF 'tumblaw1.SheetsFixed'. -/
def sheetsFixedCard : Claim7 := { stood := { row := sheetsFixedRow, standIns := [], harness := (true, "d0fa9600c17e4f55fe8222a8991ad580463c6115e2fbc37ba85710397a15bb89"), looks := true }, kinds := [], alts := [], laidByText := true, laidKinds := [.data, .data, .data, .data, .sentinel, .sentinel, .pinned], laidTests := true, laidLooks := .later }
def SheetsFixedCardSaid : Prop := Claim7.holds Tryz.pinned (.plain (OpenSpec.ofChange sheetsFixedSpec)) sheetsFixedCard

/-- THE SECOND FORM's CARD OF 'tumblaw1.TimesRanked'. -/
def timesRankedUptoCard : Claim7 := { stood := { row := timesRankedUptoRow, standIns := [], harness := (true, "d0fa9600c17e4f55fe8222a8991ad580463c6115e2fbc37ba85710397a15bb89"), looks := true }, kinds := [], alts := [], laidByText := true, laidKinds := [.data, .data, .data, .data, .pinned], laidTests := true, laidLooks := .later }
def TimesRankedUptoCardSaid : Prop := Claim7.holds Tryz.pinned (.plain (OpenSpec.upto timesRankedSpec)) timesRankedUptoCard

/-- THE SECOND FORM's CARD OF 'tumblaw1.SheetsFixed'. -/
def sheetsFixedUptoCard : Claim7 := { stood := { row := sheetsFixedUptoRow, standIns := [], harness := (true, "d0fa9600c17e4f55fe8222a8991ad580463c6115e2fbc37ba85710397a15bb89"), looks := true }, kinds := [], alts := [], laidByText := true, laidKinds := [.data, .data, .data, .data, .sentinel, .sentinel, .pinned], laidTests := true, laidLooks := .later }
def SheetsFixedUptoCardSaid : Prop := Claim7.holds Tryz.pinned (.plain (OpenSpec.upto sheetsFixedSpec)) sheetsFixedUptoCard
end Rows
end Go.Proofs.YtnkhdofcmanipaaGreatDoor
