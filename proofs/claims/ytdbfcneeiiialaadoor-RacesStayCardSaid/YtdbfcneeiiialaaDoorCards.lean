/-
  DERIVED. GIVEN WITH THE SEED: THE CARDS: each row of YtdbfcneeiiialaaDoorRows.lean that lists a variable, with what it lists TIED to the program's text (the seventh form; the later family's looks); each row that meets fmt, with fmt's text TOLD by the authors' own Lean function (tested against real Go, not proved from fmt's source: count such statements apart). THE CARD IS WHAT COUNTS. Prove the row's statement (the work); the ties are given (YtdbfcneeiiialaaDoorTie.lean); close each card by the builder's one call (the guide's Derived/Test/ToyasCard.lean, 'card_holds'). Laid BY PROGRAM, IN A SANDBOX (cutbox-door.mjs). By AI agents, Wed Nov 11 2026. No macro, syntax, notation, axiom, sorry.
-/
import Derived.Test.YtdbfcneeiiialaaDoorRows
import GoSem.ClaimSeven
namespace Go.Proofs.YtdbfcneeiiialaaDoor
namespace Rows

/-- THE TIED CARD OF 'tumbkeep1.RacesStay'. -/
def racesStayCard : Claim7 := { stood := { row := racesStayRow, standIns := [], harness := (true, "0bb9ce1c425813b6d7be2beb49fcf564e8becb9df55fdfe76b7849c8bb0de260"), looks := false }, kinds := [], alts := [], laidByText := true, laidKinds := [.data, .data, .data, .data, .pinned], laidTests := true, laidLooks := .later }
def RacesStayCardSaid : Prop := Claim7.holds Tryd.pinned (.plain (OpenSpec.ofChange racesStaySpec)) racesStayCard

/-- THE SECOND FORM's CARD OF 'tumbkeep1.RacesStay'. -/
def racesStayUptoCard : Claim7 := { stood := { row := racesStayUptoRow, standIns := [], harness := (true, "0bb9ce1c425813b6d7be2beb49fcf564e8becb9df55fdfe76b7849c8bb0de260"), looks := false }, kinds := [], alts := [], laidByText := true, laidKinds := [.data, .data, .data, .data, .pinned], laidTests := true, laidLooks := .later }
def RacesStayUptoCardSaid : Prop := Claim7.holds Tryd.pinned (.plain (OpenSpec.upto racesStaySpec)) racesStayUptoCard
end Rows
end Go.Proofs.YtdbfcneeiiialaaDoor
