/-
  DERIVED. GIVEN WITH THE SEED: THE CARDS: each row of YtjafcnblgeibpaaDoorRows.lean that lists a variable, with what it lists TIED to the program's text (the seventh form; the later family's looks); each row that meets fmt, with fmt's text TOLD by the authors' own Lean function (tested against real Go, not proved from fmt's source: count such statements apart). THE CARD IS WHAT COUNTS. Prove the row's statement (the work); the ties are given (YtjafcnblgeibpaaDoorTie.lean); close each card by the builder's one call (the guide's Derived/Test/ToyasCard.lean, 'card_holds'). Laid BY PROGRAM, IN A SANDBOX (cutbox-door.mjs). By AI agents, Wed Nov 11 2026. No macro, syntax, notation, axiom, sorry.
-/
import Derived.Test.YtjafcnblgeibpaaDoorRows
import GoSem.ClaimSeven
namespace Go.Proofs.YtjafcnblgeibpaaDoor
namespace Rows

/-- THE TIED CARD OF 'tumblaw1.SignalsKept'. -/
def signalsKeptCard : Claim7 := { stood := { row := signalsKeptRow, standIns := [], harness := (true, "e5e1c8ab684fbbbc42db7e28ad8c3075110c5327643b67ab4827a0da37c5c09e"), looks := false }, kinds := [], alts := [], laidByText := true, laidKinds := [.data, .pinned], laidTests := true, laidLooks := .later }
def SignalsKeptCardSaid : Prop := Claim7.holds Tryd.pinned (.plain (OpenSpec.ofChange signalsKeptSpec)) signalsKeptCard

/-- THE SECOND FORM's CARD OF 'tumblaw1.SignalsKept'. -/
def signalsKeptUptoCard : Claim7 := { stood := { row := signalsKeptUptoRow, standIns := [], harness := (true, "e5e1c8ab684fbbbc42db7e28ad8c3075110c5327643b67ab4827a0da37c5c09e"), looks := false }, kinds := [], alts := [], laidByText := true, laidKinds := [.data, .pinned], laidTests := true, laidLooks := .later }
def SignalsKeptUptoCardSaid : Prop := Claim7.holds Tryd.pinned (.plain (OpenSpec.upto signalsKeptSpec)) signalsKeptUptoCard
end Rows
end Go.Proofs.YtjafcnblgeibpaaDoor
