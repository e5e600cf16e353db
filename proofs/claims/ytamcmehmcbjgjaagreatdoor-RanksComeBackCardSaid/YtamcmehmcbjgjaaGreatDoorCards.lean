/-
  DERIVED. GIVEN WITH THE SEED: THE CARDS: each row of YtamcmehmcbjgjaaGreatDoorRows.lean that lists a variable, with what it lists TIED to the program's text (the seventh form; the later family's looks); each row that meets fmt, with fmt's text TOLD by the authors' own Lean function (tested against real Go, not proved from fmt's source: count such statements apart). THE CARD IS WHAT COUNTS. Prove the row's statement (the work); the ties are given (YtamcmehmcbjgjaaGreatDoorTie.lean); close each card by the builder's one call (the guide's Derived/Test/ToyasCard.lean, 'card_holds'). Laid BY PROGRAM, IN A SANDBOX (cutbox-door.mjs). By AI agents, Wed Nov 11 2026. No macro, syntax, notation, axiom, sorry.
-/
import Derived.Test.YtamcmehmcbjgjaaGreatDoorRows
import GoSem.ClaimSeven
namespace Go.Proofs.YtamcmehmcbjgjaaGreatDoor
namespace Rows

/-- THE TIED CARD OF 'tumblaw1.FieldTexts'. -/
def fieldTextsCard : Claim7 := { stood := { row := fieldTextsRow, standIns := [], harness := (true, "f6974786d7dd244b40150e7ba7af6603cbacc76e7d3e8084a177e635b8b070f8"), looks := true }, kinds := [], alts := [], laidByText := true, laidKinds := [.data, .data, .data, .data, .sentinel, .sentinel, .pinned], laidTests := true, laidLooks := .later }
def FieldTextsCardSaid : Prop := Claim7.holds Tryz.pinned (.plain (OpenSpec.ofChange fieldTextsSpec)) fieldTextsCard

/-- THE TIED CARD OF 'tumbkeep1.FieldsComeBack'. -/
def fieldsComeBackCard : Claim7 := { stood := { row := fieldsComeBackRow, standIns := [], harness := (true, "f6974786d7dd244b40150e7ba7af6603cbacc76e7d3e8084a177e635b8b070f8"), looks := true }, kinds := [], alts := [], laidByText := true, laidKinds := [.data, .data, .data, .data, .sentinel, .sentinel, .pinned], laidTests := true, laidLooks := .later }
def FieldsComeBackCardSaid : Prop := Claim7.holds Tryz.pinned (.plain (OpenSpec.ofChange fieldsComeBackSpec)) fieldsComeBackCard

/-- THE TIED CARD OF 'tumbkeep1.SignalsComeBack'. -/
def signalsComeBackCard : Claim7 := { stood := { row := signalsComeBackRow, standIns := [], harness := (true, "f6974786d7dd244b40150e7ba7af6603cbacc76e7d3e8084a177e635b8b070f8"), looks := true }, kinds := [], alts := [], laidByText := true, laidKinds := [.data, .data, .data, .data, .sentinel, .sentinel, .pinned], laidTests := true, laidLooks := .later }
def SignalsComeBackCardSaid : Prop := Claim7.holds Tryz.pinned (.plain (OpenSpec.ofChange signalsComeBackSpec)) signalsComeBackCard

/-- THE TIED CARD OF 'tumbkeep1.RanksComeBack'. -/
def ranksComeBackCard : Claim7 := { stood := { row := ranksComeBackRow, standIns := [], harness := (true, "f6974786d7dd244b40150e7ba7af6603cbacc76e7d3e8084a177e635b8b070f8"), looks := true }, kinds := [], alts := [], laidByText := true, laidKinds := [.data, .data, .data, .data, .sentinel, .sentinel, .pinned], laidTests := true, laidLooks := .later }
def RanksComeBackCardSaid : Prop := Claim7.holds Tryz.pinned (.plain (OpenSpec.ofChange ranksComeBackSpec)) ranksComeBackCard

/-- THE TIED CARD OF 'tumbkeep1.StartsComeBack'. -/
def startsComeBackCard : Claim7 := { stood := { row := startsComeBackRow, standIns := [], harness := (true, "f6974786d7dd244b40150e7ba7af6603cbacc76e7d3e8084a177e635b8b070f8"), looks := true }, kinds := [], alts := [], laidByText := true, laidKinds := [.data, .data, .data, .data, .sentinel, .sentinel, .pinned], laidTests := true, laidLooks := .later }
def StartsComeBackCardSaid : Prop := Claim7.holds Tryz.pinned (.plain (OpenSpec.ofChange startsComeBackSpec)) startsComeBackCard

/-- THE SECOND FORM's CARD OF 'tumblaw1.FieldTexts'. -/
def fieldTextsUptoCard : Claim7 := { stood := { row := fieldTextsUptoRow, standIns := [], harness := (true, "f6974786d7dd244b40150e7ba7af6603cbacc76e7d3e8084a177e635b8b070f8"), looks := true }, kinds := [], alts := [], laidByText := true, laidKinds := [.data, .data, .data, .data, .sentinel, .sentinel, .pinned], laidTests := true, laidLooks := .later }
def FieldTextsUptoCardSaid : Prop := Claim7.holds Tryz.pinned (.plain (OpenSpec.upto fieldTextsSpec)) fieldTextsUptoCard

/-- THE SECOND FORM's CARD OF 'tumbkeep1.FieldsComeBack'. -/
def fieldsComeBackUptoCard : Claim7 := { stood := { row := fieldsComeBackUptoRow, standIns := [], harness := (true, "f6974786d7dd244b40150e7ba7af6603cbacc76e7d3e8084a177e635b8b070f8"), looks := true }, kinds := [], alts := [], laidByText := true, laidKinds := [.data, .data, .data, .data, .sentinel, .sentinel, .pinned], laidTests := true, laidLooks := .later }
def FieldsComeBackUptoCardSaid : Prop := Claim7.holds Tryz.pinned (.plain (OpenSpec.upto fieldsComeBackSpec)) fieldsComeBackUptoCard

/-- THE SECOND FORM's CARD OF 'tumbkeep1.SignalsComeBack'. -/
def signalsComeBackUptoCard : Claim7 := { stood := { row := signalsComeBackUptoRow, standIns := [], harness := (true, "f6974786d7dd244b40150e7ba7af6603cbacc76e7d3e8084a177e635b8b070f8"), looks := true }, kinds := [], alts := [], laidByText := true, laidKinds := [.data, .data, .data, .data, .sentinel, .sentinel, .pinned], laidTests := true, laidLooks := .later }
def SignalsComeBackUptoCardSaid : Prop := Claim7.holds Tryz.pinned (.plain (OpenSpec.upto signalsComeBackSpec)) signalsComeBackUptoCard

/-- THE SECOND FORM's CARD OF 'tumbkeep1.RanksComeBack'. -/
def ranksComeBackUptoCard : Claim7 := { stood := { row := ranksComeBackUptoRow, standIns := [], harness := (true, "f6974786d7dd244b40150e7ba7af6603cbacc76e7d3e8084a177e635b8b070f8"), looks := true }, kinds := [], alts := [], laidByText := true, laidKinds := [.data, .data, .data, .data, .sentinel, .sentinel, .pinned], laidTests := true, laidLooks := .later }
def RanksComeBackUptoCardSaid : Prop := Claim7.holds Tryz.pinned (.plain (OpenSpec.upto ranksComeBackSpec)) ranksComeBackUptoCard

/-- THE SECOND FORM's CARD OF 'tumbkeep1.StartsComeBack'. -/
def startsComeBackUptoCard : Claim7 := { stood := { row := startsComeBackUptoRow, standIns := [], harness := (true, "f6974786d7dd244b40150e7ba7af6603cbacc76e7d3e8084a177e635b8b070f8"), looks := true }, kinds := [], alts := [], laidByText := true, laidKinds := [.data, .data, .data, .data, .sentinel, .sentinel, .pinned], laidTests := true, laidLooks := .later }
def StartsComeBackUptoCardSaid : Prop := Claim7.holds Tryz.pinned (.plain (OpenSpec.upto startsComeBackSpec)) startsComeBackUptoCard
end Rows
end Go.Proofs.YtamcmehmcbjgjaaGreatDoor
