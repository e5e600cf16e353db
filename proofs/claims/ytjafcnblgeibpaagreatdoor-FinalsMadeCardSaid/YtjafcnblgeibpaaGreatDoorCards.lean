/-
  DERIVED. GIVEN WITH THE SEED: THE CARDS: each row of YtjafcnblgeibpaaGreatDoorRows.lean that lists a variable, with what it lists TIED to the program's text (the seventh form; the later family's looks); each row that meets fmt, with fmt's text TOLD by the authors' own Lean function (tested against real Go, not proved from fmt's source: count such statements apart). THE CARD IS WHAT COUNTS. Prove the row's statement (the work); the ties are given (YtjafcnblgeibpaaGreatDoorTie.lean); close each card by the builder's one call (the guide's Derived/Test/ToyasCard.lean, 'card_holds'). Laid BY PROGRAM, IN A SANDBOX (cutbox-door.mjs). By AI agents, Wed Nov 11 2026. No macro, syntax, notation, axiom, sorry.
-/
import Derived.Test.YtjafcnblgeibpaaGreatDoorRows
import GoSem.ClaimSeven
namespace Go.Proofs.YtjafcnblgeibpaaGreatDoor
namespace Rows

/-- THE TIED CARD OF 'tumblaw1.FinalsMade'. -/
def finalsMadeCard : Claim7 := { stood := { row := finalsMadeRow, standIns := [], harness := (true, "7512b6afa1c37712e35bed0e3128b63b1f903ee47558529875a483d4b3276748"), looks := false }, kinds := [], alts := [], laidByText := true, laidKinds := [.data, .data, .data, .data, .pinned], laidTests := true, laidLooks := .later }
def FinalsMadeCardSaid : Prop := Claim7.holds Tryz.pinned (.plain (OpenSpec.ofChange finalsMadeSpec)) finalsMadeCard

/-- THE TIED CARD OF 'tumbkeep1.SwimOffsDecide'. -/
def swimOffsDecideCard : Claim7 := { stood := { row := swimOffsDecideRow, standIns := [], harness := (true, "7512b6afa1c37712e35bed0e3128b63b1f903ee47558529875a483d4b3276748"), looks := false }, kinds := [], alts := [], laidByText := true, laidKinds := [.data, .data, .data, .data, .pinned], laidTests := true, laidLooks := .later }
def SwimOffsDecideCardSaid : Prop := Claim7.holds Tryz.pinned (.plain (OpenSpec.ofChange swimOffsDecideSpec)) swimOffsDecideCard

/-- THE TIED CARD OF 'tumblaw1.ReportsKept'. -/
def reportsKeptCard : Claim7 := { stood := { row := reportsKeptRow, standIns := [], harness := (true, "7512b6afa1c37712e35bed0e3128b63b1f903ee47558529875a483d4b3276748"), looks := false }, kinds := [], alts := [], laidByText := true, laidKinds := [.data, .data, .data, .data, .pinned], laidTests := true, laidLooks := .later }
def ReportsKeptCardSaid : Prop := Claim7.holds Tryz.pinned (.plain (OpenSpec.ofChange reportsKeptSpec)) reportsKeptCard

/-- THE TIED CARD OF 'tumblaw1.StartsChanged'. -/
def startsChangedCard : Claim7 := { stood := { row := startsChangedRow, standIns := [], harness := (true, "7512b6afa1c37712e35bed0e3128b63b1f903ee47558529875a483d4b3276748"), looks := false }, kinds := [], alts := [], laidByText := true, laidKinds := [.data, .data, .data, .data, .pinned], laidTests := true, laidLooks := .later }
def StartsChangedCardSaid : Prop := Claim7.holds Tryz.pinned (.plain (OpenSpec.ofChange startsChangedSpec)) startsChangedCard

/-- THE TIED CARD OF 'tumblaw1.HeatsDrawn'. -/
def heatsDrawnCard : Claim7 := { stood := { row := heatsDrawnRow, standIns := [], harness := (true, "7512b6afa1c37712e35bed0e3128b63b1f903ee47558529875a483d4b3276748"), looks := false }, kinds := [], alts := [], laidByText := true, laidKinds := [.data, .data, .data, .data, .pinned], laidTests := true, laidLooks := .later }
def HeatsDrawnCardSaid : Prop := Claim7.holds Tryz.pinned (.plain (OpenSpec.ofChange heatsDrawnSpec)) heatsDrawnCard

/-- THE TIED CARD OF 'tumbkeep1.EverybodySwimsOnce'. -/
def everybodySwimsOnceCard : Claim7 := { stood := { row := everybodySwimsOnceRow, standIns := [], harness := (true, "7512b6afa1c37712e35bed0e3128b63b1f903ee47558529875a483d4b3276748"), looks := false }, kinds := [], alts := [], laidByText := true, laidKinds := [.data, .data, .data, .data, .pinned], laidTests := true, laidLooks := .later }
def EverybodySwimsOnceCardSaid : Prop := Claim7.holds Tryz.pinned (.plain (OpenSpec.ofChange everybodySwimsOnceSpec)) everybodySwimsOnceCard

/-- THE TIED CARD OF 'tumbkeep1.ScratchedAreGone'. -/
def scratchedAreGoneCard : Claim7 := { stood := { row := scratchedAreGoneRow, standIns := [], harness := (true, "7512b6afa1c37712e35bed0e3128b63b1f903ee47558529875a483d4b3276748"), looks := false }, kinds := [], alts := [], laidByText := true, laidKinds := [.data, .data, .data, .data, .pinned], laidTests := true, laidLooks := .later }
def ScratchedAreGoneCardSaid : Prop := Claim7.holds Tryz.pinned (.plain (OpenSpec.ofChange scratchedAreGoneSpec)) scratchedAreGoneCard

/-- THE SECOND FORM's CARD OF 'tumblaw1.FinalsMade'. -/
def finalsMadeUptoCard : Claim7 := { stood := { row := finalsMadeUptoRow, standIns := [], harness := (true, "7512b6afa1c37712e35bed0e3128b63b1f903ee47558529875a483d4b3276748"), looks := false }, kinds := [], alts := [], laidByText := true, laidKinds := [.data, .data, .data, .data, .pinned], laidTests := true, laidLooks := .later }
def FinalsMadeUptoCardSaid : Prop := Claim7.holds Tryz.pinned (.plain (OpenSpec.upto finalsMadeSpec)) finalsMadeUptoCard

/-- THE SECOND FORM's CARD OF 'tumbkeep1.SwimOffsDecide'. -/
def swimOffsDecideUptoCard : Claim7 := { stood := { row := swimOffsDecideUptoRow, standIns := [], harness := (true, "7512b6afa1c37712e35bed0e3128b63b1f903ee47558529875a483d4b3276748"), looks := false }, kinds := [], alts := [], laidByText := true, laidKinds := [.data, .data, .data, .data, .pinned], laidTests := true, laidLooks := .later }
def SwimOffsDecideUptoCardSaid : Prop := Claim7.holds Tryz.pinned (.plain (OpenSpec.upto swimOffsDecideSpec)) swimOffsDecideUptoCard

/-- THE SECOND FORM's CARD OF 'tumblaw1.ReportsKept'. -/
def reportsKeptUptoCard : Claim7 := { stood := { row := reportsKeptUptoRow, standIns := [], harness := (true, "7512b6afa1c37712e35bed0e3128b63b1f903ee47558529875a483d4b3276748"), looks := false }, kinds := [], alts := [], laidByText := true, laidKinds := [.data, .data, .data, .data, .pinned], laidTests := true, laidLooks := .later }
def ReportsKeptUptoCardSaid : Prop := Claim7.holds Tryz.pinned (.plain (OpenSpec.upto reportsKeptSpec)) reportsKeptUptoCard

/-- THE SECOND FORM's CARD OF 'tumblaw1.StartsChanged'. -/
def startsChangedUptoCard : Claim7 := { stood := { row := startsChangedUptoRow, standIns := [], harness := (true, "7512b6afa1c37712e35bed0e3128b63b1f903ee47558529875a483d4b3276748"), looks := false }, kinds := [], alts := [], laidByText := true, laidKinds := [.data, .data, .data, .data, .pinned], laidTests := true, laidLooks := .later }
def StartsChangedUptoCardSaid : Prop := Claim7.holds Tryz.pinned (.plain (OpenSpec.upto startsChangedSpec)) startsChangedUptoCard

/-- THE SECOND FORM's CARD OF 'tumblaw1.HeatsDrawn'. -/
def heatsDrawnUptoCard : Claim7 := { stood := { row := heatsDrawnUptoRow, standIns := [], harness := (true, "7512b6afa1c37712e35bed0e3128b63b1f903ee47558529875a483d4b3276748"), looks := false }, kinds := [], alts := [], laidByText := true, laidKinds := [.data, .data, .data, .data, .pinned], laidTests := true, laidLooks := .later }
def HeatsDrawnUptoCardSaid : Prop := Claim7.holds Tryz.pinned (.plain (OpenSpec.upto heatsDrawnSpec)) heatsDrawnUptoCard

/-- THE SECOND FORM's CARD OF 'tumbkeep1.EverybodySwimsOnce'. -/
def everybodySwimsOnceUptoCard : Claim7 := { stood := { row := everybodySwimsOnceUptoRow, standIns := [], harness := (true, "7512b6afa1c37712e35bed0e3128b63b1f903ee47558529875a483d4b3276748"), looks := false }, kinds := [], alts := [], laidByText := true, laidKinds := [.data, .data, .data, .data, .pinned], laidTests := true, laidLooks := .later }
def EverybodySwimsOnceUptoCardSaid : Prop := Claim7.holds Tryz.pinned (.plain (OpenSpec.upto everybodySwimsOnceSpec)) everybodySwimsOnceUptoCard

/-- THE SECOND FORM's CARD OF 'tumbkeep1.ScratchedAreGone'. -/
def scratchedAreGoneUptoCard : Claim7 := { stood := { row := scratchedAreGoneUptoRow, standIns := [], harness := (true, "7512b6afa1c37712e35bed0e3128b63b1f903ee47558529875a483d4b3276748"), looks := false }, kinds := [], alts := [], laidByText := true, laidKinds := [.data, .data, .data, .data, .pinned], laidTests := true, laidLooks := .later }
def ScratchedAreGoneUptoCardSaid : Prop := Claim7.holds Tryz.pinned (.plain (OpenSpec.upto scratchedAreGoneSpec)) scratchedAreGoneUptoCard
end Rows
end Go.Proofs.YtjafcnblgeibpaaGreatDoor
