/-
  DERIVED. GIVEN WITH THE SEED: THE CARDS: each row of YtjfppcejcbfngaaDoorRows.lean that lists a variable, with what it lists TIED to the program's text (the seventh form; the later family's looks); each row that meets fmt, with fmt's text TOLD by the authors' own Lean function (tested against real Go, not proved from fmt's source: count such statements apart). THE CARD IS WHAT COUNTS. Prove the row's statement (the work); the ties are given (YtjfppcejcbfngaaDoorTie.lean); close each card by the builder's one call (the guide's Derived/Test/ToyasCard.lean, 'card_holds'). Laid BY PROGRAM, IN A SANDBOX (cutbox-door.mjs). By AI agents, Wed Nov 11 2026. No macro, syntax, notation, axiom, sorry.
-/
import Derived.Test.YtjfppcejcbfngaaDoorRows
import GoSem.ClaimSeven
namespace Go.Proofs.YtjfppcejcbfngaaDoor
namespace Rows

/-- THE TIED CARD OF 'tumblaw1.RacesChecked'. -/
def racesCheckedCard : Claim7 := { stood := { row := racesCheckedRow, standIns := [], harness := (true, "6c6a476c31e15b3e12c29c7e0dbd0876f42f74f91e9197398640f6463824a52f"), looks := false }, kinds := [], alts := [], laidByText := true, laidKinds := [.data, .data, .data, .data, .pinned], laidTests := true, laidLooks := .later }
def RacesCheckedCardSaid : Prop := Claim7.holds Tryd.pinned (.plain (OpenSpec.ofChange racesCheckedSpec)) racesCheckedCard

/-- THE TIED CARD OF 'tumblaw1.PacesKept'. -/
def pacesKeptCard : Claim7 := { stood := { row := pacesKeptRow, standIns := [], harness := (true, "6c6a476c31e15b3e12c29c7e0dbd0876f42f74f91e9197398640f6463824a52f"), looks := false }, kinds := [], alts := [], laidByText := true, laidKinds := [.data, .pinned], laidTests := true, laidLooks := .later }
def PacesKeptCardSaid : Prop := Claim7.holds Tryd.pinned (.plain (OpenSpec.ofChange pacesKeptSpec)) pacesKeptCard

/-- THE TIED CARD OF 'tumblaw1.LengthsBest'. -/
def lengthsBestCard : Claim7 := { stood := { row := lengthsBestRow, standIns := [], harness := (true, "6c6a476c31e15b3e12c29c7e0dbd0876f42f74f91e9197398640f6463824a52f"), looks := false }, kinds := [], alts := [], laidByText := true, laidKinds := [.data, .pinned], laidTests := true, laidLooks := .later }
def LengthsBestCardSaid : Prop := Claim7.holds Tryd.pinned (.plain (OpenSpec.ofChange lengthsBestSpec)) lengthsBestCard

/-- THE TIED CARD OF 'tumblaw1.TakesWatched'. -/
def takesWatchedCard : Claim7 := { stood := { row := takesWatchedRow, standIns := [], harness := (true, "6c6a476c31e15b3e12c29c7e0dbd0876f42f74f91e9197398640f6463824a52f"), looks := false }, kinds := [], alts := [], laidByText := true, laidKinds := [.data, .pinned], laidTests := true, laidLooks := .later }
def TakesWatchedCardSaid : Prop := Claim7.holds Tryd.pinned (.plain (OpenSpec.ofChange takesWatchedSpec)) takesWatchedCard

/-- THE TIED CARD OF 'tumblaw1.SplitsTold'. -/
def splitsToldCard : Claim7 := { stood := { row := splitsToldRow, standIns := [], harness := (true, "6c6a476c31e15b3e12c29c7e0dbd0876f42f74f91e9197398640f6463824a52f"), looks := false }, kinds := [], alts := [], laidByText := true, laidKinds := [.data, .data, .data, .data, .pinned], laidTests := true, laidLooks := .later }
def SplitsToldCardSaid : Prop := Claim7.holds Tryd.pinned (.plain (OpenSpec.ofChange splitsToldSpec)) splitsToldCard

/-- THE TIED CARD OF 'tumblaw1.CoursesCompared'. -/
def coursesComparedCard : Claim7 := { stood := { row := coursesComparedRow, standIns := [], harness := (true, "6c6a476c31e15b3e12c29c7e0dbd0876f42f74f91e9197398640f6463824a52f"), looks := false }, kinds := [], alts := [], laidByText := true, laidKinds := [.data, .data, .data, .data, .pinned], laidTests := true, laidLooks := .later }
def CoursesComparedCardSaid : Prop := Claim7.holds Tryd.pinned (.plain (OpenSpec.ofChange coursesComparedSpec)) coursesComparedCard

/-- THE TIED CARD OF 'tumblaw1.LinesCompared'. -/
def linesComparedCard : Claim7 := { stood := { row := linesComparedRow, standIns := [], harness := (true, "6c6a476c31e15b3e12c29c7e0dbd0876f42f74f91e9197398640f6463824a52f"), looks := false }, kinds := [], alts := [], laidByText := true, laidKinds := [.data, .data, .data, .data, .pinned], laidTests := true, laidLooks := .later }
def LinesComparedCardSaid : Prop := Claim7.holds Tryd.pinned (.plain (OpenSpec.ofChange linesComparedSpec)) linesComparedCard

/-- THE TIED CARD OF 'tumblaw1.TouchesOfficial'. -/
def touchesOfficialCard : Claim7 := { stood := { row := touchesOfficialRow, standIns := [], harness := (true, "6c6a476c31e15b3e12c29c7e0dbd0876f42f74f91e9197398640f6463824a52f"), looks := false }, kinds := [], alts := [], laidByText := true, laidKinds := [.data, .data, .data], laidTests := true, laidLooks := .later }
def TouchesOfficialCardSaid : Prop := Claim7.holds Tryd.pinned (.plain (OpenSpec.ofChange touchesOfficialSpec)) touchesOfficialCard

/-- THE TIED CARD OF 'tumbkeep1.LapsAddUp'. -/
def lapsAddUpCard : Claim7 := { stood := { row := lapsAddUpRow, standIns := [], harness := (true, "6c6a476c31e15b3e12c29c7e0dbd0876f42f74f91e9197398640f6463824a52f"), looks := false }, kinds := [], alts := [], laidByText := true, laidKinds := [.data, .data, .data, .data, .pinned], laidTests := true, laidLooks := .later }
def LapsAddUpCardSaid : Prop := Claim7.holds Tryd.pinned (.plain (OpenSpec.ofChange lapsAddUpSpec)) lapsAddUpCard

/-- THE TIED CARD OF 'tumbkeep1.FilledIsRight'. -/
def filledIsRightCard : Claim7 := { stood := { row := filledIsRightRow, standIns := [], harness := (true, "6c6a476c31e15b3e12c29c7e0dbd0876f42f74f91e9197398640f6463824a52f"), looks := false }, kinds := [], alts := [], laidByText := true, laidKinds := [.data, .data, .data, .data, .pinned], laidTests := true, laidLooks := .later }
def FilledIsRightCardSaid : Prop := Claim7.holds Tryd.pinned (.plain (OpenSpec.ofChange filledIsRightSpec)) filledIsRightCard

/-- THE TIED CARD OF 'tumbkeep1.LongIsLeast'. -/
def longIsLeastCard : Claim7 := { stood := { row := longIsLeastRow, standIns := [], harness := (true, "6c6a476c31e15b3e12c29c7e0dbd0876f42f74f91e9197398640f6463824a52f"), looks := false }, kinds := [], alts := [], laidByText := true, laidKinds := [.data, .data, .data, .data, .pinned], laidTests := true, laidLooks := .later }
def LongIsLeastCardSaid : Prop := Claim7.holds Tryd.pinned (.plain (OpenSpec.ofChange longIsLeastSpec)) longIsLeastCard

/-- THE TIED CARD OF 'tumbkeep1.LikeItselfIsItself'. -/
def likeItselfIsItselfCard : Claim7 := { stood := { row := likeItselfIsItselfRow, standIns := [], harness := (true, "6c6a476c31e15b3e12c29c7e0dbd0876f42f74f91e9197398640f6463824a52f"), looks := false }, kinds := [], alts := [], laidByText := true, laidKinds := [.data, .data, .data, .data, .pinned], laidTests := true, laidLooks := .later }
def LikeItselfIsItselfCardSaid : Prop := Claim7.holds Tryd.pinned (.plain (OpenSpec.ofChange likeItselfIsItselfSpec)) likeItselfIsItselfCard

/-- THE SECOND FORM's CARD OF 'tumblaw1.RacesChecked'. -/
def racesCheckedUptoCard : Claim7 := { stood := { row := racesCheckedUptoRow, standIns := [], harness := (true, "6c6a476c31e15b3e12c29c7e0dbd0876f42f74f91e9197398640f6463824a52f"), looks := false }, kinds := [], alts := [], laidByText := true, laidKinds := [.data, .data, .data, .data, .pinned], laidTests := true, laidLooks := .later }
def RacesCheckedUptoCardSaid : Prop := Claim7.holds Tryd.pinned (.plain (OpenSpec.upto racesCheckedSpec)) racesCheckedUptoCard

/-- THE SECOND FORM's CARD OF 'tumblaw1.PacesKept'. -/
def pacesKeptUptoCard : Claim7 := { stood := { row := pacesKeptUptoRow, standIns := [], harness := (true, "6c6a476c31e15b3e12c29c7e0dbd0876f42f74f91e9197398640f6463824a52f"), looks := false }, kinds := [], alts := [], laidByText := true, laidKinds := [.data, .pinned], laidTests := true, laidLooks := .later }
def PacesKeptUptoCardSaid : Prop := Claim7.holds Tryd.pinned (.plain (OpenSpec.upto pacesKeptSpec)) pacesKeptUptoCard

/-- THE SECOND FORM's CARD OF 'tumblaw1.LengthsBest'. -/
def lengthsBestUptoCard : Claim7 := { stood := { row := lengthsBestUptoRow, standIns := [], harness := (true, "6c6a476c31e15b3e12c29c7e0dbd0876f42f74f91e9197398640f6463824a52f"), looks := false }, kinds := [], alts := [], laidByText := true, laidKinds := [.data, .pinned], laidTests := true, laidLooks := .later }
def LengthsBestUptoCardSaid : Prop := Claim7.holds Tryd.pinned (.plain (OpenSpec.upto lengthsBestSpec)) lengthsBestUptoCard

/-- THE SECOND FORM's CARD OF 'tumblaw1.TakesWatched'. -/
def takesWatchedUptoCard : Claim7 := { stood := { row := takesWatchedUptoRow, standIns := [], harness := (true, "6c6a476c31e15b3e12c29c7e0dbd0876f42f74f91e9197398640f6463824a52f"), looks := false }, kinds := [], alts := [], laidByText := true, laidKinds := [.data, .pinned], laidTests := true, laidLooks := .later }
def TakesWatchedUptoCardSaid : Prop := Claim7.holds Tryd.pinned (.plain (OpenSpec.upto takesWatchedSpec)) takesWatchedUptoCard

/-- THE SECOND FORM's CARD OF 'tumblaw1.SplitsTold'. -/
def splitsToldUptoCard : Claim7 := { stood := { row := splitsToldUptoRow, standIns := [], harness := (true, "6c6a476c31e15b3e12c29c7e0dbd0876f42f74f91e9197398640f6463824a52f"), looks := false }, kinds := [], alts := [], laidByText := true, laidKinds := [.data, .data, .data, .data, .pinned], laidTests := true, laidLooks := .later }
def SplitsToldUptoCardSaid : Prop := Claim7.holds Tryd.pinned (.plain (OpenSpec.upto splitsToldSpec)) splitsToldUptoCard

/-- THE SECOND FORM's CARD OF 'tumblaw1.CoursesCompared'. -/
def coursesComparedUptoCard : Claim7 := { stood := { row := coursesComparedUptoRow, standIns := [], harness := (true, "6c6a476c31e15b3e12c29c7e0dbd0876f42f74f91e9197398640f6463824a52f"), looks := false }, kinds := [], alts := [], laidByText := true, laidKinds := [.data, .data, .data, .data, .pinned], laidTests := true, laidLooks := .later }
def CoursesComparedUptoCardSaid : Prop := Claim7.holds Tryd.pinned (.plain (OpenSpec.upto coursesComparedSpec)) coursesComparedUptoCard

/-- THE SECOND FORM's CARD OF 'tumblaw1.LinesCompared'. -/
def linesComparedUptoCard : Claim7 := { stood := { row := linesComparedUptoRow, standIns := [], harness := (true, "6c6a476c31e15b3e12c29c7e0dbd0876f42f74f91e9197398640f6463824a52f"), looks := false }, kinds := [], alts := [], laidByText := true, laidKinds := [.data, .data, .data, .data, .pinned], laidTests := true, laidLooks := .later }
def LinesComparedUptoCardSaid : Prop := Claim7.holds Tryd.pinned (.plain (OpenSpec.upto linesComparedSpec)) linesComparedUptoCard

/-- THE SECOND FORM's CARD OF 'tumblaw1.TouchesOfficial'. -/
def touchesOfficialUptoCard : Claim7 := { stood := { row := touchesOfficialUptoRow, standIns := [], harness := (true, "6c6a476c31e15b3e12c29c7e0dbd0876f42f74f91e9197398640f6463824a52f"), looks := false }, kinds := [], alts := [], laidByText := true, laidKinds := [.data, .data, .data], laidTests := true, laidLooks := .later }
def TouchesOfficialUptoCardSaid : Prop := Claim7.holds Tryd.pinned (.plain (OpenSpec.upto touchesOfficialSpec)) touchesOfficialUptoCard

/-- THE SECOND FORM's CARD OF 'tumbkeep1.LapsAddUp'. -/
def lapsAddUpUptoCard : Claim7 := { stood := { row := lapsAddUpUptoRow, standIns := [], harness := (true, "6c6a476c31e15b3e12c29c7e0dbd0876f42f74f91e9197398640f6463824a52f"), looks := false }, kinds := [], alts := [], laidByText := true, laidKinds := [.data, .data, .data, .data, .pinned], laidTests := true, laidLooks := .later }
def LapsAddUpUptoCardSaid : Prop := Claim7.holds Tryd.pinned (.plain (OpenSpec.upto lapsAddUpSpec)) lapsAddUpUptoCard

/-- THE SECOND FORM's CARD OF 'tumbkeep1.FilledIsRight'. -/
def filledIsRightUptoCard : Claim7 := { stood := { row := filledIsRightUptoRow, standIns := [], harness := (true, "6c6a476c31e15b3e12c29c7e0dbd0876f42f74f91e9197398640f6463824a52f"), looks := false }, kinds := [], alts := [], laidByText := true, laidKinds := [.data, .data, .data, .data, .pinned], laidTests := true, laidLooks := .later }
def FilledIsRightUptoCardSaid : Prop := Claim7.holds Tryd.pinned (.plain (OpenSpec.upto filledIsRightSpec)) filledIsRightUptoCard

/-- THE SECOND FORM's CARD OF 'tumbkeep1.LongIsLeast'. -/
def longIsLeastUptoCard : Claim7 := { stood := { row := longIsLeastUptoRow, standIns := [], harness := (true, "6c6a476c31e15b3e12c29c7e0dbd0876f42f74f91e9197398640f6463824a52f"), looks := false }, kinds := [], alts := [], laidByText := true, laidKinds := [.data, .data, .data, .data, .pinned], laidTests := true, laidLooks := .later }
def LongIsLeastUptoCardSaid : Prop := Claim7.holds Tryd.pinned (.plain (OpenSpec.upto longIsLeastSpec)) longIsLeastUptoCard

/-- THE SECOND FORM's CARD OF 'tumbkeep1.LikeItselfIsItself'. -/
def likeItselfIsItselfUptoCard : Claim7 := { stood := { row := likeItselfIsItselfUptoRow, standIns := [], harness := (true, "6c6a476c31e15b3e12c29c7e0dbd0876f42f74f91e9197398640f6463824a52f"), looks := false }, kinds := [], alts := [], laidByText := true, laidKinds := [.data, .data, .data, .data, .pinned], laidTests := true, laidLooks := .later }
def LikeItselfIsItselfUptoCardSaid : Prop := Claim7.holds Tryd.pinned (.plain (OpenSpec.upto likeItselfIsItselfSpec)) likeItselfIsItselfUptoCard
end Rows
end Go.Proofs.YtjfppcejcbfngaaDoor
