/-
  DERIVED. GIVEN WITH THE SEED: THE CARDS: each row of YtpepdkgkdbnakaaGreatDoorRows.lean that lists a variable, with what it lists TIED to the program's text (the seventh form; the later family's looks); each row that meets fmt, with fmt's text TOLD by the authors' own Lean function (tested against real Go, not proved from fmt's source: count such statements apart). THE CARD IS WHAT COUNTS. Prove the row's statement (the work); the ties are given (YtpepdkgkdbnakaaGreatDoorTie.lean); close each card by the builder's one call (the guide's Derived/Test/ToyasCard.lean, 'card_holds'). Laid BY PROGRAM, IN A SANDBOX (cutbox-door.mjs). By AI agents, Wed Nov 11 2026. No macro, syntax, notation, axiom, sorry.
-/
import Derived.Test.YtpepdkgkdbnakaaGreatDoorRows
import GoSem.ClaimSeven
namespace Go.Proofs.YtpepdkgkdbnakaaGreatDoor
namespace Rows

/-- THE TIED CARD OF 'tumblaw1.FinalsMade'. -/
def finalsMadeCard : Claim7 := { stood := { row := finalsMadeRow, standIns := [], harness := (true, "32e02dcabff57db6da2d91ca29411e646c53bab005ac1d682fb156f44635f689"), looks := false }, kinds := [], alts := [], laidByText := true, laidKinds := [.data, .data, .data, .data, .pinned], laidTests := true, laidLooks := .later }
def FinalsMadeCardSaid : Prop := Claim7.holds Tryz.pinned (.plain (OpenSpec.ofChange finalsMadeSpec)) finalsMadeCard

/-- THE TIED CARD OF 'tumblaw1.VerdictsTold'. -/
def verdictsToldCard : Claim7 := { stood := { row := verdictsToldRow, standIns := [], harness := (true, "32e02dcabff57db6da2d91ca29411e646c53bab005ac1d682fb156f44635f689"), looks := false }, kinds := [], alts := [], laidByText := true, laidKinds := [.data, .data, .data, .data, .pinned], laidTests := true, laidLooks := .later }
def VerdictsToldCardSaid : Prop := Claim7.holds Tryz.pinned (.plain (OpenSpec.ofChange verdictsToldSpec)) verdictsToldCard

/-- THE TIED CARD OF 'tumbkeep1.NoClaimsNoChange'. -/
def noClaimsNoChangeCard : Claim7 := { stood := { row := noClaimsNoChangeRow, standIns := [], harness := (true, "32e02dcabff57db6da2d91ca29411e646c53bab005ac1d682fb156f44635f689"), looks := false }, kinds := [], alts := [], laidByText := true, laidKinds := [.data, .data, .data, .data, .pinned], laidTests := true, laidLooks := .later }
def NoClaimsNoChangeCardSaid : Prop := Claim7.holds Tryz.pinned (.plain (OpenSpec.ofChange noClaimsNoChangeSpec)) noClaimsNoChangeCard

/-- THE TIED CARD OF 'tumbkeep1.SwimOffsDecide'. -/
def swimOffsDecideCard : Claim7 := { stood := { row := swimOffsDecideRow, standIns := [], harness := (true, "32e02dcabff57db6da2d91ca29411e646c53bab005ac1d682fb156f44635f689"), looks := false }, kinds := [], alts := [], laidByText := true, laidKinds := [.data, .data, .data, .data, .pinned], laidTests := true, laidLooks := .later }
def SwimOffsDecideCardSaid : Prop := Claim7.holds Tryz.pinned (.plain (OpenSpec.ofChange swimOffsDecideSpec)) swimOffsDecideCard

/-- THE TIED CARD OF 'tumblaw1.ReportsKept'. -/
def reportsKeptCard : Claim7 := { stood := { row := reportsKeptRow, standIns := [], harness := (true, "32e02dcabff57db6da2d91ca29411e646c53bab005ac1d682fb156f44635f689"), looks := false }, kinds := [], alts := [], laidByText := true, laidKinds := [.data, .data, .data, .data, .pinned], laidTests := true, laidLooks := .later }
def ReportsKeptCardSaid : Prop := Claim7.holds Tryz.pinned (.plain (OpenSpec.ofChange reportsKeptSpec)) reportsKeptCard

/-- THE TIED CARD OF 'tumblaw1.StartsChanged'. -/
def startsChangedCard : Claim7 := { stood := { row := startsChangedRow, standIns := [], harness := (true, "32e02dcabff57db6da2d91ca29411e646c53bab005ac1d682fb156f44635f689"), looks := false }, kinds := [], alts := [], laidByText := true, laidKinds := [.data, .data, .data, .data, .pinned], laidTests := true, laidLooks := .later }
def StartsChangedCardSaid : Prop := Claim7.holds Tryz.pinned (.plain (OpenSpec.ofChange startsChangedSpec)) startsChangedCard

/-- THE TIED CARD OF 'tumbkeep1.JudgesAgree'. -/
def judgesAgreeCard : Claim7 := { stood := { row := judgesAgreeRow, standIns := [], harness := (true, "32e02dcabff57db6da2d91ca29411e646c53bab005ac1d682fb156f44635f689"), looks := false }, kinds := [], alts := [], laidByText := true, laidKinds := [.data, .data, .data, .data, .pinned], laidTests := true, laidLooks := .later }
def JudgesAgreeCardSaid : Prop := Claim7.holds Tryz.pinned (.plain (OpenSpec.ofChange judgesAgreeSpec)) judgesAgreeCard

/-- THE TIED CARD OF 'tumbkeep1.DevicesAgree'. -/
def devicesAgreeCard : Claim7 := { stood := { row := devicesAgreeRow, standIns := [], harness := (true, "32e02dcabff57db6da2d91ca29411e646c53bab005ac1d682fb156f44635f689"), looks := false }, kinds := [], alts := [], laidByText := true, laidKinds := [.data, .data, .data, .data, .pinned], laidTests := true, laidLooks := .later }
def DevicesAgreeCardSaid : Prop := Claim7.holds Tryz.pinned (.plain (OpenSpec.ofChange devicesAgreeSpec)) devicesAgreeCard

/-- THE TIED CARD OF 'tumbtop.TopLapsRace'. -/
def topLapsRaceCard : Claim7 := { stood := { row := topLapsRaceRow, standIns := [], harness := (true, "32e02dcabff57db6da2d91ca29411e646c53bab005ac1d682fb156f44635f689"), looks := false }, kinds := [], alts := [], laidByText := true, laidKinds := [.data, .data, .data, .data, .pinned], laidTests := true, laidLooks := .later }
def TopLapsRaceCardSaid : Prop := Claim7.holds Tryz.pinned (.plain (OpenSpec.ofChange topLapsRaceSpec)) topLapsRaceCard

/-- THE SECOND FORM's CARD OF 'tumblaw1.FinalsMade'. -/
def finalsMadeUptoCard : Claim7 := { stood := { row := finalsMadeUptoRow, standIns := [], harness := (true, "32e02dcabff57db6da2d91ca29411e646c53bab005ac1d682fb156f44635f689"), looks := false }, kinds := [], alts := [], laidByText := true, laidKinds := [.data, .data, .data, .data, .pinned], laidTests := true, laidLooks := .later }
def FinalsMadeUptoCardSaid : Prop := Claim7.holds Tryz.pinned (.plain (OpenSpec.upto finalsMadeSpec)) finalsMadeUptoCard

/-- THE SECOND FORM's CARD OF 'tumblaw1.VerdictsTold'. -/
def verdictsToldUptoCard : Claim7 := { stood := { row := verdictsToldUptoRow, standIns := [], harness := (true, "32e02dcabff57db6da2d91ca29411e646c53bab005ac1d682fb156f44635f689"), looks := false }, kinds := [], alts := [], laidByText := true, laidKinds := [.data, .data, .data, .data, .pinned], laidTests := true, laidLooks := .later }
def VerdictsToldUptoCardSaid : Prop := Claim7.holds Tryz.pinned (.plain (OpenSpec.upto verdictsToldSpec)) verdictsToldUptoCard

/-- THE SECOND FORM's CARD OF 'tumbkeep1.NoClaimsNoChange'. -/
def noClaimsNoChangeUptoCard : Claim7 := { stood := { row := noClaimsNoChangeUptoRow, standIns := [], harness := (true, "32e02dcabff57db6da2d91ca29411e646c53bab005ac1d682fb156f44635f689"), looks := false }, kinds := [], alts := [], laidByText := true, laidKinds := [.data, .data, .data, .data, .pinned], laidTests := true, laidLooks := .later }
def NoClaimsNoChangeUptoCardSaid : Prop := Claim7.holds Tryz.pinned (.plain (OpenSpec.upto noClaimsNoChangeSpec)) noClaimsNoChangeUptoCard

/-- THE SECOND FORM's CARD OF 'tumbkeep1.SwimOffsDecide'. -/
def swimOffsDecideUptoCard : Claim7 := { stood := { row := swimOffsDecideUptoRow, standIns := [], harness := (true, "32e02dcabff57db6da2d91ca29411e646c53bab005ac1d682fb156f44635f689"), looks := false }, kinds := [], alts := [], laidByText := true, laidKinds := [.data, .data, .data, .data, .pinned], laidTests := true, laidLooks := .later }
def SwimOffsDecideUptoCardSaid : Prop := Claim7.holds Tryz.pinned (.plain (OpenSpec.upto swimOffsDecideSpec)) swimOffsDecideUptoCard

/-- THE SECOND FORM's CARD OF 'tumblaw1.ReportsKept'. -/
def reportsKeptUptoCard : Claim7 := { stood := { row := reportsKeptUptoRow, standIns := [], harness := (true, "32e02dcabff57db6da2d91ca29411e646c53bab005ac1d682fb156f44635f689"), looks := false }, kinds := [], alts := [], laidByText := true, laidKinds := [.data, .data, .data, .data, .pinned], laidTests := true, laidLooks := .later }
def ReportsKeptUptoCardSaid : Prop := Claim7.holds Tryz.pinned (.plain (OpenSpec.upto reportsKeptSpec)) reportsKeptUptoCard

/-- THE SECOND FORM's CARD OF 'tumblaw1.StartsChanged'. -/
def startsChangedUptoCard : Claim7 := { stood := { row := startsChangedUptoRow, standIns := [], harness := (true, "32e02dcabff57db6da2d91ca29411e646c53bab005ac1d682fb156f44635f689"), looks := false }, kinds := [], alts := [], laidByText := true, laidKinds := [.data, .data, .data, .data, .pinned], laidTests := true, laidLooks := .later }
def StartsChangedUptoCardSaid : Prop := Claim7.holds Tryz.pinned (.plain (OpenSpec.upto startsChangedSpec)) startsChangedUptoCard

/-- THE SECOND FORM's CARD OF 'tumbkeep1.JudgesAgree'. -/
def judgesAgreeUptoCard : Claim7 := { stood := { row := judgesAgreeUptoRow, standIns := [], harness := (true, "32e02dcabff57db6da2d91ca29411e646c53bab005ac1d682fb156f44635f689"), looks := false }, kinds := [], alts := [], laidByText := true, laidKinds := [.data, .data, .data, .data, .pinned], laidTests := true, laidLooks := .later }
def JudgesAgreeUptoCardSaid : Prop := Claim7.holds Tryz.pinned (.plain (OpenSpec.upto judgesAgreeSpec)) judgesAgreeUptoCard

/-- THE SECOND FORM's CARD OF 'tumbkeep1.DevicesAgree'. -/
def devicesAgreeUptoCard : Claim7 := { stood := { row := devicesAgreeUptoRow, standIns := [], harness := (true, "32e02dcabff57db6da2d91ca29411e646c53bab005ac1d682fb156f44635f689"), looks := false }, kinds := [], alts := [], laidByText := true, laidKinds := [.data, .data, .data, .data, .pinned], laidTests := true, laidLooks := .later }
def DevicesAgreeUptoCardSaid : Prop := Claim7.holds Tryz.pinned (.plain (OpenSpec.upto devicesAgreeSpec)) devicesAgreeUptoCard

/-- THE SECOND FORM's CARD OF 'tumbtop.TopLapsRace'. -/
def topLapsRaceUptoCard : Claim7 := { stood := { row := topLapsRaceUptoRow, standIns := [], harness := (true, "32e02dcabff57db6da2d91ca29411e646c53bab005ac1d682fb156f44635f689"), looks := false }, kinds := [], alts := [], laidByText := true, laidKinds := [.data, .data, .data, .data, .pinned], laidTests := true, laidLooks := .later }
def TopLapsRaceUptoCardSaid : Prop := Claim7.holds Tryz.pinned (.plain (OpenSpec.upto topLapsRaceSpec)) topLapsRaceUptoCard
end Rows
end Go.Proofs.YtpepdkgkdbnakaaGreatDoor
