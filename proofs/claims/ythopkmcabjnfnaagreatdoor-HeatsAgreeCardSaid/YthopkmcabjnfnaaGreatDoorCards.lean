/-
  DERIVED. GIVEN WITH THE SEED: THE CARDS: each row of YthopkmcabjnfnaaGreatDoorRows.lean that lists a variable, with what it lists TIED to the program's text (the seventh form; the later family's looks); each row that meets fmt, with fmt's text TOLD by the authors' own Lean function (tested against real Go, not proved from fmt's source: count such statements apart). THE CARD IS WHAT COUNTS. Prove the row's statement (the work); the ties are given (YthopkmcabjnfnaaGreatDoorTie.lean); close each card by the builder's one call (the guide's Derived/Test/ToyasCard.lean, 'card_holds'). Laid BY PROGRAM, IN A SANDBOX (cutbox-door.mjs). By AI agents, Wed Nov 11 2026. No macro, syntax, notation, axiom, sorry.
-/
import Derived.Test.YthopkmcabjnfnaaGreatDoorRows
import GoSem.ClaimSeven
namespace Go.Proofs.YthopkmcabjnfnaaGreatDoor
namespace Rows

/-- THE TIED CARD OF 'tumbkeep1.HeatsAgree'. -/
def heatsAgreeCard : Claim7 := { stood := { row := heatsAgreeRow, standIns := [], harness := (true, "8a3fd9854e27b1e25a85615386a5d42c9cece44d344012cdde71cee26e04d498"), looks := false }, kinds := [], alts := [], laidByText := true, laidKinds := [.data, .data, .data, .data, .pinned], laidTests := true, laidLooks := .later }
def HeatsAgreeCardSaid : Prop := Claim7.holds Tryz.pinned (.plain (OpenSpec.ofChange heatsAgreeSpec)) heatsAgreeCard

/-- THE TIED CARD OF 'tumbtop.TopFinalsAreRanks'. -/
def topFinalsAreRanksCard : Claim7 := { stood := { row := topFinalsAreRanksRow, standIns := [], harness := (true, "8a3fd9854e27b1e25a85615386a5d42c9cece44d344012cdde71cee26e04d498"), looks := false }, kinds := [], alts := [], laidByText := true, laidKinds := [.data, .data, .data, .data, .pinned], laidTests := true, laidLooks := .later }
def TopFinalsAreRanksCardSaid : Prop := Claim7.holds Tryz.pinned (.plain (OpenSpec.ofChange topFinalsAreRanksSpec)) topFinalsAreRanksCard

/-- THE TIED CARD OF 'tumbkeep1.FinalsAreFull'. -/
def finalsAreFullCard : Claim7 := { stood := { row := finalsAreFullRow, standIns := [], harness := (true, "8a3fd9854e27b1e25a85615386a5d42c9cece44d344012cdde71cee26e04d498"), looks := false }, kinds := [], alts := [], laidByText := true, laidKinds := [.data, .data, .data, .data, .pinned], laidTests := true, laidLooks := .later }
def FinalsAreFullCardSaid : Prop := Claim7.holds Tryz.pinned (.plain (OpenSpec.ofChange finalsAreFullSpec)) finalsAreFullCard

/-- THE TIED CARD OF 'tumbkeep1.RanksLeavePlaces'. -/
def ranksLeavePlacesCard : Claim7 := { stood := { row := ranksLeavePlacesRow, standIns := [], harness := (true, "8a3fd9854e27b1e25a85615386a5d42c9cece44d344012cdde71cee26e04d498"), looks := false }, kinds := [], alts := [], laidByText := true, laidKinds := [.data, .data, .data, .data, .pinned], laidTests := true, laidLooks := .later }
def RanksLeavePlacesCardSaid : Prop := Claim7.holds Tryz.pinned (.plain (OpenSpec.ofChange ranksLeavePlacesSpec)) ranksLeavePlacesCard

/-- THE TIED CARD OF 'tumbkeep1.TimesStay'. -/
def timesStayCard : Claim7 := { stood := { row := timesStayRow, standIns := [], harness := (true, "8a3fd9854e27b1e25a85615386a5d42c9cece44d344012cdde71cee26e04d498"), looks := false }, kinds := [], alts := [], laidByText := true, laidKinds := [.data, .data, .data, .data, .pinned], laidTests := true, laidLooks := .later }
def TimesStayCardSaid : Prop := Claim7.holds Tryz.pinned (.plain (OpenSpec.ofChange timesStaySpec)) timesStayCard

/-- THE TIED CARD OF 'tumblaw1.FinalsMade'. -/
def finalsMadeCard : Claim7 := { stood := { row := finalsMadeRow, standIns := [], harness := (true, "8a3fd9854e27b1e25a85615386a5d42c9cece44d344012cdde71cee26e04d498"), looks := false }, kinds := [], alts := [], laidByText := true, laidKinds := [.data, .data, .data, .data, .pinned], laidTests := true, laidLooks := .later }
def FinalsMadeCardSaid : Prop := Claim7.holds Tryz.pinned (.plain (OpenSpec.ofChange finalsMadeSpec)) finalsMadeCard

/-- THE TIED CARD OF 'tumbkeep1.SwimOffsDecide'. -/
def swimOffsDecideCard : Claim7 := { stood := { row := swimOffsDecideRow, standIns := [], harness := (true, "8a3fd9854e27b1e25a85615386a5d42c9cece44d344012cdde71cee26e04d498"), looks := false }, kinds := [], alts := [], laidByText := true, laidKinds := [.data, .data, .data, .data, .pinned], laidTests := true, laidLooks := .later }
def SwimOffsDecideCardSaid : Prop := Claim7.holds Tryz.pinned (.plain (OpenSpec.ofChange swimOffsDecideSpec)) swimOffsDecideCard

/-- THE SECOND FORM's CARD OF 'tumbkeep1.HeatsAgree'. -/
def heatsAgreeUptoCard : Claim7 := { stood := { row := heatsAgreeUptoRow, standIns := [], harness := (true, "8a3fd9854e27b1e25a85615386a5d42c9cece44d344012cdde71cee26e04d498"), looks := false }, kinds := [], alts := [], laidByText := true, laidKinds := [.data, .data, .data, .data, .pinned], laidTests := true, laidLooks := .later }
def HeatsAgreeUptoCardSaid : Prop := Claim7.holds Tryz.pinned (.plain (OpenSpec.upto heatsAgreeSpec)) heatsAgreeUptoCard

/-- THE SECOND FORM's CARD OF 'tumbtop.TopFinalsAreRanks'. -/
def topFinalsAreRanksUptoCard : Claim7 := { stood := { row := topFinalsAreRanksUptoRow, standIns := [], harness := (true, "8a3fd9854e27b1e25a85615386a5d42c9cece44d344012cdde71cee26e04d498"), looks := false }, kinds := [], alts := [], laidByText := true, laidKinds := [.data, .data, .data, .data, .pinned], laidTests := true, laidLooks := .later }
def TopFinalsAreRanksUptoCardSaid : Prop := Claim7.holds Tryz.pinned (.plain (OpenSpec.upto topFinalsAreRanksSpec)) topFinalsAreRanksUptoCard

/-- THE SECOND FORM's CARD OF 'tumbkeep1.FinalsAreFull'. -/
def finalsAreFullUptoCard : Claim7 := { stood := { row := finalsAreFullUptoRow, standIns := [], harness := (true, "8a3fd9854e27b1e25a85615386a5d42c9cece44d344012cdde71cee26e04d498"), looks := false }, kinds := [], alts := [], laidByText := true, laidKinds := [.data, .data, .data, .data, .pinned], laidTests := true, laidLooks := .later }
def FinalsAreFullUptoCardSaid : Prop := Claim7.holds Tryz.pinned (.plain (OpenSpec.upto finalsAreFullSpec)) finalsAreFullUptoCard

/-- THE SECOND FORM's CARD OF 'tumbkeep1.RanksLeavePlaces'. -/
def ranksLeavePlacesUptoCard : Claim7 := { stood := { row := ranksLeavePlacesUptoRow, standIns := [], harness := (true, "8a3fd9854e27b1e25a85615386a5d42c9cece44d344012cdde71cee26e04d498"), looks := false }, kinds := [], alts := [], laidByText := true, laidKinds := [.data, .data, .data, .data, .pinned], laidTests := true, laidLooks := .later }
def RanksLeavePlacesUptoCardSaid : Prop := Claim7.holds Tryz.pinned (.plain (OpenSpec.upto ranksLeavePlacesSpec)) ranksLeavePlacesUptoCard

/-- THE SECOND FORM's CARD OF 'tumbkeep1.TimesStay'. -/
def timesStayUptoCard : Claim7 := { stood := { row := timesStayUptoRow, standIns := [], harness := (true, "8a3fd9854e27b1e25a85615386a5d42c9cece44d344012cdde71cee26e04d498"), looks := false }, kinds := [], alts := [], laidByText := true, laidKinds := [.data, .data, .data, .data, .pinned], laidTests := true, laidLooks := .later }
def TimesStayUptoCardSaid : Prop := Claim7.holds Tryz.pinned (.plain (OpenSpec.upto timesStaySpec)) timesStayUptoCard

/-- THE SECOND FORM's CARD OF 'tumblaw1.FinalsMade'. -/
def finalsMadeUptoCard : Claim7 := { stood := { row := finalsMadeUptoRow, standIns := [], harness := (true, "8a3fd9854e27b1e25a85615386a5d42c9cece44d344012cdde71cee26e04d498"), looks := false }, kinds := [], alts := [], laidByText := true, laidKinds := [.data, .data, .data, .data, .pinned], laidTests := true, laidLooks := .later }
def FinalsMadeUptoCardSaid : Prop := Claim7.holds Tryz.pinned (.plain (OpenSpec.upto finalsMadeSpec)) finalsMadeUptoCard

/-- THE SECOND FORM's CARD OF 'tumbkeep1.SwimOffsDecide'. -/
def swimOffsDecideUptoCard : Claim7 := { stood := { row := swimOffsDecideUptoRow, standIns := [], harness := (true, "8a3fd9854e27b1e25a85615386a5d42c9cece44d344012cdde71cee26e04d498"), looks := false }, kinds := [], alts := [], laidByText := true, laidKinds := [.data, .data, .data, .data, .pinned], laidTests := true, laidLooks := .later }
def SwimOffsDecideUptoCardSaid : Prop := Claim7.holds Tryz.pinned (.plain (OpenSpec.upto swimOffsDecideSpec)) swimOffsDecideUptoCard
end Rows
end Go.Proofs.YthopkmcabjnfnaaGreatDoor
