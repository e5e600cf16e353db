/-
  DERIVED. GIVEN WITH THE SEED: THE CARDS: each row of YtcmfgmdkdpadjaaGreatDoorRows.lean that lists a variable, with what it lists TIED to the program's text (the seventh form; the later family's looks); each row that meets fmt, with fmt's text TOLD by the authors' own Lean function (tested against real Go, not proved from fmt's source: count such statements apart). THE CARD IS WHAT COUNTS. Prove the row's statement (the work); the ties are given (YtcmfgmdkdpadjaaGreatDoorTie.lean); close each card by the builder's one call (the guide's Derived/Test/ToyasCard.lean, 'card_holds'). Laid BY PROGRAM, IN A SANDBOX (cutbox-door.mjs). By AI agents, Wed Nov 11 2026. No macro, syntax, notation, axiom, sorry.
-/
import Derived.Test.YtcmfgmdkdpadjaaGreatDoorRows
import GoSem.ClaimSeven
namespace Go.Proofs.YtcmfgmdkdpadjaaGreatDoor
namespace Rows

/-- THE TIED CARD OF 'tumblaw1.HeatsBegun'. -/
def heatsBegunCard : Claim7 := { stood := { row := heatsBegunRow, standIns := [], harness := (true, "23ad195fd4a64fc0e0d32a0dd6b845e3b311e1972ef036a65df1c72bb272dd5e"), looks := false }, kinds := [], alts := [], laidByText := true, laidKinds := [.data, .pinned], laidTests := true, laidLooks := .later }
def HeatsBegunCardSaid : Prop := Claim7.holds Tryz.pinned (.plain (OpenSpec.ofChange heatsBegunSpec)) heatsBegunCard

/-- THE TIED CARD OF 'tumblaw1.HeatsSized'. -/
def heatsSizedCard : Claim7 := { stood := { row := heatsSizedRow, standIns := [], harness := (true, "23ad195fd4a64fc0e0d32a0dd6b845e3b311e1972ef036a65df1c72bb272dd5e"), looks := false }, kinds := [], alts := [], laidByText := true, laidKinds := [.data, .data, .data, .data, .pinned], laidTests := true, laidLooks := .later }
def HeatsSizedCardSaid : Prop := Claim7.holds Tryz.pinned (.plain (OpenSpec.ofChange heatsSizedSpec)) heatsSizedCard

/-- THE TIED CARD OF 'tumblaw1.FinalsMade'. -/
def finalsMadeCard : Claim7 := { stood := { row := finalsMadeRow, standIns := [], harness := (true, "23ad195fd4a64fc0e0d32a0dd6b845e3b311e1972ef036a65df1c72bb272dd5e"), looks := false }, kinds := [], alts := [], laidByText := true, laidKinds := [.data, .data, .data, .data, .pinned], laidTests := true, laidLooks := .later }
def FinalsMadeCardSaid : Prop := Claim7.holds Tryz.pinned (.plain (OpenSpec.ofChange finalsMadeSpec)) finalsMadeCard

/-- THE TIED CARD OF 'tumbtop.TopFinalsAreRanks'. -/
def topFinalsAreRanksCard : Claim7 := { stood := { row := topFinalsAreRanksRow, standIns := [], harness := (true, "23ad195fd4a64fc0e0d32a0dd6b845e3b311e1972ef036a65df1c72bb272dd5e"), looks := false }, kinds := [], alts := [], laidByText := true, laidKinds := [.data, .data, .data, .data, .pinned], laidTests := true, laidLooks := .later }
def TopFinalsAreRanksCardSaid : Prop := Claim7.holds Tryz.pinned (.plain (OpenSpec.ofChange topFinalsAreRanksSpec)) topFinalsAreRanksCard

/-- THE TIED CARD OF 'tumbkeep1.FinalsAreFull'. -/
def finalsAreFullCard : Claim7 := { stood := { row := finalsAreFullRow, standIns := [], harness := (true, "23ad195fd4a64fc0e0d32a0dd6b845e3b311e1972ef036a65df1c72bb272dd5e"), looks := false }, kinds := [], alts := [], laidByText := true, laidKinds := [.data, .data, .data, .data, .pinned], laidTests := true, laidLooks := .later }
def FinalsAreFullCardSaid : Prop := Claim7.holds Tryz.pinned (.plain (OpenSpec.ofChange finalsAreFullSpec)) finalsAreFullCard

/-- THE TIED CARD OF 'tumbkeep1.TimesStay'. -/
def timesStayCard : Claim7 := { stood := { row := timesStayRow, standIns := [], harness := (true, "23ad195fd4a64fc0e0d32a0dd6b845e3b311e1972ef036a65df1c72bb272dd5e"), looks := false }, kinds := [], alts := [], laidByText := true, laidKinds := [.data, .data, .data, .data, .pinned], laidTests := true, laidLooks := .later }
def TimesStayCardSaid : Prop := Claim7.holds Tryz.pinned (.plain (OpenSpec.ofChange timesStaySpec)) timesStayCard

/-- THE TIED CARD OF 'tumbkeep1.SwimOffsDecide'. -/
def swimOffsDecideCard : Claim7 := { stood := { row := swimOffsDecideRow, standIns := [], harness := (true, "23ad195fd4a64fc0e0d32a0dd6b845e3b311e1972ef036a65df1c72bb272dd5e"), looks := false }, kinds := [], alts := [], laidByText := true, laidKinds := [.data, .data, .data, .data, .pinned], laidTests := true, laidLooks := .later }
def SwimOffsDecideCardSaid : Prop := Claim7.holds Tryz.pinned (.plain (OpenSpec.ofChange swimOffsDecideSpec)) swimOffsDecideCard

/-- THE TIED CARD OF 'tumblaw1.StartsChanged'. -/
def startsChangedCard : Claim7 := { stood := { row := startsChangedRow, standIns := [], harness := (true, "23ad195fd4a64fc0e0d32a0dd6b845e3b311e1972ef036a65df1c72bb272dd5e"), looks := false }, kinds := [], alts := [], laidByText := true, laidKinds := [.data, .data, .data, .data, .pinned], laidTests := true, laidLooks := .later }
def StartsChangedCardSaid : Prop := Claim7.holds Tryz.pinned (.plain (OpenSpec.ofChange startsChangedSpec)) startsChangedCard

/-- THE TIED CARD OF 'tumbkeep1.RanksLeavePlaces'. -/
def ranksLeavePlacesCard : Claim7 := { stood := { row := ranksLeavePlacesRow, standIns := [], harness := (true, "23ad195fd4a64fc0e0d32a0dd6b845e3b311e1972ef036a65df1c72bb272dd5e"), looks := false }, kinds := [], alts := [], laidByText := true, laidKinds := [.data, .data, .data, .data, .pinned], laidTests := true, laidLooks := .later }
def RanksLeavePlacesCardSaid : Prop := Claim7.holds Tryz.pinned (.plain (OpenSpec.ofChange ranksLeavePlacesSpec)) ranksLeavePlacesCard

/-- THE TIED CARD OF 'tumbkeep1.FastestInTheMiddle'. -/
def fastestInTheMiddleCard : Claim7 := { stood := { row := fastestInTheMiddleRow, standIns := [], harness := (true, "23ad195fd4a64fc0e0d32a0dd6b845e3b311e1972ef036a65df1c72bb272dd5e"), looks := false }, kinds := [], alts := [], laidByText := true, laidKinds := [.data, .data, .data, .data, .pinned], laidTests := true, laidLooks := .later }
def FastestInTheMiddleCardSaid : Prop := Claim7.holds Tryz.pinned (.plain (OpenSpec.ofChange fastestInTheMiddleSpec)) fastestInTheMiddleCard

/-- THE SECOND FORM's CARD OF 'tumblaw1.HeatsBegun'. -/
def heatsBegunUptoCard : Claim7 := { stood := { row := heatsBegunUptoRow, standIns := [], harness := (true, "23ad195fd4a64fc0e0d32a0dd6b845e3b311e1972ef036a65df1c72bb272dd5e"), looks := false }, kinds := [], alts := [], laidByText := true, laidKinds := [.data, .pinned], laidTests := true, laidLooks := .later }
def HeatsBegunUptoCardSaid : Prop := Claim7.holds Tryz.pinned (.plain (OpenSpec.upto heatsBegunSpec)) heatsBegunUptoCard

/-- THE SECOND FORM's CARD OF 'tumblaw1.HeatsSized'. -/
def heatsSizedUptoCard : Claim7 := { stood := { row := heatsSizedUptoRow, standIns := [], harness := (true, "23ad195fd4a64fc0e0d32a0dd6b845e3b311e1972ef036a65df1c72bb272dd5e"), looks := false }, kinds := [], alts := [], laidByText := true, laidKinds := [.data, .data, .data, .data, .pinned], laidTests := true, laidLooks := .later }
def HeatsSizedUptoCardSaid : Prop := Claim7.holds Tryz.pinned (.plain (OpenSpec.upto heatsSizedSpec)) heatsSizedUptoCard

/-- THE SECOND FORM's CARD OF 'tumblaw1.FinalsMade'. -/
def finalsMadeUptoCard : Claim7 := { stood := { row := finalsMadeUptoRow, standIns := [], harness := (true, "23ad195fd4a64fc0e0d32a0dd6b845e3b311e1972ef036a65df1c72bb272dd5e"), looks := false }, kinds := [], alts := [], laidByText := true, laidKinds := [.data, .data, .data, .data, .pinned], laidTests := true, laidLooks := .later }
def FinalsMadeUptoCardSaid : Prop := Claim7.holds Tryz.pinned (.plain (OpenSpec.upto finalsMadeSpec)) finalsMadeUptoCard

/-- THE SECOND FORM's CARD OF 'tumbtop.TopFinalsAreRanks'. -/
def topFinalsAreRanksUptoCard : Claim7 := { stood := { row := topFinalsAreRanksUptoRow, standIns := [], harness := (true, "23ad195fd4a64fc0e0d32a0dd6b845e3b311e1972ef036a65df1c72bb272dd5e"), looks := false }, kinds := [], alts := [], laidByText := true, laidKinds := [.data, .data, .data, .data, .pinned], laidTests := true, laidLooks := .later }
def TopFinalsAreRanksUptoCardSaid : Prop := Claim7.holds Tryz.pinned (.plain (OpenSpec.upto topFinalsAreRanksSpec)) topFinalsAreRanksUptoCard

/-- THE SECOND FORM's CARD OF 'tumbkeep1.FinalsAreFull'. -/
def finalsAreFullUptoCard : Claim7 := { stood := { row := finalsAreFullUptoRow, standIns := [], harness := (true, "23ad195fd4a64fc0e0d32a0dd6b845e3b311e1972ef036a65df1c72bb272dd5e"), looks := false }, kinds := [], alts := [], laidByText := true, laidKinds := [.data, .data, .data, .data, .pinned], laidTests := true, laidLooks := .later }
def FinalsAreFullUptoCardSaid : Prop := Claim7.holds Tryz.pinned (.plain (OpenSpec.upto finalsAreFullSpec)) finalsAreFullUptoCard

/-- THE SECOND FORM's CARD OF 'tumbkeep1.TimesStay'. -/
def timesStayUptoCard : Claim7 := { stood := { row := timesStayUptoRow, standIns := [], harness := (true, "23ad195fd4a64fc0e0d32a0dd6b845e3b311e1972ef036a65df1c72bb272dd5e"), looks := false }, kinds := [], alts := [], laidByText := true, laidKinds := [.data, .data, .data, .data, .pinned], laidTests := true, laidLooks := .later }
def TimesStayUptoCardSaid : Prop := Claim7.holds Tryz.pinned (.plain (OpenSpec.upto timesStaySpec)) timesStayUptoCard

/-- THE SECOND FORM's CARD OF 'tumbkeep1.SwimOffsDecide'. -/
def swimOffsDecideUptoCard : Claim7 := { stood := { row := swimOffsDecideUptoRow, standIns := [], harness := (true, "23ad195fd4a64fc0e0d32a0dd6b845e3b311e1972ef036a65df1c72bb272dd5e"), looks := false }, kinds := [], alts := [], laidByText := true, laidKinds := [.data, .data, .data, .data, .pinned], laidTests := true, laidLooks := .later }
def SwimOffsDecideUptoCardSaid : Prop := Claim7.holds Tryz.pinned (.plain (OpenSpec.upto swimOffsDecideSpec)) swimOffsDecideUptoCard

/-- THE SECOND FORM's CARD OF 'tumblaw1.StartsChanged'. -/
def startsChangedUptoCard : Claim7 := { stood := { row := startsChangedUptoRow, standIns := [], harness := (true, "23ad195fd4a64fc0e0d32a0dd6b845e3b311e1972ef036a65df1c72bb272dd5e"), looks := false }, kinds := [], alts := [], laidByText := true, laidKinds := [.data, .data, .data, .data, .pinned], laidTests := true, laidLooks := .later }
def StartsChangedUptoCardSaid : Prop := Claim7.holds Tryz.pinned (.plain (OpenSpec.upto startsChangedSpec)) startsChangedUptoCard

/-- THE SECOND FORM's CARD OF 'tumbkeep1.RanksLeavePlaces'. -/
def ranksLeavePlacesUptoCard : Claim7 := { stood := { row := ranksLeavePlacesUptoRow, standIns := [], harness := (true, "23ad195fd4a64fc0e0d32a0dd6b845e3b311e1972ef036a65df1c72bb272dd5e"), looks := false }, kinds := [], alts := [], laidByText := true, laidKinds := [.data, .data, .data, .data, .pinned], laidTests := true, laidLooks := .later }
def RanksLeavePlacesUptoCardSaid : Prop := Claim7.holds Tryz.pinned (.plain (OpenSpec.upto ranksLeavePlacesSpec)) ranksLeavePlacesUptoCard

/-- THE SECOND FORM's CARD OF 'tumbkeep1.FastestInTheMiddle'. -/
def fastestInTheMiddleUptoCard : Claim7 := { stood := { row := fastestInTheMiddleUptoRow, standIns := [], harness := (true, "23ad195fd4a64fc0e0d32a0dd6b845e3b311e1972ef036a65df1c72bb272dd5e"), looks := false }, kinds := [], alts := [], laidByText := true, laidKinds := [.data, .data, .data, .data, .pinned], laidTests := true, laidLooks := .later }
def FastestInTheMiddleUptoCardSaid : Prop := Claim7.holds Tryz.pinned (.plain (OpenSpec.upto fastestInTheMiddleSpec)) fastestInTheMiddleUptoCard
end Rows
end Go.Proofs.YtcmfgmdkdpadjaaGreatDoor
