import Derived.Test.YtnkhdofcmanipaaGreatDoorTaStructs
import Derived.Test.YtnkhdofcmanipaaGreatDoorTaTurns
import Derived.Deep.RegionHeld3
import Derived.BigGuardPart
import Derived.IntWalk
import Derived.Test.YtnkhdofcmanipaaGreatDoorTaRows2
import Derived.Deep.AppendLies
import Derived.Test.YtnkhdofcmanipaaGreatDoorProg
import Derived.Laws.StructEq
/- Fields of swimmers: as data; the checks of a field. -/
namespace Go.Proofs.YtnkhdofcmanipaaGreatDoor
open Go.RowKit
set_option linter.unusedVariables false

structure Sw where
  who : ByteArray
  A : Option Addr
  n : Nat
  c : Nat
  sp : List Int
section
variable {w w' : World} {A : Option Addr} {n : Nat} {l : List Sw}
end
/-- what an append onto a row leaves: every block of another element type -/
theorem keep_of_app {w w' : World} {base : Nat} {e : TypeId} {size n : Nat} {v : Value} {xs : List Value} (hown : w.ownsRow base e size v n xs) (hg : w.grownBy w' v.ownBlock) : Keep e w w' := fun b cs t fz hne hb => blk_grown hb hg (fun he => by
  rcases hown.2 with ⟨rfl, _⟩ | ⟨g', cap, cur, rfl, _, hh, _⟩
  · simp [Value.ownBlock] at he
  · have e1 : b = g' := by simpa [Value.ownBlock] using he
    subst e1
    rw [hb] at hh
    injection hh with hh
    injection hh with _ ht
    exact hne ht)
/-! ## the checks -/
def leS (a b : ByteArray) : Bool := Op.bytesLess a.toList b.toList || (a.toList == b.toList)
def leO (a : ByteArray) : Option ByteArray → Bool
  | none => false
  | some b => leS a b
end Go.Proofs.YtnkhdofcmanipaaGreatDoor

/- Fields of swimmers: the reference's check. -/
namespace Go.Proofs.YtnkhdofcmanipaaGreatDoor
open Go.RowKit
set_option linter.unusedVariables false

end Go.Proofs.YtnkhdofcmanipaaGreatDoor

/- How many hundredths all were before a line: the reference's and the program's. -/
namespace Go.Proofs.YtnkhdofcmanipaaGreatDoor
open Go.RowKit
set_option linter.unusedVariables false

end Go.Proofs.YtnkhdofcmanipaaGreatDoor

/- How many hundredths all were before a line: the program's. -/
namespace Go.Proofs.YtnkhdofcmanipaaGreatDoor
open Go.RowKit
set_option linter.unusedVariables false

end Go.Proofs.YtnkhdofcmanipaaGreatDoor

/- api.Gap as data; slices.Equal over it. -/
namespace Go.Proofs.YtnkhdofcmanipaaGreatDoor
open Go.RowKit
set_option linter.unusedVariables false

structure Gp where
  who : ByteArray
  length : Int
  behind : Int
deriving DecidableEq
end Go.Proofs.YtnkhdofcmanipaaGreatDoor

/- Best laps, plain: column by column (the reference), swim by swim (the program). -/
namespace Go.Proofs.YtnkhdofcmanipaaGreatDoor
open Go.RowKit
set_option linter.unusedVariables false

end Go.Proofs.YtnkhdofcmanipaaGreatDoor

/- The reference's BestLaps. (UNDER WAY) -/
namespace Go.Proofs.YtnkhdofcmanipaaGreatDoor
open Go.RowKit
set_option linter.unusedVariables false

end Go.Proofs.YtnkhdofcmanipaaGreatDoor
