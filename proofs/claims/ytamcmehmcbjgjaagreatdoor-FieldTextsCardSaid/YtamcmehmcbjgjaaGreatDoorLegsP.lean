import Derived.Test.YtamcmehmcbjgjaaGreatDoorFillP
import Derived.IntWalk
/- The reference's FilledOf. -/
namespace Go.Proofs.YtamcmehmcbjgjaaGreatDoor
open Go.RowKit
set_option linter.unusedVariables false

/-- the one before -/
def lastOf (L : List Int) (k : Nat) : Int := if k = 0 then 0 else L.getD (k - 1) 0
theorem lastOf_succ {L : List Int} {k : Nat} {x : Int} (h : L[k]? = some x) : lastOf L (k + 1) = x := by unfold lastOf; rw [if_neg (by omega)]; exact getD_of h

end Go.Proofs.YtamcmehmcbjgjaaGreatDoor

/- timing.Legs. -/
namespace Go.Proofs.YtamcmehmcbjgjaaGreatDoor
open Go.RowKit
set_option linter.unusedVariables false

end Go.Proofs.YtamcmehmcbjgjaaGreatDoor
