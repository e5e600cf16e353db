/- How many lengths a race has: the program's and the reference's. -/
import Derived.Test.YtjafcnblgeibpaaGreatDoorKeys
namespace Go.Proofs.YtjafcnblgeibpaaGreatDoor
open Go.RowKit
set_option linter.unusedVariables false

end Go.Proofs.YtjafcnblgeibpaaGreatDoor
