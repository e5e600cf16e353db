/- How many lengths a race has: the program's and the reference's. -/
import Derived.Test.YtjafcnblgeibpaaDoorKeys
namespace Go.Proofs.YtjafcnblgeibpaaDoor
open Go.RowKit
set_option linter.unusedVariables false

end Go.Proofs.YtjafcnblgeibpaaDoor
