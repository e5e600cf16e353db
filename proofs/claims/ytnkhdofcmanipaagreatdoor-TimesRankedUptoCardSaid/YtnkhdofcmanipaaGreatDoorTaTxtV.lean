import Derived.Test.YtnkhdofcmanipaaGreatDoorTaTimeR
import Derived.Test.YtnkhdofcmanipaaGreatDoorTaDraws
import Derived.BigRegion
/- The stream's Changed: some string; the reference's Written. -/
namespace Go.Proofs.YtnkhdofcmanipaaGreatDoor
open Go.RowKit
set_option linter.unusedVariables false

end Go.Proofs.YtnkhdofcmanipaaGreatDoor

/- The stream's Changed of any text. -/
namespace Go.Proofs.YtnkhdofcmanipaaGreatDoor
open Go.RowKit
set_option linter.unusedVariables false

end Go.Proofs.YtnkhdofcmanipaaGreatDoor
