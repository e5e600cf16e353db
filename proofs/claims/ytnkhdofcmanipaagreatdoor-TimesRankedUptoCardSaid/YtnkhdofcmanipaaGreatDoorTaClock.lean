/- timing.Write at the time that every statement asks (6012). -/
import Derived.Test.YtnkhdofcmanipaaGreatDoorTaLens
import Derived.Lib.ItoaNum
namespace Go.Proofs.YtnkhdofcmanipaaGreatDoor
open Go.RowKit
set_option linter.unusedVariables false

end Go.Proofs.YtnkhdofcmanipaaGreatDoor
