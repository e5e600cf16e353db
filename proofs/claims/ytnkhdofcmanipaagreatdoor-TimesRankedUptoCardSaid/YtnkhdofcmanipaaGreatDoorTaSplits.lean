/- Splits that the stream makes, all known. -/
import Derived.Test.YtnkhdofcmanipaaGreatDoorTaStructs
import Derived.Test.YtnkhdofcmanipaaGreatDoorTaLens
import Derived.Test.YtnkhdofcmanipaaGreatDoorTaEnv
namespace Go.Proofs.YtnkhdofcmanipaaGreatDoor
open Go.RowKit
set_option linter.unusedVariables false

theorem info_int : (Tryz.prog.info? 3).map (fun i => (i.zero, i.size, i.bytes)) = some (some (.int .i64 0), 1, 8) := by kernel_rfl

end Go.Proofs.YtnkhdofcmanipaaGreatDoor
