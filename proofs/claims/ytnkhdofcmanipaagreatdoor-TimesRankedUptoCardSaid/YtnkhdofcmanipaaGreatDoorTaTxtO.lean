/- The texts of ranks: tumbref1.RankLines, judge.Text. Printed by wip/mkro.py. -/
import Derived.Test.YtnkhdofcmanipaaGreatDoorTaTxtU
import Derived.Test.YtnkhdofcmanipaaGreatDoorTaTxtV
import Derived.Test.YtnkhdofcmanipaaGreatDoorTaTxtR
import Derived.Test.YtnkhdofcmanipaaGreatDoorTaVerdM
import Derived.Deep.DeepCutAuto
import Derived.Deep.RegionHeld3
namespace Go.Proofs.YtnkhdofcmanipaaGreatDoor
open Go.RowKit Go.Lib
set_option linter.unusedVariables false

end Go.Proofs.YtnkhdofcmanipaaGreatDoor
