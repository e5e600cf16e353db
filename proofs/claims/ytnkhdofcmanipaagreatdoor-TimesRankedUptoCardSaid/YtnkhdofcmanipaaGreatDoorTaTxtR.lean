import Derived.Test.YtnkhdofcmanipaaGreatDoorTaTxtP
import Derived.Test.YtnkhdofcmanipaaGreatDoorTaTimeR
import Derived.Test.YtnkhdofcmanipaaGreatDoorTaBestR
import Derived.Test.YtnkhdofcmanipaaGreatDoorTaP23
/- A field as text: the plain law (what is written is read as it was; what is read is written so). -/
namespace Go.Proofs.YtnkhdofcmanipaaGreatDoor
open Go.Lib
set_option linter.unusedVariables false

end Go.Proofs.YtnkhdofcmanipaaGreatDoor

/- Ranks as text: the plain law. -/
namespace Go.Proofs.YtnkhdofcmanipaaGreatDoor
open Go.Lib
set_option linter.unusedVariables false

end Go.Proofs.YtnkhdofcmanipaaGreatDoor
