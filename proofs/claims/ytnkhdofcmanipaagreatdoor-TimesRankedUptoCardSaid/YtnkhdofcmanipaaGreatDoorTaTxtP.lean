import Derived.Lib.IndexMore
import Derived.Lib.Strings
import Derived.Lib.Atoi
import Derived.Lib.ItoaNum
import Derived.Lib.SplitLaws
import Derived.Lib.Join
/- Times written and read: the plain law (a time that is written is read as it was; what is read is written so). -/
namespace Go.Proofs.YtnkhdofcmanipaaGreatDoor
open Go.Lib
set_option linter.unusedVariables false

end Go.Proofs.YtnkhdofcmanipaaGreatDoor

/- Times read by the reference: the same plain answer. -/
namespace Go.Proofs.YtnkhdofcmanipaaGreatDoor
open Go.Lib
set_option linter.unusedVariables false

end Go.Proofs.YtnkhdofcmanipaaGreatDoor

/- Numbers, words and lines as text: plain facts (no program in sight). -/
namespace Go.Proofs.YtnkhdofcmanipaaGreatDoor
open Go.Lib
set_option linter.unusedVariables false

/-! numerals -/
/-! words: split at one byte, joined by it -/
/-! lines -/
/-! texts of records, a line each -/
end Go.Proofs.YtnkhdofcmanipaaGreatDoor
