/- Splits that the stream makes, all known. -/
import Derived.Test.YtklggnglaeagpaaGreatDoorRStructs
import Derived.Test.YtklggnglaeagpaaGreatDoorRLens
import Derived.Test.YtklggnglaeagpaaGreatDoorREnv
namespace Go.Proofs.YtklggnglaeagpaaGreatDoor
open Go.RowKit
set_option linter.unusedVariables false

theorem info_int : (Tryz.prog.info? 3).map (fun i => (i.zero, i.size, i.bytes)) = some (some (.int .i64 0), 1, 8) := by kernel_rfl

end Go.Proofs.YtklggnglaeagpaaGreatDoor
