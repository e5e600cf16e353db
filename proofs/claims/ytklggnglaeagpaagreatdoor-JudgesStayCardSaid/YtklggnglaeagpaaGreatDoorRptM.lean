/- The stream's reports. Printed by wip/genrpm.py. -/
import Derived.Test.YtklggnglaeagpaaGreatDoorMkReg
import Derived.Test.YtklggnglaeagpaaGreatDoorRptA
import Derived.Lib.ItoaLen
import Derived.Test.YtklggnglaeagpaaGreatDoorPadF
namespace Go.Proofs.YtklggnglaeagpaaGreatDoor
open Go.RowKit Go.Shelf Go.Lib Go.Sort
set_option linter.unusedVariables false

theorem flat_snocR (l : List Rp) (x : Rp) : l.flatMap rpE ++ rpE x = (l ++ [x]).flatMap rpE := by rw [List.flatMap_append]; simp
end Go.Proofs.YtklggnglaeagpaaGreatDoor
