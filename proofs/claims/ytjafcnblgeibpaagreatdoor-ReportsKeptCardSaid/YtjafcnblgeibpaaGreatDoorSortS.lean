/- slices.SortStableFunc of signals, told and timed ones (at most 19). Printed by gensort.py. -/
import Derived.Test.YtjafcnblgeibpaaGreatDoorSortG
import Derived.Test.YtjafcnblgeibpaaGreatDoorSortB
namespace Go.Proofs.YtjafcnblgeibpaaGreatDoor
open Go.RowKit Go.Shelf Go.Lib Go.Sort
set_option linter.unusedVariables false

end Go.Proofs.YtjafcnblgeibpaaGreatDoor
