/- slices.SortStableFunc of signals, told and timed ones (at most 19). Printed by gensort.py. -/
import Derived.Test.YtklggnglaeagpaaGreatDoorSortG
import Derived.Test.YtklggnglaeagpaaGreatDoorSortB
namespace Go.Proofs.YtklggnglaeagpaaGreatDoor
open Go.RowKit Go.Shelf Go.Lib Go.Sort
set_option linter.unusedVariables false

end Go.Proofs.YtklggnglaeagpaaGreatDoor
