import Derived.Test.YtklggnglaeagpaaGreatDoorRLapG
import Derived.Deep.RegionHeld3
import Derived.Test.YtklggnglaeagpaaGreatDoorRPadF
import Derived.Laws.StructEq
/- tumbref1.PadLaps. -/
namespace Go.Proofs.YtklggnglaeagpaaGreatDoor
open Go.RowKit Go.Lib
set_option linter.unusedVariables false

end Go.Proofs.YtklggnglaeagpaaGreatDoor

/- tumbref1.PadLaps: the walk. -/
namespace Go.Proofs.YtklggnglaeagpaaGreatDoor
open Go.RowKit Go.Lib
set_option linter.unusedVariables false

end Go.Proofs.YtklggnglaeagpaaGreatDoor

/- pad.checkLaps, pad.Laps, pad.Ghosts, tumbref1.GhostsOf; slices.Equal of laps. -/
namespace Go.Proofs.YtklggnglaeagpaaGreatDoor
open Go.RowKit Go.Lib Go.Sort Go.Shelf
set_option linter.unusedVariables false

end Go.Proofs.YtklggnglaeagpaaGreatDoor

/- pad.Ghosts, tumbref1.GhostsOf; slices.Equal of laps. -/
namespace Go.Proofs.YtklggnglaeagpaaGreatDoor
open Go.RowKit Go.Lib Go.Sort Go.Shelf
set_option linter.unusedVariables false

end Go.Proofs.YtklggnglaeagpaaGreatDoor
