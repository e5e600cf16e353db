import Derived.Test.YtklggnglaeagpaaGreatDoorStructs
import Derived.Test.YtklggnglaeagpaaGreatDoorFill
import Derived.Test.YtklggnglaeagpaaGreatDoorSplits
import Derived.Deep.LoopGhost
/- Fractions in lowest terms: words.Fraction, the reference's divisor and Lowest. -/
namespace Go.Proofs.YtklggnglaeagpaaGreatDoor
open Go.RowKit
set_option linter.unusedVariables false

end Go.Proofs.YtklggnglaeagpaaGreatDoor

/- timing.Laps and the reference's LapsOf. -/
namespace Go.Proofs.YtklggnglaeagpaaGreatDoor
open Go.RowKit
set_option linter.unusedVariables false

end Go.Proofs.YtklggnglaeagpaaGreatDoor

/- Even and proportional splits: race.Even, Like; the references EvenOf, LikeOf, rising. -/
namespace Go.Proofs.YtklggnglaeagpaaGreatDoor
open Go.RowKit
set_option linter.unusedVariables false

end Go.Proofs.YtklggnglaeagpaaGreatDoor

/- Splits in proportion: race.Like and the reference's LikeOf. -/
namespace Go.Proofs.YtklggnglaeagpaaGreatDoor
open Go.RowKit
set_option linter.unusedVariables false

end Go.Proofs.YtklggnglaeagpaaGreatDoor

/- How far somebody is: race.where, far, LineAt; the reference's farAt, FarOf. -/
namespace Go.Proofs.YtklggnglaeagpaaGreatDoor
open Go.RowKit
set_option linter.unusedVariables false

end Go.Proofs.YtklggnglaeagpaaGreatDoor

/- race.far, LineAt; the reference's farAt, FarOf. -/
namespace Go.Proofs.YtklggnglaeagpaaGreatDoor
open Go.RowKit
set_option linter.unusedVariables false

theorem alloc_size (w : World) (o : Obj) : (w.alloc o).heap.size = w.heap.size + 1 := by simp
end Go.Proofs.YtklggnglaeagpaaGreatDoor

/- Halves, and how the second one compares: timing.Halves, race.Fade; the reference's HalvesOf. -/
namespace Go.Proofs.YtklggnglaeagpaaGreatDoor
open Go.RowKit
set_option linter.unusedVariables false

end Go.Proofs.YtklggnglaeagpaaGreatDoor

/- The fastest and the slowest length: race.Turns, the reference's TurnsOf; halves and race.Fade. -/
namespace Go.Proofs.YtklggnglaeagpaaGreatDoor
open Go.RowKit
set_option linter.unusedVariables false

end Go.Proofs.YtklggnglaeagpaaGreatDoor
