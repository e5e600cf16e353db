/- api.Swum as data; slices.Equal over it. -/
import Derived.Test.YtklggnglaeagpaaGreatDoorProg
import Derived.Test.YtklggnglaeagpaaGreatDoorQStructs
import Derived.BigGuardPart
import Derived.Laws.StructEq
namespace Go.Proofs.YtklggnglaeagpaaGreatDoor
open Go.RowKit
set_option linter.unusedVariables false

structure Sm where
  time : Int
  by_ : Int
deriving DecidableEq
def smE (p : Sm) : List Value := [.int .i64 p.time, .int .i64 p.by_]
end Go.Proofs.YtklggnglaeagpaaGreatDoor
