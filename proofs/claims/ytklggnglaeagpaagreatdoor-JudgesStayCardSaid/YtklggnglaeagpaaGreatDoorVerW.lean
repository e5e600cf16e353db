import Derived.Test.YtklggnglaeagpaaGreatDoorSigD
import Derived.Test.YtklggnglaeagpaaGreatDoorVerT
import Derived.Test.YtklggnglaeagpaaGreatDoorVerD
/- Claims as data; judge.CheckClaims, tumbref1.ClaimsFault. Printed by wip/genclm.py out of ClkC. -/
namespace Go.Proofs.YtklggnglaeagpaaGreatDoor
open Go.RowKit Go.Shelf Go.Lib Go.Sort
set_option linter.unusedVariables false

structure Cm where
  who : ByteArray
  tm : Int
  gr : Bool
deriving DecidableEq
instance : Inhabited Cm := ⟨⟨⟨#[]⟩, 0, false⟩⟩
end Go.Proofs.YtklggnglaeagpaaGreatDoor
/- Claims against verdicts: slices.ContainsFunc of claims and reports; the closures of judge.Open, tumbref1.OpenOf, judge.granted, tumbref1.FinalOf. Printed by wip/genveru.py. -/
namespace Go.Proofs.YtklggnglaeagpaaGreatDoor
open Go.RowKit Go.Shelf Go.Lib Go.Sort
set_option linter.unusedVariables false

end Go.Proofs.YtklggnglaeagpaaGreatDoor
/- judge.verdict with the closure of judge.Final. Printed by wip/genver.py. -/
namespace Go.Proofs.YtklggnglaeagpaaGreatDoor
open Go.RowKit Go.Shelf Go.Lib Go.Sort
set_option linter.unusedVariables false

end Go.Proofs.YtklggnglaeagpaaGreatDoor
/- tumbref1.protested, judge.granted, the closures of judge.Final, judge.checkClaimed. -/
namespace Go.Proofs.YtklggnglaeagpaaGreatDoor
open Go.RowKit Go.Shelf Go.Lib Go.Sort
set_option linter.unusedVariables false

end Go.Proofs.YtklggnglaeagpaaGreatDoor
