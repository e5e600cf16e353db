/- Which ends touches stand at: the least sum, found in two ways; the laps from it. PLAIN (no program). -/
namespace Go.Proofs.YtklggnglaeagpaaGreatDoor
namespace LP
/-- a lap -/
structure Lp where
  length : Int
  time : Int
  filled : Bool
deriving DecidableEq, Inhabited
/-- the last end ahead, and its time -/
def pv (k : Int) : Int × Int → List (Int × Int) → Int × Int
  | s, [] => s
  | s, p :: r => if p.1 < k then pv k p r else pv k s r
def nx (k : Int) : List (Int × Int) → Option (Int × Int)
  | [] => none
  | p :: r => if k < p.1 then some p else nx k r
end LP
end Go.Proofs.YtklggnglaeagpaaGreatDoor
