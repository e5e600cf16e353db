import Derived.Test.YtklggnglaeagpaaGreatDoorRRegAp
import Derived.Test.YtklggnglaeagpaaGreatDoorRSortB
import Derived.Test.YtklggnglaeagpaaGreatDoorRSplits
import Derived.Test.YtklggnglaeagpaaGreatDoorRReady4
import Derived.Test.YtklggnglaeagpaaGreatDoorRFill
import Derived.Test.YtklggnglaeagpaaGreatDoorRPadF
/- pad.sorted, pad.ends, tumbref1.endsOf, tumbref1.counting. -/
namespace Go.Proofs.YtklggnglaeagpaaGreatDoor
open Go.RowKit Go.Lib
set_option linter.unusedVariables false

/-- two rows of ints of the call's own -/
structure D2 (w : World) (u1 u2 : Value) (l1 l2 : List Int) (wx : World) : Prop where
  o1 : wx.ownsRow w.heap.size 3 1 u1 l1.length (ints l1)
  o2 : wx.ownsRow w.heap.size 3 1 u2 l2.length (ints l2)
  dis : Dis u1 u2
  bel : Below w.heap.size w wx
section
variable {w wx w' : World} {u1 u2 v' : Value} {l1 l2 : List Int} {x : Int}
theorem D2.below (h : D2 w u1 u2 l1 l2 wx) (hb : Below wx.heap.size wx w') : D2 w u1 u2 l1 l2 w' := ⟨own_below h.o1 hb, own_below h.o2 hb, h.dis, below_next h.bel hb⟩
theorem D2.start (w : World) : D2 w (.slice none 0 0) (.slice none 0 0) [] [] w := ⟨World.ownsRow_nil _ _ _ _, World.ownsRow_nil _ _ _ _, (fun i h _ => by cases h), Below.refl _ _⟩
end
end Go.Proofs.YtklggnglaeagpaaGreatDoor

/- pad.ends, tumbref1.endsOf; pad.Ghosts, tumbref1.GhostsOf. -/
namespace Go.Proofs.YtklggnglaeagpaaGreatDoor
open Go.RowKit Go.Lib
set_option linter.unusedVariables false

end Go.Proofs.YtklggnglaeagpaaGreatDoor
