import Derived.Test.YtklggnglaeagpaaGreatDoorRSigD
import Derived.Test.YtklggnglaeagpaaGreatDoorRSortB
/- Clocks as data; pad.CheckClocks, tumbref1.ClocksFault. Printed by wip/genclk.py. -/
namespace Go.Proofs.YtklggnglaeagpaaGreatDoor
open Go.RowKit Go.Shelf Go.Lib Go.Sort
set_option linter.unusedVariables false

structure Ck where
  dev : ByteArray
  from_ : Int
  ahead : Int
instance : Inhabited Ck := ⟨⟨⟨#[]⟩, 0, 0⟩⟩
end Go.Proofs.YtklggnglaeagpaaGreatDoor
/- pad.right, tumbref1.RightAt; pad.starts, tumbref1.StartsOf; pad.heatOf, tumbref1.HeatAt. Printed by wip/genpad.py. -/
namespace Go.Proofs.YtklggnglaeagpaaGreatDoor
open Go.RowKit Go.Shelf Go.Lib Go.Sort
set_option linter.unusedVariables false

end Go.Proofs.YtklggnglaeagpaaGreatDoor

/- pad.starts, tumbref1.StartsOf; pad.heatOf, tumbref1.HeatAt. Printed by wip/genpad.py. -/
namespace Go.Proofs.YtklggnglaeagpaaGreatDoor
open Go.RowKit Go.Shelf Go.Lib Go.Sort
set_option linter.unusedVariables false

/-- the ints under way -/
structure IL (w : World) (u : Value) (L : List Int) (wx : World) : Prop where
  own : wx.ownsRow w.heap.size 3 1 u L.length (ints L)
  bel : Below w.heap.size w wx
theorem IL.below {w wx w' : World} {u : Value} {L : List Int} (h : IL w u L wx) (B : Below wx.heap.size wx w') : IL w u L w' := ⟨own_below h.own B, below_next h.bel B⟩
theorem IL.app {w wx w' : World} {u v' : Value} {L : List Int} {x : Int} (h : IL w u L wx) (ho : w'.ownsRow w.heap.size 3 1 v' (L.length + 1) (ints L ++ [.int .i64 x])) (hg : wx.grownBy w' u.ownBlock) : IL w v' (L ++ [x]) w' :=
  ⟨by rw [ints_app, List.length_append]; exact ho, below_own h.bel h.own hg h.bel.size (Nat.le_refl _)⟩
theorem IL.start (w : World) : IL w (.slice none 0 0) [] w := ⟨World.ownsRow_nil _ _ _ _, Below.refl _ _⟩
end Go.Proofs.YtklggnglaeagpaaGreatDoor

/- pad.heatOf, tumbref1.HeatAt, pad.checkBoth, pad.checkHeat, tumbref1.LaneFault, pad.Starts, pad.HeatOf. Printed by wip/genpadc.py. -/
namespace Go.Proofs.YtklggnglaeagpaaGreatDoor
open Go.RowKit Go.Shelf Go.Lib Go.Sort
set_option linter.unusedVariables false

end Go.Proofs.YtklggnglaeagpaaGreatDoor
