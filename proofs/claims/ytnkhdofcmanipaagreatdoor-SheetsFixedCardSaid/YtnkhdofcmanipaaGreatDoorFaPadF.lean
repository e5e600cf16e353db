import Derived.Test.YtnkhdofcmanipaaGreatDoorFaSigD
import Derived.Test.YtnkhdofcmanipaaGreatDoorFaSortB
import Derived.Test.YtnkhdofcmanipaaGreatDoorFaSortS
/- Clocks as data; pad.CheckClocks, tumbref1.ClocksFault. Printed by wip/genclk.py. -/
namespace Go.Proofs.YtnkhdofcmanipaaGreatDoor
open Go.RowKit Go.Shelf Go.Lib Go.Sort
set_option linter.unusedVariables false

structure Ck where
  dev : ByteArray
  from_ : Int
  ahead : Int
instance : Inhabited Ck := ⟨⟨⟨#[]⟩, 0, 0⟩⟩
end Go.Proofs.YtnkhdofcmanipaaGreatDoor
/- pad.right, tumbref1.RightAt; pad.starts, tumbref1.StartsOf; pad.heatOf, tumbref1.HeatAt. Printed by wip/genpad.py. -/
namespace Go.Proofs.YtnkhdofcmanipaaGreatDoor
open Go.RowKit Go.Shelf Go.Lib Go.Sort
set_option linter.unusedVariables false

end Go.Proofs.YtnkhdofcmanipaaGreatDoor

/- pad.starts, tumbref1.StartsOf; pad.heatOf, tumbref1.HeatAt. Printed by wip/genpad.py. -/
namespace Go.Proofs.YtnkhdofcmanipaaGreatDoor
open Go.RowKit Go.Shelf Go.Lib Go.Sort
set_option linter.unusedVariables false

/-- the ints under way -/
structure IL (w : World) (u : Value) (L : List Int) (wx : World) : Prop where
  own : wx.ownsRow w.heap.size 3 1 u L.length (ints L)
  bel : Below w.heap.size w wx
theorem IL.below {w wx w' : World} {u : Value} {L : List Int} (h : IL w u L wx) (B : Below wx.heap.size wx w') : IL w u L w' := ⟨own_below h.own B, below_next h.bel B⟩
theorem IL.app {w wx w' : World} {u v' : Value} {L : List Int} {x : Int} (h : IL w u L wx) (ho : w'.ownsRow w.heap.size 3 1 v' (L.length + 1) (ints L ++ [.int .i64 x])) (hg : wx.grownBy w' u.ownBlock) : IL w v' (L ++ [x]) w' :=
  ⟨by rw [ints_app, List.length_append]; exact ho, below_own h.bel h.own hg h.bel.size (Nat.le_refl _)⟩
theorem IL.start (w : World) : IL w (.slice none 0 0) [] w := ⟨World.ownsRow_nil _ _ _ _, Below.refl _ _⟩
end Go.Proofs.YtnkhdofcmanipaaGreatDoor

/- pad.heatOf, tumbref1.HeatAt, pad.checkBoth, pad.checkHeat, tumbref1.LaneFault, pad.Starts, pad.HeatOf. Printed by wip/genpadc.py. -/
namespace Go.Proofs.YtnkhdofcmanipaaGreatDoor
open Go.RowKit Go.Shelf Go.Lib Go.Sort
set_option linter.unusedVariables false

end Go.Proofs.YtnkhdofcmanipaaGreatDoor
/- pad.signals, tumbref1.ofLane. Printed by wip/genpadd.py. -/
namespace Go.Proofs.YtnkhdofcmanipaaGreatDoor
open Go.RowKit Go.Shelf Go.Lib Go.Sort
set_option linter.unusedVariables false

/-- a list under way: a row of the call's own -/
structure OL {α : Type} (enc : α → List Value) (size : Nat) (e : TypeId) (w : World) (u : Value) (L : List α) (wx : World) : Prop where
  own : wx.ownsRow w.heap.size e size u L.length (L.flatMap enc)
  bel : Below w.heap.size w wx
section
variable {α : Type} {enc : α → List Value} {size : Nat} {e : TypeId} {w wx w' : World} {u v' : Value} {L : List α} {x : α}
theorem OL.below (h : OL enc size e w u L wx) (B : Below wx.heap.size wx w') : OL enc size e w u L w' := ⟨own_below h.own B, below_next h.bel B⟩
theorem OL.app (h : OL enc size e w u L wx) (ho : w'.ownsRow w.heap.size e size v' (L.length + 1) (L.flatMap enc ++ enc x)) (hg : wx.grownBy w' u.ownBlock) : OL enc size e w v' (L ++ [x]) w' :=
  ⟨by rw [← flat_snoc, List.length_append]; exact ho, below_own h.bel h.own hg h.bel.size (Nat.le_refl _)⟩
theorem OL.start (enc : α → List Value) (size : Nat) (e : TypeId) (w : World) : OL enc size e w (.slice none 0 0) [] w := ⟨World.ownsRow_nil _ _ _ _, Below.refl _ _⟩
end
/-- a signal with its right moment -/
structure Td where
  x : Sg
  tm : Int
instance : Inhabited Td := ⟨⟨default, 0⟩⟩
end Go.Proofs.YtnkhdofcmanipaaGreatDoor

/- tumbref1.ofLane. Printed by wip/genpadd.py. -/
namespace Go.Proofs.YtnkhdofcmanipaaGreatDoor
open Go.RowKit Go.Shelf Go.Lib Go.Sort
set_option linter.unusedVariables false

end Go.Proofs.YtnkhdofcmanipaaGreatDoor

/- pad.touches, tumbref1.hundredths, pad.Touches, tumbref1.TouchesOf. Printed by wip/genpadf.py. -/
namespace Go.Proofs.YtnkhdofcmanipaaGreatDoor
open Go.RowKit Go.Shelf Go.Lib Go.Sort
set_option linter.unusedVariables false

end Go.Proofs.YtnkhdofcmanipaaGreatDoor
