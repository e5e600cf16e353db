import Derived.Test.YtklggnglaeagpaaGreatDoorRPadC
import Derived.Test.YtklggnglaeagpaaGreatDoorRSortS
/- pad.signals, tumbref1.ofLane. Printed by wip/genpadd.py. -/
namespace Go.Proofs.YtklggnglaeagpaaGreatDoor
open Go.RowKit Go.Shelf Go.Lib Go.Sort
set_option linter.unusedVariables false

/-- a list under way: a row of the call's own -/
structure OL {α : Type} (enc : α → List Value) (size : Nat) (e : TypeId) (w : World) (u : Value) (L : List α) (wx : World) : Prop where
  own : wx.ownsRow w.heap.size e size u L.length (L.flatMap enc)
  bel : Below w.heap.size w wx
section
variable {α : Type} {enc : α → List Value} {size : Nat} {e : TypeId} {w wx w' : World} {u v' : Value} {L : List α} {x : α}
theorem OL.below (h : OL enc size e w u L wx) (B : Below wx.heap.size wx w') : OL enc size e w u L w' := ⟨own_below h.own B, below_next h.bel B⟩
theorem OL.app (h : OL enc size e w u L wx) (ho : w'.ownsRow w.heap.size e size v' (L.length + 1) (L.flatMap enc ++ enc x)) (hg : wx.grownBy w' u.ownBlock) : OL enc size e w v' (L ++ [x]) w' :=
  ⟨by rw [← flat_snoc, List.length_append]; exact ho, below_own h.bel h.own hg h.bel.size (Nat.le_refl _)⟩
theorem OL.start (enc : α → List Value) (size : Nat) (e : TypeId) (w : World) : OL enc size e w (.slice none 0 0) [] w := ⟨World.ownsRow_nil _ _ _ _, Below.refl _ _⟩
end
/-- a signal with its right moment -/
structure Td where
  x : Sg
  tm : Int
instance : Inhabited Td := ⟨⟨default, 0⟩⟩
def CapOk (A : Option Addr) (n c : Nat) : Prop := (A = none ∧ n = 0 ∧ c = 0) ∨ ∃ b, A = some ⟨b, 0, none⟩ ∧ n ≤ c
theorem capOk_own {w : World} {base : Nat} {e : TypeId} {size n c : Nat} {A : Option Addr} {xs : List Value} (h : w.ownsRow base e size (.slice A n c) n xs) : CapOk A n c := by
  rcases h.2 with ⟨h9, h0⟩ | ⟨g9, cap, cur, hv9, h1, h2, h3, h4⟩
  · injection h9 with e1 e2 e3
    exact .inl ⟨e1, h0, e3⟩
  · injection hv9 with e1 e2 e3
    exact .inr ⟨g9, e1, by omega⟩
end Go.Proofs.YtklggnglaeagpaaGreatDoor

/- tumbref1.ofLane. Printed by wip/genpadd.py. -/
namespace Go.Proofs.YtklggnglaeagpaaGreatDoor
open Go.RowKit Go.Shelf Go.Lib Go.Sort
set_option linter.unusedVariables false

end Go.Proofs.YtklggnglaeagpaaGreatDoor

/- pad.touches, tumbref1.hundredths, pad.Touches, tumbref1.TouchesOf. Printed by wip/genpadf.py. -/
namespace Go.Proofs.YtklggnglaeagpaaGreatDoor
open Go.RowKit Go.Shelf Go.Lib Go.Sort
set_option linter.unusedVariables false

end Go.Proofs.YtklggnglaeagpaaGreatDoor
