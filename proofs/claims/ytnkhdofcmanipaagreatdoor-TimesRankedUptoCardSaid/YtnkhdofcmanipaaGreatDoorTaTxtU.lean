/- Texts that are written: a builder's WriteString; a builder below. -/
import Derived.Test.YtnkhdofcmanipaaGreatDoorTaTxtW
import Derived.Shelf.Strings.BuilderK
import Derived.Shelf.Strings.BuilderF
namespace Go.Proofs.YtnkhdofcmanipaaGreatDoor
open Go.RowKit Go.Lib
set_option linter.unusedVariables false

/-- the builder in block b holds these bytes -/
abbrev Bd (B b : Nat) (l : List UInt8) (w : World) : Prop := Lib.IsBuilderF 130 5 B b (Lib.byteCells l) w
theorem Bd.grown0 {B b : Nat} {l : List UInt8} {w w' : World} {row : Option Nat} (h : Bd B b l w) (hg : w.grownBy w' row) (h1 : some b ≠ row) (h2 : ∀ v, w.ownsRowF B 5 1 v (Lib.byteCells l).length (Lib.byteCells l) → v.ownBlock = none ∨ v.ownBlock ≠ row) : Bd B b l w' := by
  rcases h with ⟨h0, v, h3, h4, h5⟩ | ⟨h0, v, h3, h4, h5⟩
  · exact .inl ⟨h0, v, blk_grown h3 hg h1, h4.kept hg (h2 v h4), h5⟩
  · exact .inr ⟨h0, v, blk_grown h3 hg h1, h4.kept hg (h2 v h4), h5⟩
theorem Bd.below {B b : Nat} {l : List UInt8} {w w' : World} (h : Bd B b l w) (hB : Below w.heap.size w w') : Bd B b l w' :=
  h.grown0 (row := none) (grown_of_below hB) (by simp) fun v _ => by cases hv : v.ownBlock <;> simp
theorem Bd.blk {B b : Nat} {l : List UInt8} {w : World} (h : Bd B b l w) : ∃ cs, w.heap[b]? = some (.cells cs 130 (0, 0)) := by
  rcases h with ⟨_, v, h3, _⟩ | ⟨_, v, h3, _⟩ <;> exact ⟨_, h3⟩
end Go.Proofs.YtnkhdofcmanipaaGreatDoor
