import Derived.Test.YtklggnglaeagpaaGreatDoorShelf
import Derived.Test.YtklggnglaeagpaaGreatDoorQStructs
import Derived.Test.YtklggnglaeagpaaGreatDoorSortG
import Derived.Sort.LotA
import Derived.Sort.OwnSortedInts
import Derived.Laws.AppendOwnNone
import Derived.Lib.RowBridge
/- The insertion sort on lists; rows of structs sorted; slices.Sort and Compact of ints. -/
namespace Go.Proofs.YtklggnglaeagpaaGreatDoor
open Go.RowKit Go.Shelf Go.Lib Go.Sort
set_option linter.unusedVariables false

section
variable {α : Type} [Inhabited α] (enc : α → List Value) (size : Nat)
end
theorem own_len {α : Type} {enc : α → List Value} {size : Nat} (hs : ∀ x, (enc x).length = size) (hp : 0 < size) {w : World} {base n : Nat} {e : TypeId} {v : Value} {l : List α} (h : w.ownsRow base e size v n (l.flatMap enc)) : l.length = n := by
  have h1 := h.1
  have h2 : ∀ l : List α, (l.flatMap enc).length = l.length * size := by
    intro l
    induction l with
    | nil => simp
    | cons x r ih => rw [List.flatMap_cons, List.length_append, hs, ih, List.length_cons, Nat.succ_mul]; omega
  rw [h2] at h1
  exact Nat.eq_of_mul_eq_mul_right hp h1
end Go.Proofs.YtklggnglaeagpaaGreatDoor
