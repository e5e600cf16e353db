/- api.Pair as data; slices.Equal over it. -/
import Derived.Test.YtmnidnmdjkfhnaaGreatDoorProg
import Derived.Test.YtmnidnmdjkfhnaaGreatDoorStructs
import Derived.BigGuardPart
import Derived.Laws.StructEq
namespace Go.Proofs.YtmnidnmdjkfhnaaGreatDoor
open Go.RowKit
set_option linter.unusedVariables false

theorem str_nePr {a b : ByteArray} (h : a ≠ b) : (a.toList == b.toList) = false := by
  rw [beq_eq_false_iff_ne, ByteArray.toList_eq, ByteArray.toList_eq]
  intro e
  exact h (by cases a; cases b; congr 1; exact Array.toList_inj.mp e)
structure Pr where
  name : ByteArray
  value : ByteArray
deriving DecidableEq
def prE (p : Pr) : List Value := [.string p.name, .string p.value]
theorem prE_len : ∀ x, (prE x).length = 2 := fun _ => rfl
end Go.Proofs.YtmnidnmdjkfhnaaGreatDoor
