/- checkSome: the field's fault, or an empty field's. -/
import Derived.Test.YtmnidnmdjkfhnaaGreatDoorSwims2
import Derived.Test.YtmnidnmdjkfhnaaGreatDoorFill
import Derived.BigGuardPart
namespace Go.Proofs.YtmnidnmdjkfhnaaGreatDoor
open Go.RowKit
set_option linter.unusedVariables false

def someErr (r : Race) (l : List Sw) : Int := if fieldErr r l ≠ 0 then fieldErr r l else if l.length = 0 then 8 else 0
theorem some_way {r : Race} {l : List Sw} : orV [fieldErr r l, noneErr (decide (l.length = 0))] = someErr r l := by
  rw [orV_two]; unfold someErr noneErr; by_cases h : l.length = 0 <;> simp [h]
end Go.Proofs.YtmnidnmdjkfhnaaGreatDoor
