/- judge.checkRanked of ranks that are right. -/
import Derived.Test.YtjafcnblgeibpaaGreatDoorP23
namespace Go.Proofs.YtjafcnblgeibpaaGreatDoor
open Go.RowKit
open Go.Maps (Keyed string_keyed)
open Go.WideMaps (keyOf_string_mk)
set_option linter.unusedVariables false

def RkOk (x : Rk) : Prop := keyB x.who = true ∧ (0 ≤ x.rank ∧ x.rank ≤ 300) ∧ (0 ≤ x.time ∧ x.time ≤ 360000) ∧ (0 ≤ x.fault ∧ x.fault ≤ 8) ∧ (x.rank = 0 ∨ (x.time ≠ 0 ∧ x.fault = 0))
theorem seenB_no {s : ByteArray} {seen : List ByteArray} (h : s ∉ seen) : seenB s seen = false := by
  unfold seenB
  rw [List.any_eq_false]
  intro t ht hc
  have := of_decide_eq_true hc
  subst this; exact h ht
end Go.Proofs.YtjafcnblgeibpaaGreatDoor
