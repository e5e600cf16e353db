/- Rows of structs: one field turned; what a write into a row leaves. Over any program. -/
import Derived.Test.YtmnidnmdjkfhnaaGreatDoorStructs
namespace Go.Proofs.YtmnidnmdjkfhnaaGreatDoor
open Go.RowKit
set_option linter.unusedVariables false

theorem flat_set {α : Type} {enc : α → List Value} {size : Nat} (hs : ∀ x, (enc x).length = size) : ∀ (l : List α) (k : Nat) (x x' : α) (q : Nat) (v : Value), l[k]? = some x → q < size → enc x' = (enc x).set q v → (l.flatMap enc).set (k * size + q) v = (l.set k x').flatMap enc
  | [], _, _, _, _, _, h, _, _ => by simp at h
  | y :: l, 0, x, x', q, v, h, hq, he => by
    obtain rfl : y = x := by simpa using h
    rw [List.set_cons_zero, List.flatMap_cons, List.flatMap_cons, Nat.zero_mul, Nat.zero_add, List.set_append_left _ _ (by rw [hs]; exact hq), he]
  | y :: l, k + 1, x, x', q, v, h, hq, he => by
    rw [List.set_cons_succ, List.flatMap_cons, List.flatMap_cons, ← flat_set hs l k x x' q v (by simpa using h) hq he, List.set_append_right _ _ (by rw [hs, Nat.succ_mul]; omega)]
    congr 2
    rw [hs, Nat.succ_mul]; omega
/-- what a write into a row of the call's own leaves: every block of another element type -/
theorem keep_row {w w' : World} {base : Nat} {e : TypeId} {size n : Nat} {v : Value} {xs : List Value} (hown : w.ownsRow base e size v n xs) (hg : w.grownBy w' v.ownBlock) : Keep e w w' := fun b cs t fz hne hb => blk_grown hb hg (fun he => by
  rcases hown.2 with ⟨rfl, _⟩ | ⟨g', cap, cur, rfl, _, hh, _⟩
  · simp [Value.ownBlock] at he
  · have e1 : b = g' := by simpa [Value.ownBlock] using he
    subst e1
    rw [hb] at hh
    injection hh with hh
    injection hh with _ ht
    exact hne ht)
theorem rep_false (n j : Nat) : (Array.replicate n false).getD j false = false := by
  rw [Array.getD_eq_getD_getElem?, Array.getElem?_replicate]; split <;> rfl
end Go.Proofs.YtmnidnmdjkfhnaaGreatDoor
