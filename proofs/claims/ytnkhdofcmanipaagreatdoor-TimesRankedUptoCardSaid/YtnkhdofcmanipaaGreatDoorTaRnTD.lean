/- A part of a row of structs. -/
import Derived.Test.YtnkhdofcmanipaaGreatDoorTaStructs
namespace Go.Proofs.YtnkhdofcmanipaaGreatDoor
open Go.RowKit
set_option linter.unusedVariables false

theorem RN_take {α : Type} {s : Nat} {enc : α → List Value} {T : TypeId} {w : World} {b o n k : Nat} {l : List α} (h : RN s enc T w (some ⟨b, o, none⟩) n l) (hk : k ≤ n) : RN s enc T w (some ⟨b, o, none⟩) k (l.take k) := by
  refine ⟨by rw [List.length_take, h.1]; omega, by have := h.2.1; omega, fun hp => ?_⟩
  obtain ⟨b', off, cs, fz, hA, hb, hc⟩ := h.2.2 (by omega)
  exact ⟨b', off, cs, fz, hA, hb, fun j x hx => hc j x (by rw [List.getElem?_take] at hx; split at hx; exact hx; cases hx)⟩
theorem RN_drop {α : Type} {s : Nat} {enc : α → List Value} {T : TypeId} {w : World} {b o n k : Nat} {l : List α} (h : RN s enc T w (some ⟨b, o, none⟩) n l) (hk : k ≤ n) : RN s enc T w (some ⟨b, o + k * s, none⟩) (n - k) (l.drop k) := by
  refine ⟨by rw [List.length_drop, h.1], by have := h.2.1; omega, fun hp => ?_⟩
  obtain ⟨b', off, cs, fz, hA, hb, hc⟩ := h.2.2 (by omega)
  injection hA with hA
  injection hA with q1 q2
  subst q1 q2
  refine ⟨b, o + k * s, cs, fz, rfl, hb, fun j x hx i v hv => ?_⟩
  rw [List.getElem?_drop] at hx
  have h9 := hc (k + j) x hx i v hv
  rw [Nat.add_mul] at h9
  rw [show o + k * s + j * s + i = o + (k * s + j * s) + i by omega]
  exact h9
end Go.Proofs.YtnkhdofcmanipaaGreatDoor
