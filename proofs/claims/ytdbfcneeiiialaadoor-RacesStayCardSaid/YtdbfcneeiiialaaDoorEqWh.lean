/- api.Where as data; slices.Equal over it. -/
import Derived.Test.YtdbfcneeiiialaaDoorProg
import Derived.Test.YtdbfcneeiiialaaDoorSortSt
import Derived.BigGuardPart
import Derived.Laws.StructEq
namespace Go.Proofs.YtdbfcneeiiialaaDoor
open Go.RowKit
set_option linter.unusedVariables false

theorem str_neWh {a b : ByteArray} (h : a ≠ b) : (a.toList == b.toList) = false := by
  rw [beq_eq_false_iff_ne, ByteArray.toList_eq, ByteArray.toList_eq]
  intro e
  exact h (by cases a; cases b; congr 1; exact Array.toList_inj.mp e)
theorem shelf1 {e : TypeId} {w : World} {A : Option Addr} {n : Nat} {l : List ByteArray} (h : RS e w A n l) (hp : 0 < n) : ∃ b off, A = some ⟨b, off, none⟩ ∧ ∀ j, j < l.length → w.cell? ⟨b, off + j, none⟩ = some (.string (l.getD j ⟨#[]⟩)) := by
  obtain ⟨b, off, cs, fz, hA, hb, hc⟩ := h.2.2 hp
  refine ⟨b, off, hA, fun j hj => ?_⟩
  have hx : l[j]? = some (l.getD j ⟨#[]⟩) := by rw [List.getD_eq_getElem?_getD, List.getElem?_eq_getElem hj]; rfl
  rw [cell_of_row w b _ cs e fz hb]
  exact hc j _ hx
end Go.Proofs.YtdbfcneeiiialaaDoor
