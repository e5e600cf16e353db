/- The reference's WheresOf: swims sorted by their spots. -/
import Derived.Test.YtdbfcneeiiialaaDoorSortSt
import Derived.Test.YtdbfcneeiiialaaDoorLineAt
import Derived.Test.YtdbfcneeiiialaaDoorFielded
namespace Go.Proofs.YtdbfcneeiiialaaDoor
open Go.RowKit Go.Shelf Go.Lib Go.Sort
set_option linter.unusedVariables false

theorem flat_get {α : Type} {enc : α → List Value} {size : Nat} (hs : ∀ x, (enc x).length = size) (hp : 0 < size) {l : List α} {j : Nat} {u : Value} (h : (l.flatMap enc)[j]? = some u) : ∃ x, l[j / size]? = some x ∧ (enc x)[j % size]? = some u := by
  have hlt := (List.getElem?_eq_some_iff.mp h).1
  rw [flat_len hs] at hlt
  obtain ⟨x, hx⟩ := at_of_lt (l := l) (k := j / size) (by rw [Nat.div_lt_iff_lt_mul hp]; exact hlt)
  obtain ⟨v, hv⟩ := at_of_lt (l := enc x) (k := j % size) (by rw [hs]; exact Nat.mod_lt _ hp)
  have h2 := flat_at hs l (j / size) x (j % size) v hx hv
  rw [show j / size * size + j % size = j by rw [Nat.mul_comm]; exact Nat.div_add_mod j size, h] at h2
  exact ⟨x, hx, by rw [hv, h2]⟩
theorem RN.flat {α : Type} {enc : α → List Value} {size : Nat} (hs : ∀ x, (enc x).length = size) (hp : 0 < size) {e : TypeId} {w : World} {b off n : Nat} {l : List α} (h : RN size enc e w (some ⟨b, off, none⟩) n l) {j : Nat} {u : Value} (hj : (l.flatMap enc)[j]? = some u) : w.cell? ⟨b, off + j, none⟩ = some u := by
  obtain ⟨x, hx, hu⟩ := flat_get hs hp hj
  obtain ⟨b', off', x', hA, _, hx', hc⟩ := h.at_ (h.mem_at hx)
  injection hA with hA
  injection hA with e1 e2 _
  subst e1 e2
  rw [hx] at hx'
  injection hx' with hx'
  subst hx'
  have := hc _ _ hu
  rw [show off + j / size * size + j % size = off + j by rw [Nat.add_assoc, Nat.mul_comm, Nat.div_add_mod]] at this
  exact this
end Go.Proofs.YtdbfcneeiiialaaDoor
