/- api.Pair as data; slices.Equal over it. -/
import Derived.Test.YtcdoidhookghaaaDoorProg
import Derived.Test.YtcdoidhookghaaaDoorStructs
import Derived.BigGuardPart
import Derived.Laws.StructEq
namespace Go.Proofs.YtcdoidhookghaaaDoor
open Go.RowKit
set_option linter.unusedVariables false

theorem str_nePr {a b : ByteArray} (h : a ≠ b) : (a.toList == b.toList) = false := by
  rw [beq_eq_false_iff_ne, ByteArray.toList_eq, ByteArray.toList_eq]
  intro e
  exact h (by cases a; cases b; congr 1; exact Array.toList_inj.mp e)
structure Pr where
  name : ByteArray
  value : ByteArray
deriving DecidableEq
def prE (p : Pr) : List Value := [.string p.name, .string p.value]
theorem prE_len : ∀ x, (prE x).length = 2 := fun _ => rfl
abbrev RPr (w : World) (A : Option Addr) (n : Nat) (l : List Pr) : Prop := RN 2 prE 93 w A n l
theorem RPr.atN {w : World} {A : Option Addr} {n : Nat} {l : List Pr} (h : RPr w A n l) {k : Nat} (hk : k < n) : ∃ b off x, A = some ⟨b, off, none⟩ ∧ b < w.heap.size ∧ l[k]? = some x ∧ w.cell? ⟨b, off + k * 2, none⟩ = some (.string x.name) ∧ w.cell? ⟨b, off + k * 2 + 1, none⟩ = some (.string x.value) := by
  obtain ⟨b, off, x, hA, hb, hx, hc⟩ := h.at_ hk
  exact ⟨b, off, x, hA, hb, hx, hc 0 _ rfl, hc 1 _ rfl⟩
end Go.Proofs.YtcdoidhookghaaaDoor
