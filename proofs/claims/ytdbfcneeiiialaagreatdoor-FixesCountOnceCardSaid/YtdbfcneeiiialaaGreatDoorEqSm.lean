/- api.Swum as data; slices.Equal over it. -/
import Derived.Test.YtdbfcneeiiialaaGreatDoorProg
import Derived.Test.YtdbfcneeiiialaaGreatDoorStructs
import Derived.BigGuardPart
import Derived.Laws.StructEq
namespace Go.Proofs.YtdbfcneeiiialaaGreatDoor
open Go.RowKit
set_option linter.unusedVariables false

theorem str_neSm {a b : ByteArray} (h : a ≠ b) : (a.toList == b.toList) = false := by
  rw [beq_eq_false_iff_ne, ByteArray.toList_eq, ByteArray.toList_eq]
  intro e
  exact h (by cases a; cases b; congr 1; exact Array.toList_inj.mp e)
structure Sm where
  time : Int
  by_ : Int
deriving DecidableEq
def smE (p : Sm) : List Value := [.int .i64 p.time, .int .i64 p.by_]
theorem smE_len : ∀ x, (smE x).length = 2 := fun _ => rfl
abbrev RSm (w : World) (A : Option Addr) (n : Nat) (l : List Sm) : Prop := RN 2 smE 59 w A n l
theorem RSm.atN {w : World} {A : Option Addr} {n : Nat} {l : List Sm} (h : RSm w A n l) {k : Nat} (hk : k < n) : ∃ b off x, A = some ⟨b, off, none⟩ ∧ b < w.heap.size ∧ l[k]? = some x ∧ w.cell? ⟨b, off + k * 2, none⟩ = some (.int .i64 x.time) ∧ w.cell? ⟨b, off + k * 2 + 1, none⟩ = some (.int .i64 x.by_) := by
  obtain ⟨b, off, x, hA, hb, hx, hc⟩ := h.at_ hk
  exact ⟨b, off, x, hA, hb, hx, hc 0 _ rfl, hc 1 _ rfl⟩
end Go.Proofs.YtdbfcneeiiialaaGreatDoor
