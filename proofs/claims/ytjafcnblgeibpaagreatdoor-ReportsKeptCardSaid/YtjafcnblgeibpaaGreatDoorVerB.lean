import Derived.Test.YtjafcnblgeibpaaGreatDoorRptA
import Derived.BigRegion
import Derived.Deep.QuietTactic
import Derived.BigQuiet
import Derived.BigGuardPart
namespace Go.Proofs.YtjafcnblgeibpaaGreatDoor
open Go.RowKit Go.Shelf Go.Lib Go.Sort
set_option linter.unusedVariables false

def rp0 : Rp := ⟨⟨#[]⟩, ⟨#[]⟩, ⟨#[]⟩, 0, 0, 0, false⟩
theorem str_neV {a b : ByteArray} (h : a ≠ b) : (a.toList == b.toList) = false := by
  rw [beq_eq_false_iff_ne, ByteArray.toList_eq, ByteArray.toList_eq]
  intro e
  exact h (by cases a; cases b; congr 1; exact Array.toList_inj.mp e)
def rp7 (w : World) (b : Nat) (v0 v1 v2 v3 v4 v5 v6 : Value) : World := ((((((w.setCell ⟨b, 0, none⟩ v0).setCell ⟨b, 1, none⟩ v1).setCell ⟨b, 2, none⟩ v2).setCell ⟨b, 3, none⟩ v3).setCell ⟨b, 4, none⟩ v4).setCell ⟨b, 5, none⟩ v5).setCell ⟨b, 6, none⟩ v6
theorem rp7_blk {T : TypeId} {w : World} {b : Nat} {u0 u1 u2 u3 u4 u5 u6 : Value} (h : w.heap[b]? = some (.cells #[u0, u1, u2, u3, u4, u5, u6] T (0, 0))) (v0 v1 v2 v3 v4 v5 v6 : Value) : (rp7 w b v0 v1 v2 v3 v4 v5 v6).heap[b]? = some (.cells #[v0, v1, v2, v3, v4, v5, v6] T (0, 0)) := by
  have h8 := (blk_set (blk_set (blk_set (blk_set (blk_set (blk_set (blk_set h 0 v0) 1 v1) 2 v2) 3 v3) 4 v4) 5 v5) 6 v6)
  simpa [rp7] using h8
theorem rp7_far {w : World} {b i : Nat} {o : Obj} (h : w.heap[i]? = some o) (hne : i ≠ b) (v0 v1 v2 v3 v4 v5 v6 : Value) : (rp7 w b v0 v1 v2 v3 v4 v5 v6).heap[i]? = some o := by
  unfold rp7
  rw [Below.heap_setCell _ _ _ _ hne, Below.heap_setCell _ _ _ _ hne, Below.heap_setCell _ _ _ _ hne, Below.heap_setCell _ _ _ _ hne, Below.heap_setCell _ _ _ _ hne, Below.heap_setCell _ _ _ _ hne, Below.heap_setCell _ _ _ _ hne]
  exact h
theorem rp7_below {B : Nat} {a w : World} (h : Below B a w) {b : Nat} (hb : B ≤ b) (v0 v1 v2 v3 v4 v5 v6 : Value) : Below B a (rp7 w b v0 v1 v2 v3 v4 v5 v6) :=
  ((((((h.setCell hb v0).setCell hb v1).setCell hb v2).setCell hb v3).setCell hb v4).setCell hb v5).setCell hb v6
theorem heap_drewV {w : World} {b : Nat} {o : Option Obj} (h : w.heap[b]? = o) : w.drew.heap[b]? = o := h
theorem below_drewV {B : Nat} {a w : World} (h : Below B a w) : Below B a w.drew := below_drewN h 1
def mtB (who : ByteArray) (f at_ : Int) (x : Rp) : Bool := decide (x.who = who) && (decide (x.fault = f) && decide (x.tm ≤ at_))
def lastGo (who : ByteArray) (f at_ : Int) : Rp → List Rp → Rp
  | best, [] => best
  | best, x :: r => lastGo who f at_ (if mtB who f at_ x = true ∧ best.wt ≤ x.wt then x else best) r
theorem lastGo_at {who : ByteArray} {f at_ : Int} {l : List Rp} {k : Nat} {x : Rp} (best : Rp) (h : l[k]? = some x) : lastGo who f at_ best (l.drop k) = lastGo who f at_ (if mtB who f at_ x = true ∧ best.wt ≤ x.wt then x else best) (l.drop (k + 1)) := by rw [drop_at h]; rfl
def lastV (l : List Rp) (who : ByteArray) (f at_ : Int) : Rp := lastGo who f at_ rp0 l
end Go.Proofs.YtjafcnblgeibpaaGreatDoor
