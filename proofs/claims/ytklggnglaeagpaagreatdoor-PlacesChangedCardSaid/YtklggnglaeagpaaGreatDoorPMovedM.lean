/- judge.Moved where nothing moved; slices.Concat of two rows of ranks. -/
import Derived.Test.YtklggnglaeagpaaGreatDoorPOrdC
import Derived.Test.YtklggnglaeagpaaGreatDoorPRankM
import Derived.Maps.OwnSet
namespace Go.Proofs.YtklggnglaeagpaaGreatDoor
open Go.RowKit
open Go.Maps (Keyed string_keyed)
open Go.MapKept Go.ChangeMaps
open Go.WideMaps (keyOf_string_mk)
set_option linter.unusedVariables false

def rankAt (v : List Rk) (s : ByteArray) : Int := v.foldl (fun f x => if x.who = s then x.rank else f) 0
def WasM (D : DataW Unit) (v : List Rk) : Prop := Go.Maps.IsMap D ∧ ∀ s : ByteArray, D.atKey (.string s.data.toList) (.lit (.int .i64 0)) = .lit (.int .i64 (rankAt v s))
theorem WasM.nil : WasM (.map []) [] := ⟨Go.Maps.isMap_empty, fun s => by rw [atKey_nil]; rfl⟩
theorem WasM.snoc {D : DataW Unit} {v : List Rk} (h : WasM D v) (x : Rk) : WasM (D.put (.string x.who.data.toList) (.lit (.int .i64 x.rank))) (v ++ [x]) := by
  refine ⟨h.1.put _ _, fun t => ?_⟩
  have e : rankAt (v ++ [x]) t = if x.who = t then x.rank else rankAt v t := by unfold rankAt; rw [List.foldl_append]; rfl
  rw [e]
  by_cases e2 : x.who = t
  · subst e2
    rw [Go.Maps.atKey_put_same h.1 (by trivial), if_pos rfl]
  · rw [Go.Maps.atKey_put_other (by intro e3; injection e3 with e3; exact e2 (bytes_inj e3).symm), h.2 t, if_neg e2]
structure MV (w : World) (b9 bm q : Nat) (D : DataW Unit) (v : Int) (wx : World) : Prop where
  m : MI wx bm q D
  h9 : wx.heap[b9]? = some (.cells #[.int .i64 v] 3 (0, 0))
  l1 : w.heap.size ≤ b9
  l2 : b9 < bm
  bel : Below w.heap.size w wx
section
variable {w wx w' : World} {b9 bm q : Nat} {D : DataW Unit} {v : Int}
theorem MV.below (h : MV w b9 bm q D v wx) (B : Below wx.heap.size wx w') : MV w b9 bm q D v w' :=
  ⟨h.m.kept (row := none) (grown_of_below B) (by simp), blk_below h.h9 B, h.l1, h.l2, below_next h.bel B⟩
theorem MV.put (h : MV w b9 bm q D v wx) {q' : Nat} {D' : DataW Unit} (ho : MI w' bm q' D') (hg : wx.grownBy w' (some bm)) : MV w b9 bm q' D' v w' :=
  ⟨ho, blk_grown h.h9 hg (fun e => by injection e with e; have := h.l2; omega), h.l1, h.l2, h.bel.trans (grown_below hg (by have := h.l1; have := h.l2; omega) h.bel.size)⟩
end
end Go.Proofs.YtklggnglaeagpaaGreatDoor
