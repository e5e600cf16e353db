/- What was taken of a lane at the end of a race, as data; a boxed touch under way. -/
import Derived.Test.YtpepdkgkdbnakaaGreatDoorLapK
namespace Go.Proofs.YtpepdkgkdbnakaaGreatDoor
open Go.RowKit Go.Shelf Go.Lib Go.Sort
set_option linter.unusedVariables false

theorem getD_ofL {α : Type} [Inhabited α] {l : List α} {k : Nat} {x : α} (h : l[k]? = some x) : l.getD k default = x := by
  rw [List.getD_eq_getElem?_getD, h]; rfl
theorem RN.last {α : Type} [Inhabited α] {size : Nat} {enc : α → List Value} {e : TypeId} {w : World} {A : Option Addr} {n : Nat} {l : List α} (h : RN size enc e w A n l) (hn : 0 < n) : ∃ b off, A = some ⟨b, off, none⟩ ∧ b < w.heap.size ∧ ∀ j v, (enc (l.getD (n - 1) default))[j]? = some v → w.cell? ⟨b, off + (n - 1) * size + j, none⟩ = some v := by
  obtain ⟨b, off, x, hA, hb, hx, hc⟩ := h.at_ (k := n - 1) (by omega)
  rw [getD_ofL hx]
  exact ⟨b, off, hA, hb, hc⟩
instance : Inhabited Sg := ⟨⟨⟨#[]⟩, 0, 0, 0, 0, 0⟩⟩
instance : Inhabited Td := ⟨⟨default, 0⟩⟩
def lastV (L : List LP.Lp) : Int := if L.length = 0 then 0 else (L.getD (L.length - 1) default).time
def btnV (s0 : Int) (T : List Td) : Int := if T.length = 0 then 0 else if 1 ≤ ((T.getD (T.length - 1) default).tm - s0).tdiv 10 ∧ ((T.getD (T.length - 1) default).tm - s0).tdiv 10 ≤ 360000 then ((T.getD (T.length - 1) default).tm - s0).tdiv 10 else 0
def wsV (T : List Td) : List Int := (T.drop (T.length - 3)).map fun t => t.x.time
theorem wsV_len (T : List Td) : (wsV T).length ≤ 3 := by unfold wsV; rw [List.length_map, List.length_drop]; omega
/-- a touch: pad, button, watches -/
structure T3 where
  pad : Int
  btn : Int
  ws : List Int
deriving DecidableEq
def touT (cl : List Ck) (l : List Sg) (N H : Nat) (lane : Int) : T3 := ⟨lastV (lapsV N (touV cl l H lane)), btnV (s0V cl l H) (tdL cl l H lane 3), wsV (tdL cl l H lane 4)⟩
def RetTou (w : World) (t : T3) (e : Ending) (w' : World) : Prop := ∃ A c, e = .returned (.agg #[.int .i64 t.pad, .int .i64 t.btn, .slice A t.ws.length c]) ∧ RI 3 w' A t.ws.length t.ws ∧ Below w.heap.size w w'
theorem own_other {w : World} {B n b i : Nat} {e : TypeId} {u : Value} {xs : List Value} (h : w.ownsRow B e 1 u n xs) (hb : b < B) (v : Value) : (w.setCell ⟨b, i, none⟩ v).ownsRow B e 1 u n xs :=
  h.kept (row := some b) (grown_setCell (grown_refl _ _) (p := ⟨b, i, none⟩) (.inl rfl) v) (.inr (fun e => by have := own_row_lt h b e; omega))
/-- the box of a touch (b + 1), over the box of what is handed back (b) -/
structure TB (w : World) (b : Nat) (p q : Int) (u : Value) (l : List Int) (wx : World) : Prop where
  z : wx.heap[b]? = some (.cells #[.int .i64 0, .int .i64 0, .slice none 0 0] 253 (0, 0))
  y : wx.heap[b + 1]? = some (.cells #[.int .i64 p, .int .i64 q, u] 253 (0, 0))
  own : wx.ownsRow (b + 2) 3 1 u l.length (ints l)
  bel : Below w.heap.size w wx
  hb : w.heap.size ≤ b
section
variable {w wx w' : World} {b : Nat} {p q x : Int} {u v' : Value} {l : List Int}
theorem TB.start {w wx : World} (h : Below w.heap.size w wx) : TB w wx.heap.size 0 0 (.slice none 0 0) [] ((wx.alloc (.cells #[.int .i64 0, .int .i64 0, .slice none 0 0] 253)).alloc (.cells #[.int .i64 0, .int .i64 0, .slice none 0 0] 253)) := by
  refine ⟨blk_alloc (heap_alloc_new wx _) _, ?_, World.ownsRow_nil _ _ _ _, (h.alloc h.size _).alloc (by have := h.size; simp; omega) _, h.size⟩
  have := heap_alloc_new (wx.alloc (.cells #[.int .i64 0, .int .i64 0, .slice none 0 0] 253)) (.cells #[.int .i64 0, .int .i64 0, .slice none 0 0] 253)
  rwa [alloc_size'] at this
theorem TB.below (h : TB w b p q u l wx) (B : Below wx.heap.size wx w') : TB w b p q u l w' := ⟨blk_below h.z B, blk_below h.y B, own_below h.own B, below_next h.bel B, h.hb⟩
theorem TB.hz (h : TB w b p q u l wx) : b + 2 ≤ wx.heap.size := by have := lt_of_heap h.y; omega
theorem TB.set0 (h : TB w b p q u l wx) (x : Int) : TB w b x q u l (wx.setCell ⟨b + 1, 0, none⟩ (.int .i64 x)) :=
  ⟨blk_other h.z (by simp) _, blk_set h.y 0 _, own_other h.own (by omega) _, h.bel.setCell (by have := h.hb; simp; omega) _, h.hb⟩
theorem TB.set1 (h : TB w b p q u l wx) (x : Int) : TB w b p x u l (wx.setCell ⟨b + 1, 1, none⟩ (.int .i64 x)) :=
  ⟨blk_other h.z (by simp) _, blk_set h.y 1 _, own_other h.own (by omega) _, h.bel.setCell (by have := h.hb; simp; omega) _, h.hb⟩
theorem TB.ne (h : TB w b p q u l wx) {i : Nat} (hi : i < b + 2) : some i ≠ u.ownBlock := fun e => by have := own_row_lt h.own i e.symm; omega
theorem TB.app (h : TB w b p q u l wx) (ho : w'.ownsRow (b + 2) 3 1 v' (l.length + 1) (ints l ++ [.int .i64 x])) (hg : wx.grownBy w' u.ownBlock) : TB w b p q v' (l ++ [x]) (w'.setCell ⟨b + 1, 2, none⟩ v') := by
  refine ⟨blk_other (blk_grown h.z hg (h.ne (by omega))) (by simp) _, blk_set (blk_grown h.y hg (h.ne (by omega))) 2 _, own_other (by rw [ints_app, List.length_append]; exact ho) (by omega) _, ?_, h.hb⟩
  exact (below_own h.bel h.own hg h.bel.size (by have := h.hb; omega)).setCell (by have := h.hb; simp; omega) _
theorem keep_ownG {w w' : World} {B n size : Nat} {e : TypeId} {u : Value} {xs : List Value} (h : w.ownsRow B e size u n xs) (hg : w.grownBy w' u.ownBlock) : Keep e w w' := by
  rcases h.2 with ⟨rfl, _⟩ | ⟨g, cap, cur, rfl, hb, hc, _⟩
  · intro b cs e' fz _ hc
    exact (hg.block b (lt_of_heap hc) (by simp [Value.ownBlock])).trans hc
  · exact Keep.of_grown hc hg
/-- a row of other elements stays where the box's row grows -/
theorem TB.keeps {α : Type} {size n : Nat} {enc : α → List Value} {e : TypeId} {A : Option Addr} {L : List α} (h : TB w b p q u l wx) (r : RN size enc e wx A n L) (hg : wx.grownBy w' u.ownBlock) (h1 : e ≠ 3) (h2 : e ≠ 253) (v : Value) : RN size enc e (w'.setCell ⟨b + 1, 2, none⟩ v) A n L :=
  (r.keep h1 (keep_ownG h.own hg)).keep h2 (Keep.of_grown (g := b + 1) (blk_grown h.y hg (h.ne (by omega))) (grown_setCell (grown_refl _ _) (p := ⟨b + 1, 2, none⟩) (.inl rfl) v))
end
end Go.Proofs.YtpepdkgkdbnakaaGreatDoor
