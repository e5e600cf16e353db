/- judge.Moved where nothing moved; slices.Concat of two rows of ranks. -/
import Derived.Test.YtdbfcneeiiialaaGreatDoorTogeth
import Derived.Test.YtdbfcneeiiialaaGreatDoorRankM
import Derived.Maps.OwnSet
namespace Go.Proofs.YtdbfcneeiiialaaGreatDoor
open Go.RowKit
open Go.Maps (Keyed string_keyed)
open Go.MapKept Go.ChangeMaps
open Go.WideMaps (keyOf_string_mk)
set_option linter.unusedVariables false

def rankAt (v : List Rk) (s : ByteArray) : Int := v.foldl (fun f x => if x.who = s then x.rank else f) 0
theorem rankAt_keep (s : ByteArray) : ∀ (v : List Rk) (f : Int), (∀ y ∈ v, y.who ≠ s) → v.foldl (fun f x => if x.who = s then x.rank else f) f = f
  | [], _, _ => rfl
  | y :: r, f, h => by
    rw [List.foldl_cons, if_neg (h y (by simp))]
    exact rankAt_keep s r f fun z hz => h z (by simp [hz])
theorem rankAt_mem {v : List Rk} (hn : (v.map Rk.who).Nodup) {x : Rk} (hx : x ∈ v) : rankAt v x.who = x.rank := by
  unfold rankAt
  generalize (0 : Int) = f
  induction v generalizing f with
  | nil => cases hx
  | cons y r ih =>
    rw [List.map_cons, List.nodup_cons] at hn
    rw [List.foldl_cons]
    rcases List.mem_cons.1 hx with rfl | hx
    · rw [if_pos rfl]
      exact rankAt_keep _ r _ fun z hz he => hn.1 (he ▸ List.mem_map_of_mem hz)
    · exact ih hn.2 hx _
def WasM (D : DataW Unit) (v : List Rk) : Prop := Go.Maps.IsMap D ∧ ∀ s : ByteArray, D.atKey (.string s.data.toList) (.lit (.int .i64 0)) = .lit (.int .i64 (rankAt v s))
theorem WasM.nil : WasM (.map []) [] := ⟨Go.Maps.isMap_empty, fun s => by rw [atKey_nil]; rfl⟩
theorem WasM.snoc {D : DataW Unit} {v : List Rk} (h : WasM D v) (x : Rk) : WasM (D.put (.string x.who.data.toList) (.lit (.int .i64 x.rank))) (v ++ [x]) := by
  refine ⟨h.1.put _ _, fun t => ?_⟩
  have e : rankAt (v ++ [x]) t = if x.who = t then x.rank else rankAt v t := by unfold rankAt; rw [List.foldl_append]; rfl
  rw [e]
  by_cases e2 : x.who = t
  · subst e2
    rw [Go.Maps.atKey_put_same h.1 (by trivial), if_pos rfl]
  · rw [Go.Maps.atKey_put_other (by intro e3; injection e3 with e3; exact e2 (bytes_inj e3).symm), h.2 t, if_neg e2]
theorem mi_lookOk {w : World} {b n : Nat} {D : DataW Unit} (h : MI w b n D) (s : ByteArray) (hs : s.size ≤ maxLen) : ∃ (v : Int) (t : Bool), (Instr.lookup 158 (.map (some b)) (.string s) true).run Tryz.prog w = .ok (.tuple #[.int .i64 v, .bool t]) w ∧ D.atKey (.string s.data.toList) (.lit (.int .i64 0)) = .lit (.int .i64 v) := by
  obtain ⟨v, ps, hrun, hv⟩ := h.look_ok (string_keyed Tryz.underlying9) Tryz.underlying158 (Tryz.zeroValue3 w) (plainElem_int Tryz.underlying3 (by decide)) (keyOf_string_mk Tryz.underlying9 hs)
  obtain ⟨c, rfl, hc, hwc⟩ := plainElem_int_inv Tryz.underlying3 hv
  exact ⟨c, _, hrun, congrArg Prod.fst hc⟩
theorem rk_src {w : World} {A : Option Addr} {n : Nat} {l : List Rk} (h : RRk w A n l) (hp : 0 < n) : ∃ b off, A = some ⟨b, off, none⟩ ∧ ∀ j u, (l.flatMap rkE)[j]? = some u → w.cell? ⟨b, off + j, none⟩ = some u := by
  obtain ⟨b, off, cs, fz, hA, hb, hc⟩ := h.2.2 hp
  refine ⟨b, off, hA, fun j u hu => ?_⟩
  have hj : j < l.length * 4 := by
    have := (List.getElem?_eq_some_iff.1 hu).1
    rw [flat_len rkE_len] at this; exact this
  obtain ⟨x, hx⟩ := at_of_lt (l := l) (k := j / 4) (by omega)
  have hlen : (rkE x).length = 4 := rfl
  have hv : ∃ v, (rkE x)[j % 4]? = some v := ⟨_, List.getElem?_eq_getElem (by rw [hlen]; omega)⟩
  obtain ⟨v, hv⟩ := hv
  have h1 := flat_at rkE_len l (j / 4) x (j % 4) v hx hv
  rw [show j / 4 * 4 + j % 4 = j by omega, hu] at h1
  obtain rfl := Option.some.inj h1
  have h2 := hc (j / 4) x hx (j % 4) u hv
  rw [show off + j / 4 * 4 + j % 4 = off + j by omega] at h2
  rw [cell_of_row w b _ cs _ fz hb]
  exact h2
theorem rks_one (l : List Rk) : ∀ u ∈ l.flatMap rkE, u.oneCell' = true := by
  intro u hu
  obtain ⟨x, _, hx⟩ := List.mem_flatMap.1 hu
  simp only [rkE, List.mem_cons, List.not_mem_nil, or_false] at hx
  rcases hx with rfl | rfl | rfl | rfl <;> rfl
structure MV (w : World) (b9 bm q : Nat) (D : DataW Unit) (v : Int) (wx : World) : Prop where
  m : MI wx bm q D
  h9 : wx.heap[b9]? = some (.cells #[.int .i64 v] 3 (0, 0))
  l1 : w.heap.size ≤ b9
  l2 : b9 < bm
  bel : Below w.heap.size w wx
section
variable {w wx w' : World} {b9 bm q : Nat} {D : DataW Unit} {v : Int}
theorem MV.below (h : MV w b9 bm q D v wx) (B : Below wx.heap.size wx w') : MV w b9 bm q D v w' :=
  ⟨h.m.kept (row := none) (grown_of_below B) (by simp), blk_below h.h9 B, h.l1, h.l2, below_next h.bel B⟩
theorem MV.set9 (h : MV w b9 bm q D v wx) (v' : Int) : MV w b9 bm q D v' (wx.setCell ⟨b9, 0, none⟩ (.int .i64 v')) := by
  have hg : wx.grownBy (wx.setCell ⟨b9, 0, none⟩ (.int .i64 v')) (some b9) := grown_setCell (grown_refl wx _) (.inl rfl) _
  have hl2 := h.l2
  refine ⟨h.m.kept hg (fun e => by injection e with e; omega), ?_, h.l1, h.l2, h.bel.trans (grown_below hg h.l1 h.bel.size)⟩
  exact blk_set h.h9 0 (.int .i64 v')
theorem MV.put (h : MV w b9 bm q D v wx) {q' : Nat} {D' : DataW Unit} (ho : MI w' bm q' D') (hg : wx.grownBy w' (some bm)) : MV w b9 bm q' D' v w' :=
  ⟨ho, blk_grown h.h9 hg (fun e => by injection e with e; have := h.l2; omega), h.l1, h.l2, h.bel.trans (grown_below hg (by have := h.l1; have := h.l2; omega) h.bel.size)⟩
end
theorem rk_keep9 {w : World} {A : Option Addr} {n : Nat} {l : List Rk} {b9 : Nat} {v v' : Int} (h : RRk w A n l) (h9 : w.heap[b9]? = some (.cells #[.int .i64 v] 3 (0, 0))) : RRk (w.setCell ⟨b9, 0, none⟩ (.int .i64 v')) A n l := h.keep (T := 3) (by decide) (Keep.of_grown h9 (grown_setCell (grown_refl w _) (.inl rfl) _))
theorem rankTop_c (A B : Option Addr) (n c m c2 : Nat) (l : List Sd) (v : List Vd) (w : World) (h : RSd w A n l) (hv : RVd w B m v) (hn : n ≤ 19) :
    Calls Tryz.prog 15 #[.slice A n c, .slice B m c2] w (RetRk w (rankE l v) (rankD 1 l v)) := by
  have hR := Lib.hid (rank_c A B n c m c2 l v 1 w h hv hn (by omega) (by omega))
  generalize rankE l v = E at *
  generalize rankD 1 l v = D at *
  clear h hv
  go_enter Tryz.func15, Tryz.ntmps15
  go_wp2_with fail
  refine hR.out.mono ?_; rintro e w1 ⟨A', n', c', rfl, hr, hB, hN⟩
  have H := Lib.hid (And.intro hr (And.intro hB hN))
  clear hr hB hR hN
  go_wp2
  go_ret2
  exact ⟨A', n', c', rfl, H.out.1, H.out.2.1, H.out.2.2⟩
end Go.Proofs.YtdbfcneeiiialaaGreatDoor
