/- In a drawn region of the stream's touch: as TouchM's TW, but with an exact list, an exact place and an exact pad (for the maker as a function). -/
import Derived.Test.YtklggnglaeagpaaGreatDoorQTouchM
namespace Go.Proofs.YtklggnglaeagpaaGreatDoor
open Go.RowKit
set_option linter.unusedVariables false

/-- lf: the list behind the append; kf: the stream's place, pf: the pad's time, by what is carried out -/
structure TX (w : World) (g r b : Nat) (zs : Zs) (u : Value) (n : Nat) (l lf : List Int) (kf : Array Bool → Nat) (pf : Array Bool → Int) (q : Int) (ld ap sto : Nat) (listed : Array Bool) (wx : World) : Prop where
  bx : ∃ t : Value, wx.heap[b]? = some (tBox (pf listed) q t) ∧ (listed.getD sto false = true → wx.ownsRow (b + 1) 3 1 t (n + 1) (ints lf)) ∧ (listed.getD sto false = false → t = u)
  st : St wx g zs (kf listed)
  rs : wx.heap[r]? = some (tBox 0 0 (.slice none 0 0))
  gr : w.grownBy wx (some g)
  ow : listed.getD ap false = false → wx.ownsRow (b + 1) 3 1 u n (ints l)
  ua : ∀ i, u.ownBlock = some i → b + 1 ≤ i ∧ i < wx.heap.size
  la : listed.getD ap false = true → listed.getD ld false = true
  ls : listed.getD sto false = true → listed.getD ap false = true
  sz : b + 1 ≤ wx.heap.size
  hgr : g < r
  hrb : r < b
  hwr : w.heap.size ≤ r
section
variable {w wx w' : World} {g r b : Nat} {zs : Zs} {u : Value} {n : Nat} {l lf : List Int} {kf : Array Bool → Nat} {pf : Array Bool → Int} {q : Int} {ld ap sto : Nat} {listed : Array Bool}
theorem TX.start {k : Nat} {p : Int} {m : Nat} (h : D4 w g r b zs u n l k p q wx) (hk : kf (Array.replicate m false) = k) (hp : pf (Array.replicate m false) = p) : TX w g r b zs u n l lf kf pf q ld ap sto (Array.replicate m false) wx.drew := by
  have hr : ∀ j, (Array.replicate m false).getD j false = false := fun j => by rw [Array.getD_eq_getD_getElem?, Array.getElem?_replicate]; split <;> rfl
  refine ⟨⟨u, by rw [hp]; exact h.bx, fun e => ?_, fun _ => rfl⟩, by rw [hk]; exact h.st, h.rs, grown_drew h.gr, fun _ => h.o, fun i hi => h.o.lt i hi, fun e => ?_, fun e => ?_, lt_of_heap h.bx, h.hgr, h.hrb, h.hwr⟩
  all_goals (rw [hr] at e; cases e)
theorem TX.keep {i : Nat} (h : TX w g r b zs u n l lf kf pf q ld ap sto listed wx) (hk : kf (listed.setIfInBounds i true) = kf listed) (hp : pf (listed.setIfInBounds i true) = pf listed) (h1 : i ≠ ap) (h2 : i ≠ sto) : TX w g r b zs u n l lf kf pf q ld ap sto (listed.setIfInBounds i true) wx := by
  have e1 := getD_set_other (listed := listed) false h1
  have e2 := getD_set_other (listed := listed) false h2
  refine ⟨?_, by rw [hk]; exact h.st, h.rs, h.gr, by rw [e1]; exact h.ow, h.ua, by rw [e1]; exact fun e => getD_mono (h.la e), by rw [e1, e2]; exact h.ls, h.sz, h.hgr, h.hrb, h.hwr⟩
  rw [e2, hp]; exact h.bx
theorem TX.alloc (h : TX w g r b zs u n l lf kf pf q ld ap sto listed wx) (o : Obj) : TX w g r b zs u n l lf kf pf q ld ap sto listed (wx.alloc o) := by
  obtain ⟨t, h1, h2, h3⟩ := h.bx
  exact ⟨⟨t, blk_alloc h1 o, fun e => (h2 e).alloc o, h3⟩, h.st.alloc o, blk_alloc h.rs o, grown_alloc h.gr o, fun e => (h.ow e).alloc o, fun i hi => ⟨(h.ua i hi).1, by have := (h.ua i hi).2; simp; omega⟩, h.la, h.ls, by have := h.sz; simp; omega, h.hgr, h.hrb, h.hwr⟩
theorem TX.call {i : Nat} (h : TX w g r b zs u n l lf kf pf q ld ap sto listed wx) (hp : pf (listed.setIfInBounds i true) = pf listed) (h1 : i ≠ ap) (h2 : i ≠ sto) : St wx g zs (kf listed) ∧ ∀ w', St w' g zs (kf (listed.setIfInBounds i true)) → wx.grownBy w' (some g) → TX w g r b zs u n l lf kf pf q ld ap sto (listed.setIfInBounds i true) w' := by
  have hs := h.st
  have e1 := getD_set_other (listed := listed) false h1
  have e2 := getD_set_other (listed := listed) false h2
  have hg := h.hgr
  have hb := h.hrb
  refine ⟨hs, fun w' hs' hg' => ?_⟩
  obtain ⟨t, h3, h4, h5⟩ := h.bx
  refine ⟨⟨t, by rw [hp]; exact hs.keep hg' b _ _ (0, 0) (by decide) h3, ?_, ?_⟩, hs', hs.keep hg' r _ _ (0, 0) (by decide) h.rs, grown_trans h.gr hg', ?_, fun i hi => ⟨(h.ua i hi).1, by have := (h.ua i hi).2; have := hg'.size; omega⟩, by rw [e1]; exact fun e => getD_mono (h.la e), by rw [e1, e2]; exact h.ls, Nat.le_trans h.sz hg'.size, h.hgr, h.hrb, h.hwr⟩
  · rw [e2]; intro e; exact own_keep (h4 e) (by omega) hg'
  · rw [e2]; exact h5
  · rw [e1]; intro e; exact own_keep (h.ow e) (by omega) hg'
theorem TX.load (h : TX w g r b zs u n l lf kf pf q ld ap sto listed wx) (h0 : listed.getD ld true = false) : wx.cell? ⟨b, 2, none⟩ = some u := by
  obtain ⟨t, h1, _, h3⟩ := h.bx
  have hl := (getD_tfT h0).1
  have ha : listed.getD ap false = false := by
    cases e : listed.getD ap false
    · rfl
    · have := h.la e; rw [hl] at this; cases this
  have hs : listed.getD sto false = false := by
    cases e : listed.getD sto false
    · rfl
    · have := h.ls e; rw [ha] at this; cases this
  rw [(blk_facts (show wx.heap[b]? = some (.cells #[.int .i64 (pf listed), .int .i64 q, t] 80 (0, 0)) from h1)).1 2, h3 hs]; rfl
theorem TX.free (h : TX w g r b zs u n l lf kf pf q ld ap sto listed wx) : (∀ i, wx.frozen? ⟨b, i, none⟩ = false) ∧ ∃ t, wx.cell? ⟨b, 0, none⟩ = some (.int .i64 (pf listed)) ∧ wx.cell? ⟨b, 1, none⟩ = some (.int .i64 q) ∧ wx.cell? ⟨b, 2, none⟩ = some t := by
  obtain ⟨t, h1, _, _⟩ := h.bx
  have hf := blk_facts (show wx.heap[b]? = some (.cells #[.int .i64 (pf listed), .int .i64 q, t] 80 (0, 0)) from h1)
  exact ⟨hf.2, t, hf.1 0, hf.1 1, hf.1 2⟩
theorem TX.set0 {i : Nat} {x : Int} (h : TX w g r b zs u n l lf kf pf q ld ap sto listed wx) (hk : kf (listed.setIfInBounds i true) = kf listed) (hp : pf (listed.setIfInBounds i true) = x) (h1 : i ≠ ap) (h2 : i ≠ sto) : TX w g r b zs u n l lf kf pf q ld ap sto (listed.setIfInBounds i true) (wx.setCell ⟨b, 0, none⟩ (.int .i64 x)) := by
  have e1 := getD_set_other (listed := listed) false h1
  have e2 := getD_set_other (listed := listed) false h2
  obtain ⟨t, h3, h4, h5⟩ := h.bx
  have hg := h.hgr
  have hb := h.hrb
  have hw := h.hwr
  have hst := blk_set (show wx.heap[b]? = some (.cells #[.int .i64 (pf listed), .int .i64 q, t] 80 (0, 0)) from h3) 0 (.int .i64 x)
  have hgc := grown_setCell (grown_refl wx _) (p := ⟨b, 0, none⟩) (.inl rfl) (.int .i64 x)
  refine ⟨⟨t, by rw [hp]; exact hst, fun e => ?_, by rw [e2]; exact h5⟩, by rw [hk]; exact h.st.setAt (by omega) _, blk_other h.rs (p := ⟨b, 0, none⟩) (by show r ≠ b; omega) _, grown_setAt h.gr (by omega) _, fun e => ?_, fun i hi => ⟨(h.ua i hi).1, by have := (h.ua i hi).2; simpa [World.setCell] using this⟩, by rw [e1]; exact fun e => getD_mono (h.la e), by rw [e1, e2]; exact h.ls, by have := h.sz; simpa [World.setCell] using this, h.hgr, h.hrb, h.hwr⟩
  · rw [e2] at e; exact (h4 e).kept (row := some b) hgc (.inr (own_above (h4 e) (Nat.le_refl _)))
  · rw [e1] at e; exact (h.ow e).kept (row := some b) hgc (.inr (own_above (h.ow e) (Nat.le_refl _)))
theorem TX.set2 {v : Value} (h : TX w g r b zs u n l lf kf pf q ld ap sto listed wx) (hk : kf (listed.setIfInBounds sto true) = kf listed) (hp : pf (listed.setIfInBounds sto true) = pf listed) (hsz : listed.getD sto true = false) (h1 : sto ≠ ap) (hl : listed.getD ap false = true) (hv : wx.ownsRow (b + 1) 3 1 v (n + 1) (ints lf)) : TX w g r b zs u n l lf kf pf q ld ap sto (listed.setIfInBounds sto true) (wx.setCell ⟨b, 2, none⟩ v) := by
  obtain ⟨t, h3, h4, h5⟩ := h.bx
  have hg := h.hgr
  have hb := h.hrb
  have hw := h.hwr
  have hst := blk_set (show wx.heap[b]? = some (.cells #[.int .i64 (pf listed), .int .i64 q, t] 80 (0, 0)) from h3) 2 v
  have hgc := grown_setCell (grown_refl wx _) (p := ⟨b, 2, none⟩) (.inl rfl) v
  have e1 := getD_set_other (listed := listed) false h1
  have e2 : (listed.setIfInBounds sto true).getD sto false = true := by rw [getD_set_self', if_pos (getD_tfT hsz).2]
  refine ⟨⟨v, by rw [hp]; exact hst, fun _ => hv.kept (row := some b) hgc (.inr (own_above hv (Nat.le_refl _))), fun e => ?_⟩, by rw [hk]; exact h.st.setAt (by omega) _, blk_other h.rs (p := ⟨b, 2, none⟩) (by show r ≠ b; omega) _, grown_setAt h.gr (by omega) _, fun e => ?_, fun i hi => ⟨(h.ua i hi).1, by have := (h.ua i hi).2; simpa [World.setCell] using this⟩, fun e => getD_mono (h.la hl), fun _ => by rw [e1]; exact hl, by have := h.sz; simpa [World.setCell] using this, h.hgr, h.hrb, h.hwr⟩
  · rw [e2] at e; cases e
  · rw [e1, hl] at e; cases e
theorem TX.app (h : TX w g r b zs u n l lf kf pf q ld ap sto listed wx) (hk : kf (listed.setIfInBounds ap true) = kf listed) (hp : pf (listed.setIfInBounds ap true) = pf listed) (h0 : listed.getD ap true = false) (hne : ap ≠ sto) (hl : listed.getD ld false = true) (hg : wx.grownBy w' u.ownBlock) : TX w g r b zs u n l lf kf pf q ld ap sto (listed.setIfInBounds ap true) w' := by
  have ha := getD_tfT h0
  have hs0 : listed.getD sto false = false := by
    cases e : listed.getD sto false
    · rfl
    · have := h.ls e; rw [ha.1] at this; cases this
  obtain ⟨t, h3, h4, h5⟩ := h.bx
  have hgr := h.hgr
  have hb := h.hrb
  have hw := h.hwr
  have e1 : (listed.setIfInBounds ap true).getD ap false = true := by rw [getD_set_self', if_pos ha.2]
  have e2 := getD_set_other (listed := listed) false hne
  refine ⟨⟨t, by rw [hp]; exact blk_grown h3 hg (fun e => by have := (h.ua _ e.symm).1; omega), ?_, ?_⟩, by rw [hk]; exact h.st.grown hg (fun i hi => by have := (h.ua i hi).1; omega), blk_grown h.rs hg (fun e => by have := (h.ua _ e.symm).1; omega), grown_own h.gr hg (fun i hi => by have := (h.ua i hi).1; omega), ?_, fun i hi => ⟨(h.ua i hi).1, Nat.lt_of_lt_of_le (h.ua i hi).2 hg.size⟩, fun _ => getD_mono hl, ?_, Nat.le_trans h.sz hg.size, h.hgr, h.hrb, h.hwr⟩
  · rw [e2, hs0]; intro e; cases e
  · rw [e2]; exact h5
  · rw [e1]; intro e; cases e
  · rw [e2, hs0]; intro e; cases e
theorem TX.fin (h : TX w g r b zs u n l lf kf pf q ld ap sto listed wx) (hs : listed.getD sto false = true) : ∃ t, D4 w g r b zs t (n + 1) lf (kf listed) (pf listed) q wx := by
  obtain ⟨t, h3, h4, h5⟩ := h.bx
  exact ⟨t, h4 hs, h3, h.rs, h.st, h.gr, h.hgr, h.hrb, h.hwr⟩
end
end Go.Proofs.YtklggnglaeagpaaGreatDoor
