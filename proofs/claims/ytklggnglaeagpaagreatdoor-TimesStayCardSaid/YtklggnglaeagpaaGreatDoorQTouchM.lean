/- The stream's touch: what stands while it is made, and in its two drawn regions. Over any program. -/
import Derived.Test.YtklggnglaeagpaaGreatDoorQTouch7
import Derived.Test.YtklggnglaeagpaaGreatDoorQDraws
import Derived.Test.YtklggnglaeagpaaGreatDoorQRegAp
import Derived.Test.YtklggnglaeagpaaGreatDoorQSplits
namespace Go.Proofs.YtklggnglaeagpaaGreatDoor
open Go.RowKit
set_option linter.unusedVariables false

def tBox (p q : Int) (u : Value) : Obj := .cells #[.int .i64 p, .int .i64 q, u] 80 (0, 0)
structure D4 (w : World) (g r b : Nat) (zs : Zs) (u : Value) (n : Nat) (l : List Int) (k : Nat) (p q : Int) (wx : World) : Prop where
  o : wx.ownsRow (b + 1) 3 1 u n (ints l)
  bx : wx.heap[b]? = some (tBox p q u)
  rs : wx.heap[r]? = some (tBox 0 0 (.slice none 0 0))
  st : St wx g zs k
  gr : w.grownBy wx (some g)
  hgr : g < r
  hrb : r < b
  hwr : w.heap.size ≤ r
theorem own_above {w : World} {B : Nat} {u : Value} {n : Nat} {xs : List Value} {e : TypeId} (h : w.ownsRow (B + 1) e 1 u n xs) {b : Nat} (hb : b ≤ B) : u.ownBlock ≠ some b := fun e => by have := own_row_lt h b e; omega
section
variable {w wx w' : World} {g r b : Nat} {zs : Zs} {u : Value} {n : Nat} {l : List Int} {k : Nat} {p q : Int}
theorem D4.below (h : D4 w g r b zs u n l k p q wx) (B : Below wx.heap.size wx w') : D4 w g r b zs u n l k p q w' :=
  ⟨own_below h.o B, blk_below h.bx B, blk_below h.rs B, h.st.below B, grown_trans h.gr (grown_of_below B), h.hgr, h.hrb, h.hwr⟩
theorem D4.stream {k' : Nat} (h : D4 w g r b zs u n l k p q wx) (hs : St w' g zs k') (hg : wx.grownBy w' (some g)) : D4 w g r b zs u n l k' p q w' :=
  ⟨own_keep h.o (by have := h.hgr; have := h.hrb; omega) hg, h.st.keep hg b _ _ (0, 0) (by decide) h.bx, h.st.keep hg r _ _ (0, 0) (by decide) h.rs, hs, grown_trans h.gr hg, h.hgr, h.hrb, h.hwr⟩
theorem D4.set (h : D4 w g r b zs u n l k p q wx) (i : Nat) (v : Value) {p' q' : Int} (he : (#[.int .i64 p, .int .i64 q, u] : Array Value).setIfInBounds i v = #[.int .i64 p', .int .i64 q', u]) : D4 w g r b zs u n l k p' q' (wx.setCell ⟨b, i, none⟩ v) := by
  have h1 := h.hrb
  have h2 := h.hgr
  have h3 := h.hwr
  have hs := blk_set (show wx.heap[b]? = some (.cells #[.int .i64 p, .int .i64 q, u] 80 (0, 0)) from h.bx) i v
  rw [he] at hs
  exact ⟨h.o.kept (row := some b) (grown_setCell (grown_refl _ _) (p := ⟨b, i, none⟩) (.inl rfl) v) (.inr (own_above h.o (Nat.le_refl _))), hs, blk_other h.rs (p := ⟨b, i, none⟩) (by show r ≠ b; omega) v, h.st.setAt (by omega) v, grown_setAt h.gr (by omega) v, h.hgr, h.hrb, h.hwr⟩
end

/-- in a drawn region that loads the slice (ld), appends to it (ap) and stores it (sto) -/
structure TW (w : World) (g r b : Nat) (zs : Zs) (u : Value) (n : Nat) (l : List Int) (K : Nat) (calls : List Nat) (ld ap sto : Nat) (listed : Array Bool) (wx : World) : Prop where
  bx : ∃ (p q : Int) (t : Value), wx.heap[b]? = some (tBox p q t) ∧ (listed.getD sto false = true → ∃ l', wx.ownsRow (b + 1) 3 1 t (n + 1) (ints l')) ∧ (listed.getD sto false = false → t = u)
  st : ∃ k, k + 2 * remL calls listed ≤ K ∧ St wx g zs k
  rs : wx.heap[r]? = some (tBox 0 0 (.slice none 0 0))
  gr : w.grownBy wx (some g)
  ow : listed.getD ap false = false → wx.ownsRow (b + 1) 3 1 u n (ints l)
  ua : ∀ i, u.ownBlock = some i → b + 1 ≤ i ∧ i < wx.heap.size
  la : listed.getD ap false = true → listed.getD ld false = true
  ls : listed.getD sto false = true → listed.getD ap false = true
  sz : b + 1 ≤ wx.heap.size
  hgr : g < r
  hrb : r < b
  hwr : w.heap.size ≤ r
theorem getD_mono {listed : Array Bool} {i j : Nat} (h : listed.getD j false = true) : (listed.setIfInBounds i true).getD j false = true := by
  by_cases e : i = j
  · subst e
    rw [getD_set_self']
    have : i < listed.size := by
      rcases Nat.lt_or_ge i listed.size with h' | h'
      · exact h'
      · rw [Array.getD_eq_getD_getElem?, Array.getElem?_eq_none h'] at h; cases h
    rw [if_pos this]
  · rw [getD_set_other _ e]; exact h
theorem getD_tfT {listed : Array Bool} {i : Nat} (h : listed.getD i true = false) : listed.getD i false = false ∧ i < listed.size := by
  have his : i < listed.size := by
    rcases Nat.lt_or_ge i listed.size with h' | h'
    · exact h'
    · rw [Array.getD_eq_getD_getElem?, Array.getElem?_eq_none h'] at h; cases h
  exact ⟨by rw [Array.getD_eq_getD_getElem?, Array.getElem?_eq_getElem his] at h ⊢; exact h, his⟩
section
variable {w wx w' : World} {g r b : Nat} {zs : Zs} {u : Value} {n : Nat} {l : List Int} {K : Nat} {calls : List Nat} {ld ap sto : Nat} {listed : Array Bool}
theorem TW.start {k : Nat} {p q : Int} {m : Nat} (h : D4 w g r b zs u n l k p q wx) (hk : k + 2 * calls.length ≤ K) : TW w g r b zs u n l K calls ld ap sto (Array.replicate m false) wx.drew := by
  have h9 := remL_le (Array.replicate m false) calls
  have hr : ∀ j, (Array.replicate m false).getD j false = false := fun j => by rw [Array.getD_eq_getD_getElem?, Array.getElem?_replicate]; split <;> rfl
  refine ⟨⟨p, q, u, h.bx, fun e => ?_, fun _ => rfl⟩, ⟨k, by omega, h.st⟩, h.rs, grown_drew h.gr, fun _ => h.o, fun i hi => h.o.lt i hi, fun e => ?_, fun e => ?_, lt_of_heap h.bx, h.hgr, h.hrb, h.hwr⟩
  all_goals (rw [hr] at e; cases e)
theorem TW.keep {i : Nat} (h : TW w g r b zs u n l K calls ld ap sto listed wx) (h0 : i ∉ calls) (h1 : i ≠ ap) (h2 : i ≠ sto) : TW w g r b zs u n l K calls ld ap sto (listed.setIfInBounds i true) wx := by
  have e1 := getD_set_other (listed := listed) false h1
  have e2 := getD_set_other (listed := listed) false h2
  refine ⟨?_, ?_, h.rs, h.gr, by rw [e1]; exact h.ow, h.ua, by rw [e1]; exact fun e => getD_mono (h.la e), by rw [e1, e2]; exact h.ls, h.sz, h.hgr, h.hrb, h.hwr⟩
  · rw [e2]; exact h.bx
  · rw [remL_set h0]; exact h.st
theorem TW.alloc (h : TW w g r b zs u n l K calls ld ap sto listed wx) (o : Obj) : TW w g r b zs u n l K calls ld ap sto listed (wx.alloc o) := by
  obtain ⟨p, q, t, h1, h2, h3⟩ := h.bx
  obtain ⟨k, hk, hs⟩ := h.st
  exact ⟨⟨p, q, t, blk_alloc h1 o, fun e => by obtain ⟨l', hl⟩ := h2 e; exact ⟨l', hl.alloc o⟩, h3⟩, ⟨k, hk, hs.alloc o⟩, blk_alloc h.rs o, grown_alloc h.gr o, fun e => (h.ow e).alloc o, fun i hi => ⟨(h.ua i hi).1, by have := (h.ua i hi).2; simp; omega⟩, h.la, h.ls, by have := h.sz; simp; omega, h.hgr, h.hrb, h.hwr⟩
theorem TW.call {i : Nat} (h : TW w g r b zs u n l K calls ld ap sto listed wx) (h0 : listed.getD i true = false) (hi : i ∈ calls) (hn : calls.Nodup) (h1 : i ≠ ap) (h2 : i ≠ sto) : ∃ k, k + 2 ≤ K ∧ St wx g zs k ∧ ∀ k' w', k' ≤ k + 2 → St w' g zs k' → wx.grownBy w' (some g) → TW w g r b zs u n l K calls ld ap sto (listed.setIfInBounds i true) w' := by
  obtain ⟨k, hk, hs⟩ := h.st
  have hr := remL_call (cs := calls) h0 hi hn
  have e1 := getD_set_other (listed := listed) false h1
  have e2 := getD_set_other (listed := listed) false h2
  have hg := h.hgr
  have hb := h.hrb
  refine ⟨k, by omega, hs, fun k' w' hk' hs' hg' => ?_⟩
  obtain ⟨p, q, t, h3, h4, h5⟩ := h.bx
  refine ⟨⟨p, q, t, hs.keep hg' b _ _ (0, 0) (by decide) h3, ?_, ?_⟩, ⟨k', by omega, hs'⟩, hs.keep hg' r _ _ (0, 0) (by decide) h.rs, grown_trans h.gr hg', ?_, fun i hi => ⟨(h.ua i hi).1, by have := (h.ua i hi).2; have := hg'.size; omega⟩, by rw [e1]; exact fun e => getD_mono (h.la e), by rw [e1, e2]; exact h.ls, Nat.le_trans h.sz hg'.size, h.hgr, h.hrb, h.hwr⟩
  · rw [e2]; intro e; obtain ⟨l', hl⟩ := h4 e; exact ⟨l', own_keep hl (by omega) hg'⟩
  · rw [e2]; exact h5
  · rw [e1]; intro e; exact own_keep (h.ow e) (by omega) hg'
theorem TW.load (h : TW w g r b zs u n l K calls ld ap sto listed wx) (h0 : listed.getD ld true = false) : wx.cell? ⟨b, 2, none⟩ = some u := by
  obtain ⟨p, q, t, h1, _, h3⟩ := h.bx
  have hl := (getD_tfT h0).1
  have ha : listed.getD ap false = false := by
    cases e : listed.getD ap false
    · rfl
    · have := h.la e; rw [hl] at this; cases this
  have hs : listed.getD sto false = false := by
    cases e : listed.getD sto false
    · rfl
    · have := h.ls e; rw [ha] at this; cases this
  rw [(blk_facts (show wx.heap[b]? = some (.cells #[.int .i64 p, .int .i64 q, t] 80 (0, 0)) from h1)).1 2, h3 hs]; rfl
theorem TW.free (h : TW w g r b zs u n l K calls ld ap sto listed wx) : (∀ i, wx.frozen? ⟨b, i, none⟩ = false) ∧ ∃ p q t, wx.cell? ⟨b, 0, none⟩ = some (.int .i64 p) ∧ wx.cell? ⟨b, 1, none⟩ = some (.int .i64 q) ∧ wx.cell? ⟨b, 2, none⟩ = some t := by
  obtain ⟨p, q, t, h1, _, _⟩ := h.bx
  have hf := blk_facts (show wx.heap[b]? = some (.cells #[.int .i64 p, .int .i64 q, t] 80 (0, 0)) from h1)
  exact ⟨hf.2, p, q, t, hf.1 0, hf.1 1, hf.1 2⟩
theorem TW.set0 {i : Nat} (h : TW w g r b zs u n l K calls ld ap sto listed wx) (h0 : i ∉ calls) (h1 : i ≠ ap) (h2 : i ≠ sto) (x : Int) : TW w g r b zs u n l K calls ld ap sto (listed.setIfInBounds i true) (wx.setCell ⟨b, 0, none⟩ (.int .i64 x)) := by
  have h' := h.keep h0 h1 h2
  obtain ⟨p, q, t, h3, h4, h5⟩ := h'.bx
  obtain ⟨k, hk, hs⟩ := h'.st
  have hg := h.hgr
  have hb := h.hrb
  have hw := h.hwr
  have hst := blk_set (show wx.heap[b]? = some (.cells #[.int .i64 p, .int .i64 q, t] 80 (0, 0)) from h3) 0 (.int .i64 x)
  have hgc := grown_setCell (grown_refl wx _) (p := ⟨b, 0, none⟩) (.inl rfl) (.int .i64 x)
  exact ⟨⟨x, q, t, hst, fun e => by obtain ⟨l', hl⟩ := h4 e; exact ⟨l', hl.kept (row := some b) hgc (.inr (own_above hl (Nat.le_refl _)))⟩, h5⟩, ⟨k, hk, hs.setAt (by omega) _⟩, blk_other h'.rs (p := ⟨b, 0, none⟩) (by show r ≠ b; omega) _, grown_setAt h'.gr (by omega) _, fun e => (h'.ow e).kept (row := some b) hgc (.inr (own_above (h'.ow e) (Nat.le_refl _))), fun i hi => ⟨(h'.ua i hi).1, by have := (h'.ua i hi).2; simpa [World.setCell] using this⟩, h'.la, h'.ls, by have := h'.sz; simpa [World.setCell] using this, h'.hgr, h'.hrb, h'.hwr⟩
theorem TW.set2 {v : Value} {l' : List Int} (h : TW w g r b zs u n l K calls ld ap sto listed wx) (hsz : listed.getD sto true = false) (h0 : sto ∉ calls) (h1 : sto ≠ ap) (hl : listed.getD ap false = true) (hv : wx.ownsRow (b + 1) 3 1 v (n + 1) (ints l')) : TW w g r b zs u n l K calls ld ap sto (listed.setIfInBounds sto true) (wx.setCell ⟨b, 2, none⟩ v) := by
  obtain ⟨p, q, t, h3, h4, h5⟩ := h.bx
  obtain ⟨k, hk, hs⟩ := h.st
  have hg := h.hgr
  have hb := h.hrb
  have hw := h.hwr
  have hst := blk_set (show wx.heap[b]? = some (.cells #[.int .i64 p, .int .i64 q, t] 80 (0, 0)) from h3) 2 v
  have hgc := grown_setCell (grown_refl wx _) (p := ⟨b, 2, none⟩) (.inl rfl) v
  have e1 := getD_set_other (listed := listed) false h1
  have e2 : (listed.setIfInBounds sto true).getD sto false = true := by rw [getD_set_self', if_pos (getD_tfT hsz).2]
  refine ⟨⟨p, q, v, hst, fun _ => ⟨l', hv.kept (row := some b) hgc (.inr (own_above hv (Nat.le_refl _)))⟩, fun e => ?_⟩, ⟨k, by rw [remL_set h0]; exact hk, hs.setAt (by omega) _⟩, blk_other h.rs (p := ⟨b, 2, none⟩) (by show r ≠ b; omega) _, grown_setAt h.gr (by omega) _, fun e => ?_, fun i hi => ⟨(h.ua i hi).1, by have := (h.ua i hi).2; simpa [World.setCell] using this⟩, fun e => getD_mono (h.la hl), fun _ => by rw [e1]; exact hl, by have := h.sz; simpa [World.setCell] using this, h.hgr, h.hrb, h.hwr⟩
  · rw [e2] at e; cases e
  · rw [e1, hl] at e; cases e
theorem TW.app (h : TW w g r b zs u n l K calls ld ap sto listed wx) (h0 : listed.getD ap true = false) (hc : ap ∉ calls) (hne : ap ≠ sto) (hl : listed.getD ld false = true) (hg : wx.grownBy w' u.ownBlock) : TW w g r b zs u n l K calls ld ap sto (listed.setIfInBounds ap true) w' := by
  have ha := getD_tfT h0
  have hs0 : listed.getD sto false = false := by
    cases e : listed.getD sto false
    · rfl
    · have := h.ls e; rw [ha.1] at this; cases this
  obtain ⟨p, q, t, h3, h4, h5⟩ := h.bx
  obtain ⟨k, hk, hs⟩ := h.st
  have hgr := h.hgr
  have hb := h.hrb
  have hw := h.hwr
  have e1 : (listed.setIfInBounds ap true).getD ap false = true := by rw [getD_set_self', if_pos ha.2]
  have e2 := getD_set_other (listed := listed) false hne
  refine ⟨⟨p, q, t, blk_grown h3 hg (fun e => by have := (h.ua _ e.symm).1; omega), ?_, ?_⟩, ⟨k, by rw [remL_set hc]; exact hk, hs.grown hg (fun i hi => by have := (h.ua i hi).1; omega)⟩, blk_grown h.rs hg (fun e => by have := (h.ua _ e.symm).1; omega), grown_own h.gr hg (fun i hi => by have := (h.ua i hi).1; omega), ?_, fun i hi => ⟨(h.ua i hi).1, Nat.lt_of_lt_of_le (h.ua i hi).2 hg.size⟩, fun _ => getD_mono hl, ?_, Nat.le_trans h.sz hg.size, h.hgr, h.hrb, h.hwr⟩
  · rw [e2, hs0]; intro e; cases e
  · rw [e2]; exact h5
  · rw [e1]; intro e; cases e
  · rw [e2, hs0]; intro e; cases e
theorem TW.fin (h : TW w g r b zs u n l K calls ld ap sto listed wx) (hs : listed.getD sto false = true) : ∃ p q t l' k, k ≤ K ∧ D4 w g r b zs t (n + 1) l' k p q wx := by
  obtain ⟨p, q, t, h3, h4, h5⟩ := h.bx
  obtain ⟨k, hk, hst⟩ := h.st
  obtain ⟨l', hl⟩ := h4 hs
  exact ⟨p, q, t, l', k, by omega, hl, h3, h.rs, hst, h.gr, h.hgr, h.hrb, h.hwr⟩
end
theorem cond_set2 {C : Nat → World → Value → Prop} {w w1 : World} {listed : Array Bool} {xs : Nat → Value} {i : Nat} {v : Value} (hC : ∀ j, listed.getD j false = true → C j w (xs j)) (hm : ∀ j v, j ≠ i → C j w v → C j w1 v) (hv : C i w1 v) :
    ∀ j, (listed.setIfInBounds i true).getD j false = true → C j w1 (updV xs i v j) := fun j hj => by
  unfold updV
  by_cases h : j = i
  · rw [if_pos h, h]; exact hv
  · rw [getD_set_other _ (fun e => h e.symm)] at hj
    rw [if_neg h]; exact hm _ _ h (hC j hj)
end Go.Proofs.YtklggnglaeagpaaGreatDoor
