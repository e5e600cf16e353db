import Derived.Test.YtklggnglaeagpaaGreatDoorRMkReg
import Derived.Test.YtklggnglaeagpaaGreatDoorRSigD
import Derived.Test.YtklggnglaeagpaaGreatDoorRSortS
/- The stream's signals: the closure put. Printed by wip/gensigm.py. -/
namespace Go.Proofs.YtklggnglaeagpaaGreatDoor
open Go.RowKit Go.Shelf Go.Lib Go.Sort
open Go.Maps (Keyed string_keyed)
open Go.WideMaps (keyOf_string_mk)
set_option linter.unusedVariables false

theorem mi_ne {w : World} {b n : Nat} {D : DataW Unit} (h : MI w b n D) {z : Nat} {cs : Array Value} {e : TypeId} (hz : w.heap[z]? = some (.cells cs e (0, 0))) : z ≠ b := by
  obtain ⟨es, clock, hb, _⟩ := h
  intro e2; subst e2
  rw [hz] at hb; cases hb
/-- where the captured variables lie -/
structure SO (w : World) (g p1 p2 pm p3 base : Nat) : Prop where
  g0 : g < w.heap.size
  o1 : w.heap.size ≤ p1
  o2 : p1 < p2
  o3 : p2 < pm
  o4 : pm < p3
  o5 : p3 < base
  o6 : base ≤ p3 + 1
/-- signals under way -/
structure SK (w : World) (g : Nat) (zs : Zs) (p1 p2 pm p3 base : Nat) (u : Value) (acc : List Sg) (kk q : Nat) (wr : World) : Prop where
  st : St wr g zs kk
  b1 : wr.heap[p1]? = some (.cells #[.pointer (some ⟨g, 0, none⟩)] 23 (0, 0))
  b2 : wr.heap[p2]? = some (.cells #[u] 50 (0, 0))
  b3 : wr.heap[p3]? = some (.cells #[.map (some pm)] 191 (0, 0))
  mp : ∃ D, MI wr pm q D
  own : wr.ownsRow base 55 6 u acc.length (acc.flatMap sgE)
  gr : w.grownBy wr (some g)
section
variable {w wr w' : World} {g : Nat} {zs : Zs} {p1 p2 pm p3 base : Nat} {u : Value} {acc : List Sg} {kk q : Nat}
theorem SK.grown (hO : SO w g p1 p2 pm p3 base) (h : SK w g zs p1 p2 pm p3 base u acc kk q wr) {k1 : Nat} (s : St w' g zs k1) (hg : wr.grownBy w' (some g)) : SK w g zs p1 p2 pm p3 base u acc k1 q w' := by
  obtain ⟨g0, o1, o2, o3, o4, o5, o6⟩ := hO
  obtain ⟨D, hm⟩ := h.mp
  exact ⟨s, blk_grown h.b1 hg (fun e => by injection e; omega), blk_grown h.b2 hg (fun e => by injection e; omega), blk_grown h.b3 hg (fun e => by injection e; omega), ⟨D, hm.kept hg (fun e => by injection e; omega)⟩, own_keep h.own (by omega) hg, grown_trans h.gr hg⟩
theorem SK.below (h : SK w g zs p1 p2 pm p3 base u acc kk q wr) (hB : Below wr.heap.size wr w') : SK w g zs p1 p2 pm p3 base u acc kk q w' := by
  obtain ⟨D, hm⟩ := h.mp
  exact ⟨h.st.below hB, blk_below h.b1 hB, blk_below h.b2 hB, blk_below h.b3 hB, ⟨D, hm.kept (row := none) (grown_of_below hB) (by simp)⟩, own_below h.own hB, grown_trans h.gr (grown_of_below hB)⟩
theorem SK.alloc (h : SK w g zs p1 p2 pm p3 base u acc kk q wr) (o : Obj) : SK w g zs p1 p2 pm p3 base u acc kk q (wr.alloc o) := h.below (below_new wr o)
theorem SK.drew (h : SK w g zs p1 p2 pm p3 base u acc kk q wr) : SK w g zs p1 p2 pm p3 base u acc kk q wr.drew := h.below (below_drewN (Below.refl _ _) 1)
/-- a block of the call's own, above the others, is written -/
theorem SK.other (hO : SO w g p1 p2 pm p3 base) (h : SK w g zs p1 p2 pm p3 base u acc kk q wr) {z : Nat} {cs : Array Value} {e : TypeId} (hz : wr.heap[z]? = some (.cells cs e (0, 0))) (hb : p3 < z) (hn : u.ownBlock = none ∨ u.ownBlock ≠ some z) (hg : wr.grownBy w' (some z)) : SK w g zs p1 p2 pm p3 base u acc kk q w' := by
  obtain ⟨g0, o1, o2, o3, o4, o5, o6⟩ := hO
  obtain ⟨D, hm⟩ := h.mp
  exact ⟨h.st.grown hg (fun i e => by injection e; omega), blk_grown h.b1 hg (fun e => by injection e; omega), blk_grown h.b2 hg (fun e => by injection e; omega), blk_grown h.b3 hg (fun e => by injection e; omega), ⟨D, hm.kept hg (fun e => by injection e; omega)⟩, h.own.kept hg hn, grown_own h.gr hg (fun i e => by injection e; omega)⟩
theorem SK.mput (hO : SO w g p1 p2 pm p3 base) (h : SK w g zs p1 p2 pm p3 base u acc kk q wr) {q2 : Nat} {D : DataW Unit} (hm : MI w' pm q2 D) (hg : wr.grownBy w' (some pm)) : SK w g zs p1 p2 pm p3 base u acc kk q2 w' := by
  obtain ⟨g0, o1, o2, o3, o4, o5, o6⟩ := hO
  exact ⟨h.st.grown hg (fun i e => by injection e; omega), blk_grown h.b1 hg (fun e => by injection e; omega), blk_grown h.b2 hg (fun e => by injection e; omega), blk_grown h.b3 hg (fun e => by injection e; omega), ⟨D, hm⟩, h.own.kept hg (by
    cases hv : u.ownBlock with
    | none => exact .inl rfl
    | some b => exact .inr (fun e => by have := own_row_lt h.own b hv; injection e; omega)), grown_own h.gr hg (fun i e => by injection e; omega)⟩
theorem SK.app (hO : SO w g p1 p2 pm p3 base) (h : SK w g zs p1 p2 pm p3 base u acc kk q wr) {v' : Value} {x : Sg} (ho : w'.ownsRow base 55 6 v' (acc.length + 1) (acc.flatMap sgE ++ sgE x)) (hg : wr.grownBy w' u.ownBlock) : SK w g zs p1 p2 pm p3 base v' (acc ++ [x]) kk q (w'.setCell ⟨p2, 0, none⟩ v') := by
  obtain ⟨g0, o1, o2, o3, o4, o5, o6⟩ := hO
  obtain ⟨D, hm⟩ := h.mp
  have hu : ∀ i, u.ownBlock = some i → base ≤ i := own_row_lt h.own
  have h1 := blk_grown h.b1 hg (fun e => by have := hu _ e.symm; omega)
  have h2 := blk_grown h.b2 hg (fun e => by have := hu _ e.symm; omega)
  have h3 := blk_grown h.b3 hg (fun e => by have := hu _ e.symm; omega)
  have hg2 : w'.grownBy (w'.setCell ⟨p2, 0, none⟩ v') (some p2) := grown_setCell (grown_refl w' _) (p := ⟨p2, 0, none⟩) (.inl rfl) v'
  have ho2 : w'.ownsRow base 55 6 v' (acc ++ [x]).length ((acc ++ [x]).flatMap sgE) := by rw [← flat_snoc, List.length_append]; exact ho
  refine ⟨(h.st.grown hg (fun i e => by have := hu i e; omega)).setAt (b := p2) (o := 0) (by omega) v', blk_grown h1 hg2 (fun e => by injection e; omega), ?_, blk_grown h3 hg2 (fun e => by injection e; omega), ⟨D, (hm.kept hg (fun e => by have := hu _ e.symm; omega)).kept hg2 (fun e => by injection e; omega)⟩, ho2.kept hg2 (by
    cases hv : v'.ownBlock with
    | none => exact .inl rfl
    | some b => exact .inr (fun e => by have := own_row_lt ho2 b hv; injection e; omega)), grown_own (grown_own h.gr hg (fun i e => by have := hu i e; omega)) hg2 (fun i e => by injection e; omega)⟩
  rw [blk_set h2]; rfl
end
end Go.Proofs.YtklggnglaeagpaaGreatDoor

/- The stream's signals. Printed by wip/gensgn.py. -/
namespace Go.Proofs.YtklggnglaeagpaaGreatDoor
open Go.RowKit Go.Shelf Go.Lib Go.Sort
open Go.Maps (Keyed string_keyed)
open Go.WideMaps (keyOf_string_mk)
set_option linter.unusedVariables false

theorem sgDev_c (x y : Sg) (W : World) : Calls Tryz.prog 169 (#[.agg (sgE x).toArray, .agg (sgE y).toArray] ++ #[]) W fun e w' => e = .returned (.int .i64 (cmpB x.dev y.dev)) ∧ Below W.heap.size W w' ∧ W.drawn ≤ w'.drawn := by
  have hS := Lib.hid (fun W => show Calls Tryz.prog 170 #[.string x.dev, .string y.dev] W fun e w' => e = .returned (.int .i64 (cmpB x.dev y.dev)) ∧ W = w' from (Tryz.strings_Compare x.dev y.dev W).mono fun _ _ ⟨h1, h2⟩ => ⟨h1, h2.symm⟩)
  obtain ⟨a, b, c, d, f, t⟩ := x
  obtain ⟨a', b', c', d', f', t'⟩ := y
  dsimp only [sgE] at *
  generalize cmpB a a' = u at *
  have hb0 := heap_alloc_new W (.cells #[.string a, .int .i64 b, .int .i64 c, .int .i64 d, .int .i64 f, .int .i64 t] 55)
  have hb1 := blk_alloc hb0 (.cells #[.string a', .int .i64 b', .int .i64 c', .int .i64 d', .int .i64 f', .int .i64 t'] 55)
  have hb2 := heap_alloc_new (W.alloc (.cells #[.string a, .int .i64 b, .int .i64 c, .int .i64 d, .int .i64 f, .int .i64 t] 55)) (.cells #[.string a', .int .i64 b', .int .i64 c', .int .i64 d', .int .i64 f', .int .i64 t'] 55)
  rw [alloc_sizeS] at hb2
  have hBB := below_box (below_box (Below.refl ((W.alloc (.cells #[.string a, .int .i64 b, .int .i64 c, .int .i64 d, .int .i64 f, .int .i64 t] 55)).alloc (.cells #[.string a', .int .i64 b', .int .i64 c', .int .i64 d', .int .i64 f', .int .i64 t'] 55)).heap.size _))
  have hD : ((W.alloc (.cells #[.string a, .int .i64 b, .int .i64 c, .int .i64 d, .int .i64 f, .int .i64 t] 55)).alloc (.cells #[.string a', .int .i64 b', .int .i64 c', .int .i64 d', .int .i64 f', .int .i64 t'] 55)).drawn = W.drawn := rfl
  have z0 := (blk_facts hb1).1 0
  have y0 := (blk_facts hb2).1 0
  go_enter Tryz.func169, Tryz.ntmps169
  go_wp2_with (go_at_call 170; refine (hS.out _).mono ?_; rintro e w' ⟨rfl, rfl⟩)
  go_ret
  exact ⟨rfl, hBB, by rw [hD]; exact Nat.le_refl _⟩
/-- there is a signal of a start -/
def HasS (l : List Sg) : Prop := ∃ x ∈ l, x.kind = 1
theorem HasS.app {l : List Sg} (h : HasS l) (y : Sg) : HasS (l ++ [y]) := by
  obtain ⟨x, hx, e⟩ := h
  exact ⟨x, List.mem_append_left _ hx, e⟩
/-- MW1, and an element of the row is a start -/
def MW1k {α : Type} (w0 : World) (g : Nat) (zs : Zs) (TB : TypeId) (enc : α → List Value) (s base b n c : Nat) (K : Nat) (calls : List Nat) (listed : Array Bool) (w' : World) : Prop :=
  MW1 w0 g zs TB enc s base b n c K calls listed w' ∧ ∃ q0, q0 < n ∧ w'.cell? ⟨b, q0 * s + 2, none⟩ = some (.int .i64 1)
section
variable {α : Type} {w0 w' w1 : World} {g K i s base b n c : Nat} {zs : Zs} {calls : List Nat} {listed : Array Bool} {TB : TypeId} {enc : α → List Value} {ks : List Nat}
theorem flat6 (l : List Sg) (k : Nat) (x : Sg) (h : l[k]? = some x) : (l.flatMap sgE)[k * 6 + 2]? = some (.int .i64 x.kind) := (flat_atC sgE_len l k 2 x h (by decide)).trans rfl
theorem MW1k.start {k m : Nat} {l : List Sg} (hh : HasS l) (h : St w0 g zs k) (ho : w0.ownsRow base TB 6 (.slice (some ⟨b, 0, none⟩) n c) n (l.flatMap sgE)) (hl : l.length = n) (hK : k + 2 * calls.length ≤ K) : MW1k w0 g zs TB sgE 6 base b n c K calls (Array.replicate m false) w0.drew := by
  refine ⟨MW1.start h ho hl hK, ?_⟩
  obtain ⟨x, hx, e⟩ := hh
  obtain ⟨q, hq, rfl⟩ := List.getElem_of_mem hx
  have hq' : l[q]? = some l[q] := List.getElem?_eq_getElem hq
  refine ⟨q, by omega, ?_⟩
  have h2 : w0.cell? ⟨b, q * 6 + 2, none⟩ = some (.int .i64 1) := by
    rw [ho.cellAt _ (by omega), flat6 l q _ hq', e]
  exact h2
theorem MW1k.keep (h : MW1k w0 g zs TB enc s base b n c K calls listed w') (hi : i ∉ calls) : MW1k w0 g zs TB enc s base b n c K calls (listed.setIfInBounds i true) w' := ⟨h.1.keep hi, h.2⟩
theorem MW1k.alloc (h : MW1k w0 g zs TB enc s base b n c K calls listed w') (o : Obj) : MW1k w0 g zs TB enc s base b n c K calls listed (w'.alloc o) := by
  refine ⟨h.1.alloc o, ?_⟩
  obtain ⟨q, hq, hc⟩ := h.2
  exact ⟨q, hq, (World.cell?_of_block (Below.heap_alloc w' o b (World.block_lt_of_cell? w' _ hc))).trans hc⟩
theorem MW1k.call (hgb : g < base) (h : MW1k w0 g zs TB enc s base b n c K calls listed w') (h0 : listed.getD i true = false) (hi : i ∈ calls) (hn : calls.Nodup) : ∃ kk, St w' g zs kk ∧ kk + 2 ≤ K ∧ ∀ w1 k1, k1 ≤ kk + 2 → St w1 g zs k1 → w'.grownBy w1 (some g) → MW1k w0 g zs TB enc s base b n c K calls (listed.setIfInBounds i true) w1 := by
  obtain ⟨kk, a1, a2, a3⟩ := MW1.call hgb h.1 h0 hi hn
  obtain ⟨q, hq, hc⟩ := h.2
  have hb : base ≤ b := by
    obtain ⟨_, _, _, ho, _⟩ := h.1
    exact (ho.lt b rfl).1
  refine ⟨kk, a1, a2, fun w1 k1 b1 b2 b3 => ⟨a3 w1 k1 b1 b2 b3, q, hq, ?_⟩⟩
  exact (World.cell?_of_block (b3.block b (World.block_lt_of_cell? w' _ hc) (fun e => by injection e; omega))).trans hc
theorem MW1k.cell (h : MW1k w0 g zs TB enc s base b n c K calls listed w') {p : Addr} {v : Value} (hc : w0.cell? p = some v) (hne : p.block ≠ g) (hnb : p.block ≠ b) : w'.cell? p = some v := h.1.cell hc hne hnb
theorem MW1k.blk (h : MW1k w0 g zs TB enc s base b n c K calls listed w') : ∃ cs, w'.heap[b]? = some (.cells cs TB (0, 0)) := h.1.blk
theorem MW1k.load (hE : EncK enc ks) (hs : ks.length = s) (h : MW1k w0 g zs TB enc s base b n c K calls listed w') {q d : Nat} (hq : q < n) (hd : d < s) : ∃ v, w'.cell? ⟨b, q * s + d, none⟩ = some v ∧ okK (ks.getD d 9) v ∧ w'.frozen? ⟨b, q * s + d, none⟩ = false := MW1.load hE hs h.1 hq hd
theorem MW1k.store (hE : EncK enc ks) (hs : ks.length = s) (hgb : g < base) (h : MW1k w0 g zs TB enc s base b n c K calls listed w') {q d : Nat} (hq : q < n) (hd : d < s) {v : Value} (hv : okK (ks.getD d 9) v) (h6 : s = 6 := by rfl) (hd2 : d ≠ 2 := by decide) : MW1k w0 g zs TB enc s base b n c K calls listed (w'.setCell ⟨b, q * s + d, none⟩ v) := by
  refine ⟨MW1.store hE hs hgb h.1 hq hd hv, ?_⟩
  obtain ⟨q0, hq0, hc⟩ := h.2
  refine ⟨q0, hq0, ?_⟩
  subst h6
  exact (World.cell?_setCell_other w' _ _ v (by intro e; injection e with e1 e2 e3; omega)).trans hc
theorem MW1k.out {w : World} {g K base b n c : Nat} {zs : Zs} {calls : List Nat} {listed : Array Bool} {TB : TypeId} (h : MW1k w0 g zs TB sgE 6 base b n c K calls listed w') (hgr : w.grownBy w0 (some g)) (hb : w.heap.size ≤ base) : ∃ (kk : Nat) (l : List Sg), St w' g zs kk ∧ w'.ownsRow base TB 6 (.slice (some ⟨b, 0, none⟩) n c) n (l.flatMap sgE) ∧ l.length = n ∧ w.grownBy w' (some g) ∧ kk ≤ K ∧ HasS l := by
  obtain ⟨kk, l, a1, a2, a3, a4, a5⟩ := h.1.out hgr hb
  obtain ⟨q0, hq0, hc⟩ := h.2
  refine ⟨kk, l, a1, a2, a3, a4, a5, ?_⟩
  obtain ⟨x, hx⟩ := at_of_lt (l := l) (k := q0) (by omega)
  rw [a2.cellAt _ (by omega), flat6 l q0 x hx] at hc
  refine ⟨x, List.mem_of_getElem? hx, ?_⟩
  injection hc with hc
  injection hc
end
def sgDf (x y : Sg) : Int := cmpB x.dev y.dev
theorem sgSortM_c (l : List Sg) (w : World) (base n : Nat) (u : Value) (hown : w.ownsRow base 55 6 u n (l.flatMap sgE)) (hn : n ≤ 19) :
    Calls Tryz.prog 168 #[u, .func (.func 169) #[] #[]] w fun e w' => e = .returned (.tuple #[]) ∧ w'.ownsRow base 55 6 u n ((insL (ltOf sgDf) l).flatMap sgE) ∧ w.grownBy w' u.ownBlock := by
  obtain ⟨A, c, rfl⟩ := own_shape hown
  have hlen := own_len sgE_len (by decide) hown
  rcases Nat.eq_zero_or_pos n with h0 | hp
  · subst h0
    have hl : l = [] := List.eq_nil_of_length_eq_zero hlen
    subst hl
    refine (sgSort0_c A c _ w).mono ?_
    rintro e w' ⟨rfl, rfl⟩
    have h9 : insL (ltOf sgDf) ([] : List Sg) = [] := List.eq_nil_of_length_eq_zero (by rw [insL_len]; rfl)
    exact ⟨rfl, by rw [h9]; exact hown, grown_refl _ _⟩
  obtain ⟨gb, rfl, hgb⟩ := own_someN hown hp
  have eg : ∀ args w, (callFunc 169 args).run Tryz.prog w = .ok (.enter 169 args) w := enters_of Tryz.func169 (by kernel_rfl) rfl
  refine (sgSort_c sgE sgE_len (fun x v hv => by simp [sgE] at hv; rcases hv with rfl | rfl | rfl | rfl | rfl | rfl <;> rfl) sgDf _ _ eg base gb n c l w (fun m os dk hdk x y => ?_) hown hn).mono ?_
  · exact (sgDev_c x y _).mono fun _ _ ⟨he, hB, hD⟩ => ⟨he, grow_of hB hD⟩
  · rintro e w' ⟨rfl, ho, hg⟩
    exact ⟨rfl, ho, hg⟩
end Go.Proofs.YtklggnglaeagpaaGreatDoor
