import Derived.Test.YtcdnjehkkbnfbaaGreatDoorLapE
import Derived.Laws.EntriesVeiled
/- tumbref1.standing: all choices are tried in order. -/
namespace Go.Proofs.YtcdnjehkkbnfbaaGreatDoor
open Go.RowKit Go.Lib
set_option linter.unusedVariables false

/-- the variables that the search captures, in order; the best choice so far -/
structure KT (w : World) (p : Nat) (N M m : Nat) (Ae : Option Addr) (ce : Nat) (Ag : Option Addr) (cg : Nat) (last : Int) (best : List Int) (least : Int) (wx : World) : Prop where
  bE : wx.heap[p]? = some (.cells #[.slice Ae M ce] 22 (0, 0))
  bN : wx.heap[p + 1]? = some (.cells #[.int .i64 N] 3 (0, 0))
  bT : wx.heap[p + 1 + 1]? = some (.cells #[.slice Ag m cg] 22 (0, 0))
  bM : wx.heap[p + 1 + 1 + 1]? = some (.cells #[.int .i64 m] 3 (0, 0))
  bL : wx.heap[p + 1 + 1 + 1 + 1]? = some (.cells #[.int .i64 last] 3 (0, 0))
  bB : ∃ Ab cb, wx.heap[p + 1 + 1 + 1 + 1 + 1]? = some (.cells #[.slice Ab best.length cb] 22 (0, 0)) ∧ RI 3 wx Ab best.length best ∧ (∀ b o s, Ab = some ⟨b, o, s⟩ → p + 8 ≤ b)
  bS : wx.heap[p + 1 + 1 + 1 + 1 + 1 + 1]? = some (.cells #[.int .i64 least] 3 (0, 0))
  bF : wx.heap[p + 1 + 1 + 1 + 1 + 1 + 1 + 1]? = some (.cells #[.func (.func 218) #[] #[.pointer (some ⟨p + 1 + 1 + 1, 0, none⟩), .pointer (some ⟨p + 1 + 1 + 1 + 1 + 1 + 1, 0, none⟩), .pointer (some ⟨p + 1, 0, none⟩), .pointer (some ⟨p + 1 + 1 + 1 + 1 + 1, 0, none⟩), .pointer (some ⟨p, 0, none⟩), .pointer (some ⟨p + 1 + 1, 0, none⟩), .pointer (some ⟨p + 1 + 1 + 1 + 1, 0, none⟩), .pointer (some ⟨p + 1 + 1 + 1 + 1 + 1 + 1 + 1, 0, none⟩)]] 272 (0, 0))
  bel : Below w.heap.size w wx
  wp : w.heap.size ≤ p
theorem cell_set_ne {w : World} {b b' o o' : Nat} {v u : Value} (h : w.cell? ⟨b, o, none⟩ = some u) (hne : b ≠ b') : (w.setCell ⟨b', o', none⟩ v).cell? ⟨b, o, none⟩ = some u := (World.cell?_of_block (Below.heap_setCell w ⟨b', o', none⟩ v b hne)).trans h
/-- two of the variables may turn, nothing else that was there -/
structure FB (p : Nat) (wx w' : World) : Prop where
  os : w'.os = wx.os
  tape : w'.tape = wx.tape
  output : w'.output = wx.output
  size : wx.heap.size ≤ w'.heap.size
  block : ∀ i, i < wx.heap.size → i ≠ p + 1 + 1 + 1 + 1 + 1 → i ≠ p + 1 + 1 + 1 + 1 + 1 + 1 → w'.heap[i]? = wx.heap[i]?
theorem FB.of_below {p : Nat} {wx w' : World} (h : Below wx.heap.size wx w') : FB p wx w' := ⟨h.os, h.tape, h.output, h.size, fun i hi _ _ => h.block i hi⟩
theorem FB.trans {p : Nat} {a b c : World} (h : FB p a b) (k : FB p b c) : FB p a c := ⟨k.os.trans h.os, k.tape.trans h.tape, k.output.trans h.output, Nat.le_trans h.size k.size, fun i hi h1 h2 => (k.block i (Nat.lt_of_lt_of_le hi h.size) h1 h2).trans (h.block i hi h1 h2)⟩
section
variable {w wx w' : World} {p N M m : Nat} {Ae : Option Addr} {ce : Nat} {Ag : Option Addr} {cg : Nat} {last : Int} {best : List Int} {least : Int}
theorem KT.below (h : KT w p N M m Ae ce Ag cg last best least wx) (hb : Below wx.heap.size wx w') : KT w p N M m Ae ce Ag cg last best least w' := by
  obtain ⟨Ab, cb, h1, h2, h3⟩ := h.bB
  exact ⟨blk_below h.bE hb, blk_below h.bN hb, blk_below h.bT hb, blk_below h.bM hb, blk_below h.bL hb, ⟨Ab, cb, blk_below h1 hb, h2.below hb, h3⟩, blk_below h.bS hb, blk_below h.bF hb, below_next h.bel hb, h.wp⟩
/-- a row that the two variables leave alone -/
theorem FB.row {A : Option Addr} {n : Nat} {l : List Int} (h : RI 3 wx A n l) (hf : FB p wx w') (ha : ∀ b o s, A = some ⟨b, o, s⟩ → p + 8 ≤ b) : RI 3 w' A n l := by
  obtain ⟨h1, h2, h3⟩ := h
  refine ⟨h1, h2, fun hp => ?_⟩
  obtain ⟨b, off, cs, fr, e1, e2, e3⟩ := h3 hp
  refine ⟨b, off, cs, fr, e1, ?_, e3⟩
  have := ha b off none e1
  rw [hf.block b (lt_of_heap e2) (by omega) (by omega)]
  exact e2
/-- a better choice -/
theorem KT.put (h : KT w p N M m Ae ce Ag cg last best least wx) {b n c : Nat} {l : List Int} (hr : RI 3 wx (some ⟨b, 0, none⟩) n l) (hb : p + 8 ≤ b) (s : Int) : KT w p N M m Ae ce Ag cg last l s ((wx.setCell ⟨p + 1 + 1 + 1 + 1 + 1, 0, none⟩ (.slice (some ⟨b, 0, none⟩) n c)).setCell ⟨p + 1 + 1 + 1 + 1 + 1 + 1, 0, none⟩ (.int .i64 s)) ∧ FB p wx ((wx.setCell ⟨p + 1 + 1 + 1 + 1 + 1, 0, none⟩ (.slice (some ⟨b, 0, none⟩) n c)).setCell ⟨p + 1 + 1 + 1 + 1 + 1 + 1, 0, none⟩ (.int .i64 s)) := by
  have hf : FB p wx ((wx.setCell ⟨p + 1 + 1 + 1 + 1 + 1, 0, none⟩ (.slice (some ⟨b, 0, none⟩) n c)).setCell ⟨p + 1 + 1 + 1 + 1 + 1 + 1, 0, none⟩ (.int .i64 s)) := ⟨rfl, rfl, rfl, by simp [World.setCell], fun i hi h1 h2 => (Below.heap_setCell _ ⟨p + 1 + 1 + 1 + 1 + 1 + 1, 0, none⟩ _ i h2).trans (Below.heap_setCell _ ⟨p + 1 + 1 + 1 + 1 + 1, 0, none⟩ _ i h1)⟩
  refine ⟨?_, hf⟩
  obtain ⟨Ab, cb, h1, h2, h3⟩ := h.bB
  have ho : ∀ {i : Nat} {o : Obj}, wx.heap[i]? = some o → i ≠ p + 1 + 1 + 1 + 1 + 1 → i ≠ p + 1 + 1 + 1 + 1 + 1 + 1 → _ := fun {i o} hi n1 n2 => (hf.block i (lt_of_heap hi) n1 n2).trans hi
  have hln := hr.len
  subst hln
  refine ⟨ho h.bE (by omega) (by omega), ho h.bN (by omega) (by omega), ho h.bT (by omega) (by omega), ho h.bM (by omega) (by omega), ho h.bL (by omega) (by omega), ⟨some ⟨b, 0, none⟩, c, ?_, FB.row hr hf (fun b' o' s' e => by injection e with e; injection e with e; omega), fun b' o' s' e => by injection e with e; injection e with e; omega⟩, ?_, ho h.bF (by omega) (by omega), ?_, h.wp⟩
  · exact blk_other (blk_set h1 0 _) (p := ⟨p + 1 + 1 + 1 + 1 + 1 + 1, 0, none⟩) (by show p + 1 + 1 + 1 + 1 + 1 ≠ p + 1 + 1 + 1 + 1 + 1 + 1; omega) _
  · exact blk_set (blk_other h.bS (p := ⟨p + 1 + 1 + 1 + 1 + 1, 0, none⟩) (by show p + 1 + 1 + 1 + 1 + 1 + 1 ≠ p + 1 + 1 + 1 + 1 + 1; omega) _) 0 _
  · have := h.wp
    exact ⟨h.bel.os, h.bel.tape, h.bel.output, by simpa [World.setCell] using h.bel.size, fun i hi => (hf.block i (by have := h.bel.size; omega) (by omega) (by omega)).trans (h.bel.block i hi)⟩
end
set_option maxHeartbeats 6400000 in
set_option maxRecDepth 100000 in
theorem try_c (w : World) (p N M m : Nat) (Ae : Option Addr) (ce : Nat) (E : List Int) (Ag : Option Addr) (cg : Nat) (G : List Int) (he : RI 3 w Ae M E) (hg : RI 3 w Ag m G) (hm : 1 ≤ m ∧ m ≤ M) (hM : M ≤ 16) (hN : 1 ≤ N ∧ N ≤ 16) (hG : ∀ x ∈ G, 0 ≤ x ∧ x ≤ 1000000000) (hE : ∀ x ∈ E, 0 ≤ x ∧ x ≤ 16) :
    ∀ (d t e : Nat) (at_ : List Int) (At : Option Addr) (cA : Nat) (sum : Int) (best : List Int) (least : Int) (wx : World), t + d + 1 = m → at_.length = t → KT w p N M m Ae ce Ag cg (G.getD (m - 1) 0) best least wx → RI 3 wx At t at_ → (∀ b o s, At = some ⟨b, o, s⟩ → p + 8 ≤ b) → p + 8 ≤ wx.heap.size → (0 ≤ sum ∧ sum ≤ t * 1099511627776) →
    Calls Tryz.prog 218 #[.int .i64 e, .slice At t cA, .int .i64 sum, .pointer (some ⟨p + 1 + 1 + 1, 0, none⟩), .pointer (some ⟨p + 1 + 1 + 1 + 1 + 1 + 1, 0, none⟩), .pointer (some ⟨p + 1, 0, none⟩), .pointer (some ⟨p + 1 + 1 + 1 + 1 + 1, 0, none⟩), .pointer (some ⟨p, 0, none⟩), .pointer (some ⟨p + 1 + 1, 0, none⟩), .pointer (some ⟨p + 1 + 1 + 1 + 1, 0, none⟩), .pointer (some ⟨p + 1 + 1 + 1 + 1 + 1 + 1 + 1, 0, none⟩)] wx fun e' w' => e' = .returned (.tuple #[]) ∧ KT w p N M m Ae ce Ag cg (G.getD (m - 1) 0) (LP.tr (offG G E N m) E N (M - 1 - e) d t e at_ sum (best, least)).1 (LP.tr (offG G E N m) E N (M - 1 - e) d t e at_ sum (best, least)).2 w' ∧ FB p wx w' := by
  generalize hlast : G.getD (m - 1) 0 = last
  have hlast := Lib.hid hlast
  intro d
  induction d with
  | zero =>
    intro t e at_ At cA sum best least wx hd hal hK hat hab hsz hsum
    have hd1 : t + 1 ≤ m ∧ m ≤ t + 1 := by omega
    have hU := Lib.hid (show LP.tr (offG G E N m) E N (M - 1 - e) 0 t e at_ sum (best, least) = LP.upd (best, least) (at_ ++ [(N : Int)]) sum by cases (M - 1 - e) <;> rfl)
    generalize LP.tr (offG G E N m) E N (M - 1 - e) 0 t e at_ sum (best, least) = TR at *
    have z0 := (blk_facts hK.bM).1 0
    have z1 := (blk_facts hK.bS).1 0
    have z2 := (blk_facts hK.bN).1 0
    obtain ⟨Ab, cb, hbB, _, _⟩ := hK.bB
    have z3 := (blk_facts hbB).1 0
    have f1 := (blk_facts hK.bS).2 0
    have f3 := (blk_facts hbB).2 0
    have hmt : ((t : Int) == (m : Int) - 1) = true := by rw [beq_iff_eq]; omega
    have hmt2 : (m : Int) - 1 = (t : Int) := by omega
    by_cases hbt : least < 0 ∨ sum < least
    · have hU2 := Lib.hid (show TR = (at_ ++ [(N : Int)], sum) by rw [hU.out]; unfold LP.upd; rw [if_pos hbt])
      have hCl := Lib.hid (fun W (h : RI 3 W At t at_) => clone_c At t cA at_ W h (by omega))
      have hp9 := hK.wp
      have r1 : RI 3 wx.drew At t at_ := hat
      have r2 : RI 3 (wx.alloc (.cells #[.int .i64 N] 3)).drew At t at_ := hat.alloc _
      have zA := (blk_facts (blk_alloc hK.bN (.cells #[.int .i64 N] 3))).1 0
      have hor : least < 0 ∨ (¬ least < 0 ∧ sum < least) := by omega
      obtain ⟨i0, hi0, hz0, hz1, hz2⟩ := info_parts info_int
      have hB1 : Below wx.heap.size wx wx.drew := below_drewN (Below.refl _ _) 1
      have hB2 : Below wx.heap.size wx (wx.alloc (.cells #[.int .i64 N] 3)).drew := below_drewN (below_new wx _) 1
      have hsz1 : wx.heap.size ≤ wx.drew.heap.size := Nat.le_refl _
      have hsz2 : wx.heap.size ≤ (wx.alloc (.cells #[.int .i64 N] 3)).drew.heap.size := hB2.size
      have hsz3 := hsz2
      clear hU hbt hd
      rcases hor with hlt | ⟨hlt, hlt2⟩
      all_goals
        go_enter Tryz.func218, Tryz.ntmps218
        go_wp2_with fail
        go_region_held3 (fun w' => w'.cell? ⟨p + 1, 0, none⟩ = some (.int .i64 N)) (first | with_reducible exact z2 | with_reducible exact zA | with_reducible exact zB | with_reducible exact zB1 | with_reducible exact zC | exact cell_set_ne zC (by omega) | exact cell_set_ne (cell_set_ne zC (by omega)) (by omega) | go_keep)
          (first
            | (go_at_call 89; refine (hCl.out _ r1).mono ?_; rintro e' w5 ⟨A5, c5, rfl, ho5, B5⟩; replace B5 := hB1.trans (B5.mono (Nat.le_refl _)); have hz5 := B5.size; replace ho5 := own_mono ho5 hsz1; have zB := (blk_facts (hK.below B5).bN).1 0; have zB1 := (blk_facts (blk_alloc (hK.below B5).bN (.cells #[.int .i64 N] 3))).1 0)
            | (go_at_call 89; refine (hCl.out _ r2).mono ?_; rintro e' w5 ⟨A5, c5, rfl, ho5, B5⟩; have hl5 := blk_below (w := (wx.alloc (.cells #[.int .i64 N] 3)).drew) (heap_alloc_new wx (.cells #[.int .i64 N] 3)) B5; replace B5 := hB2.trans (B5.mono hsz3); have hz5 := B5.size; replace ho5 := own_mono ho5 hsz2; have zB := (blk_facts (hK.below B5).bN).1 0)
            | (refine step_append_lies _ (by rfl) _ _ _ (by rfl) wx.heap.size 3 i0 _ 1 8 Tryz.underlying22 hi0 hz0 hz1 hz2 rfl (by omega) (.slice A5 t c5) t (ints at_) (by rfl) (ho5.alloc _) ⟨w5.heap.size, 0, none⟩ 1 1 [.int .i64 N] (by rfl) (by rfl) (World.news_of_block (cs := #[.int .i64 N]) (t := 3) (fr := (0, 0)) (heap_alloc_new w5 _)) (by simp [Value.oneCell']) (by omega) (by unfold maxLen; omega) (by omega) (by simp; omega) (w5.heap.size + 1) (by simp) ?_; intro gg cap w7 hown7 hgrow hat7 hlt7; have B7 := below_own (a := wx) (B := wx.heap.size) (B5.alloc B5.size _) (ho5.alloc _) hgrow (by simp; have := B5.size; omega) (Nat.le_refl _); have K7 := hK.below B7; have z71 := (blk_facts K7.bS).1 0; have f71 := (blk_facts K7.bS).2 0; obtain ⟨Ab7, cb7, hbB7, _, _⟩ := K7.bB; have z73 := (blk_facts hbB7).1 0; have f73 := (blk_facts hbB7).2 0; have zC := (blk_facts K7.bN).1 0)
            | (refine step_append_lies _ (by rfl) _ _ _ (by rfl) wx.heap.size 3 i0 _ 1 8 Tryz.underlying22 hi0 hz0 hz1 hz2 rfl (by omega) (.slice A5 t c5) t (ints at_) (by rfl) ho5 ⟨wx.heap.size, 0, none⟩ 1 1 [.int .i64 N] (by rfl) (by rfl) (World.news_of_block (cs := #[.int .i64 N]) (t := 3) (fr := (0, 0)) hl5) (by simp [Value.oneCell']) (by omega) (by unfold maxLen; omega) (by omega) (by first | omega | (simp; omega)) (w5.heap.size) (by first | rfl | simp) ?_; intro gg cap w7 hown7 hgrow hat7 hlt7; have B7 := below_own (a := wx) (B := wx.heap.size) B5 ho5 hgrow B5.size (Nat.le_refl _); have K7 := hK.below B7; have z71 := (blk_facts K7.bS).1 0; have f71 := (blk_facts K7.bS).2 0; obtain ⟨Ab7, cb7, hbB7, _, _⟩ := K7.bB; have z73 := (blk_facts hbB7).1 0; have f73 := (blk_facts hbB7).2 0; have zC := (blk_facts K7.bN).1 0))
        all_goals
          have hr7 : RI 3 w7 (some ⟨gg, 0, none⟩) (t + 1) (at_ ++ [(N : Int)]) := R1.of_own (c := cap) (by have := hown7; rw [show ints at_ ++ [Value.int .i64 (N : Int)] = (at_ ++ [(N : Int)]).map (Value.int .i64) by rw [List.map_append]; rfl] at this; exact this) (by omega)
          have hgb := own_row_lt hown7 gg rfl
          have hPut := K7.put (c := cap) hr7 (by omega) sum
          clear hown7 hgrow hat7 hlt7
          go_wp2
          refine bodyPost_ret (results_none rfl _ _ _) rfl ?_
          refine ⟨rfl, ?_, (FB.of_below B7).trans hPut.2⟩
          rw [hU2.out]
          exact hPut.1
    · have hU2 := Lib.hid (show TR = (best, least) by rw [hU.out]; unfold LP.upd; rw [if_neg hbt])
      have h1 : ¬ least < 0 := fun h => hbt (.inl h)
      have h2 : ¬ sum < least := fun h => hbt (.inr h)
      clear hU hbt
      go_enter Tryz.func218, Tryz.ntmps218
      go_wp2
      refine bodyPost_ret (results_none rfl _ _ _) rfl ?_
      exact ⟨rfl, by rw [hU2.out]; exact hK, FB.of_below (Below.refl _ _)⟩
  | succ d ih =>
    intro t e at_ At cA sum best least wx hd hal hK hat hab hsz hsum
    have hd1 : t + d + 2 ≤ m ∧ m ≤ t + d + 2 := by omega
    have hTs := Lib.hid (fun f i st => show LP.tr (offG G E N m) E N (f + 1) (d + 1) t i at_ sum st = LP.tr (offG G E N m) E N f (d + 1) t (i + 1) at_ sum (LP.tr (offG G E N m) E N f d (t + 1) (i + 1) (at_ ++ [E.getD i 0]) (sum + offG G E N m t i) st) from rfl)
    have hT0 := Lib.hid (fun i st => show LP.tr (offG G E N m) E N 0 (d + 1) t i at_ sum st = st from rfl)
    have hIH := Lib.hid (fun (i : Nat) (ei g0 : Int) (hei : E[i]? = some ei) (hg0 : G[t]? = some g0) (b : List Int) (l : Int) (gb cap : Nat) (W : World) (h1 : KT w p N M m Ae ce Ag cg last b l W) (h2 : RI 3 W (some ⟨gb, 0, none⟩) (t + 1) (at_ ++ [ei])) (h3 : p + 8 ≤ gb) (h4 : p + 8 ≤ W.heap.size) =>
      show Calls Tryz.prog 218 #[.int .i64 ((i : Int) + 1), .slice (some ⟨gb, 0, none⟩) (t + 1) cap, .int .i64 (sum + max (g0 - (last * ei).tdiv N) (-(g0 - (last * ei).tdiv N))), .pointer (some ⟨p + 1 + 1 + 1, 0, none⟩), .pointer (some ⟨p + 1 + 1 + 1 + 1 + 1 + 1, 0, none⟩), .pointer (some ⟨p + 1, 0, none⟩), .pointer (some ⟨p + 1 + 1 + 1 + 1 + 1, 0, none⟩), .pointer (some ⟨p, 0, none⟩), .pointer (some ⟨p + 1 + 1, 0, none⟩), .pointer (some ⟨p + 1 + 1 + 1 + 1, 0, none⟩), .pointer (some ⟨p + 1 + 1 + 1 + 1 + 1 + 1 + 1, 0, none⟩)] W fun e' w' => e' = .returned (.tuple #[]) ∧ KT w p N M m Ae ce Ag cg last (LP.tr (offG G E N m) E N (M - 1 - (i + 1)) d (t + 1) (i + 1) (at_ ++ [E.getD i 0]) (sum + offG G E N m t i) (b, l)).1 (LP.tr (offG G E N m) E N (M - 1 - (i + 1)) d (t + 1) (i + 1) (at_ ++ [E.getD i 0]) (sum + offG G E N m t i) (b, l)).2 w' ∧ FB p W w' by
        have hob := offG_bd (N := (N : Int)) (m := m) hG hE (by omega) t i
        have e1 : offG G E N m t i = max (g0 - (last * ei).tdiv N) (-(g0 - (last * ei).tdiv N)) := by unfold offG; rw [getD_ofI hei, getD_ofI hg0, hlast.out]
        rw [getD_ofI hei, ← e1]
        exact ih (t + 1) (i + 1) (at_ ++ [ei]) (some ⟨gb, 0, none⟩) cap _ b l W (by omega) (by rw [List.length_append, hal]; rfl) h1 h2 (fun b' o' s' e => by injection e with e; injection e with e; omega) h4 (by
          have : ((t + 1 : Nat) : Int) * 1099511627776 = (t : Int) * 1099511627776 + 1099511627776 := by omega
          omega))
    have hlb : 0 ≤ last ∧ last ≤ 1000000000 := by rw [← hlast.out]; exact getD_bd (by omega) hG _
    have hCl := Lib.hid (fun W (h : RI 3 W At t at_) => clone_c At t cA at_ W h (by omega))
    obtain ⟨i0, hi0, hz0, hz1, hz2⟩ := info_parts info_int
    have hmt : ((t : Int) == (m : Int) - 1) = false := by rw [beq_eq_false_iff_ne]; omega
    have z0 := (blk_facts hK.bM).1 0
    clear ih hd
    have hF0 : FB p wx wx := FB.of_below (Below.refl _ _)
    go_enter Tryz.func218, Tryz.ntmps218
    go_wp2_with fail
    go_loopw [14] (fun iv wr => ∃ (i : Nat) (b : List Int) (l : Int), iv = .int .i64 i ∧ KT w p N M m Ae ce Ag cg last b l wr ∧ FB p wx wr ∧ Hid (LP.tr (offG G E N m) E N (M - 1 - i) (d + 1) t i at_ sum (b, l) = LP.tr (offG G E N m) E N (M - 1 - e) (d + 1) t e at_ sum (best, least))) (fun iv _ => M - (intOf iv).toNat)
    case atStart => exact ⟨e, best, least, rfl, hK, hF0, Lib.hid rfl⟩
    case round =>
      clear hK hF0 z0
      obtain ⟨i, b, l, rfl, hK, hF, hT⟩ := hrel
      have zE := (blk_facts hK.bE).1 0
      by_cases hlt : i < M - 1
      · have zN := (blk_facts hK.bN).1 0
        have zT := (blk_facts hK.bT).1 0
        have zL := (blk_facts hK.bL).1 0
        have zF := (blk_facts hK.bF).1 0
        have rE := he.below hK.bel
        have rG := hg.below hK.bel
        obtain ⟨bG, oG, g0, rfl, lG, hg0, cg0⟩ := rG.at_ (k := t) (by omega)
        obtain ⟨bE, oE, ei, rfl, lE, hei, cei⟩ := rE.at_ (k := i) (by omega)
        have g0b := hG g0 (List.mem_of_getElem? hg0)
        have eib := hE ei (List.mem_of_getElem? hei)
        obtain ⟨⟨p1, p2⟩, p3, p4⟩ := off_parts g0b hlb eib (N := (N : Int)) (by omega)
        have lE0 : bE < w.heap.size := by
          obtain ⟨b9, o9, x9, e9, l9, _⟩ := he.at_ (k := i) (by omega)
          injection e9 with e9
          injection e9 with e9
          omega
        have hwp := hK.wp
        have hbE5 : bE ≠ p + 1 + 1 + 1 + 1 + 1 := by omega
        have hbE6 : bE ≠ p + 1 + 1 + 1 + 1 + 1 + 1 := by omega
        have hIH2 := Lib.hid (fun gb cap W h1 h2 h3 h4 => hIH.out i ei g0 hei hg0 b l gb cap W h1 h2 h3 h4)
        have hat4 := FB.row hat hF hab
        have hsz4 : p + 8 ≤ wr.heap.size := Nat.le_trans hsz hF.size
        have hil : (i : Int) < (M : Int) - 1 := by omega
        have hil2 : (i : Int) < (M : Int) := by omega
        have hn0 : ((N : Int) == 0) = false := by rw [beq_eq_false_iff_ne]; omega
        have u1 : IntKind.i64.wrap (last * ei) = last * ei := IntWalk.i64_in _ (by omega)
        have htm : (t : Int) < (m : Int) := by omega
        clear hIH hg0 hei hat rE rG
        go_wp2
        go_quiet (fail)
        go_wp2_with fail
        rename Nat => nq
        have KQ := hK.below (below_drewN (Below.refl wr.heap.size wr) nq)
        have FQ := hF.trans (FB.of_below (below_drewN (Below.refl wr.heap.size wr) nq))
        have hatQ := hat4.below (below_drewN (Below.refl wr.heap.size wr) nq)
        have hszQ : p + 8 ≤ (wr.drewN nq).heap.size := hsz4
        have ceQ : (wr.drewN nq).cell? ⟨bE, oE + i, none⟩ = some (.int .i64 ei) := cei
        have lEQ : bE < (wr.drewN nq).heap.size := lE
        generalize wr.drewN nq = wq at *
        have hS3 : ∀ w', Below wq.heap.size wq w' → w'.cell? ⟨p + 1 + 1 + 1 + 1 + 1 + 1 + 1, 0, none⟩ = some (.func (.func 218) #[] #[.pointer (some ⟨p + 1 + 1 + 1, 0, none⟩), .pointer (some ⟨p + 1 + 1 + 1 + 1 + 1 + 1, 0, none⟩), .pointer (some ⟨p + 1, 0, none⟩), .pointer (some ⟨p + 1 + 1 + 1 + 1 + 1, 0, none⟩), .pointer (some ⟨p, 0, none⟩), .pointer (some ⟨p + 1 + 1, 0, none⟩), .pointer (some ⟨p + 1 + 1 + 1 + 1, 0, none⟩), .pointer (some ⟨p + 1 + 1 + 1 + 1 + 1 + 1 + 1, 0, none⟩)]) ∧ w'.cell? ⟨p, 0, none⟩ = some (.slice (some ⟨bE, oE, none⟩) M ce) ∧ w'.cell? ⟨bE, oE + i, none⟩ = some (.int .i64 ei) := fun w' B => ⟨(blk_facts (KQ.below B).bF).1 0, (blk_facts (KQ.below B).bE).1 0, by rw [B.cell (p := ⟨bE, oE + i, none⟩) lEQ]; exact ceQ⟩
        have hS8 : ∀ b' l' w', KT w p N M m (some ⟨bE, oE, none⟩) ce (some ⟨bG, oG, none⟩) cg last b' l' w' → FB p wq w' → w'.cell? ⟨p + 1 + 1 + 1 + 1 + 1 + 1 + 1, 0, none⟩ = some (.func (.func 218) #[] #[.pointer (some ⟨p + 1 + 1 + 1, 0, none⟩), .pointer (some ⟨p + 1 + 1 + 1 + 1 + 1 + 1, 0, none⟩), .pointer (some ⟨p + 1, 0, none⟩), .pointer (some ⟨p + 1 + 1 + 1 + 1 + 1, 0, none⟩), .pointer (some ⟨p, 0, none⟩), .pointer (some ⟨p + 1 + 1, 0, none⟩), .pointer (some ⟨p + 1 + 1 + 1 + 1, 0, none⟩), .pointer (some ⟨p + 1 + 1 + 1 + 1 + 1 + 1 + 1, 0, none⟩)]) ∧ w'.cell? ⟨p, 0, none⟩ = some (.slice (some ⟨bE, oE, none⟩) M ce) ∧ w'.cell? ⟨bE, oE + i, none⟩ = some (.int .i64 ei) := fun b' l' w' h hf => ⟨(blk_facts h.bF).1 0, (blk_facts h.bE).1 0, by
          rw [World.cell?_of_block (hf.block bE lEQ hbE5 hbE6)]; exact ceQ⟩
        obtain ⟨q11, q12, q13⟩ := hS3 wq (Below.refl _ _)
        have r1 : RI 3 wq.drew At t at_ := hatQ
        have r2 : RI 3 (wq.alloc (.cells #[.int .i64 ei] 3)).drew At t at_ := hatQ.alloc _
        have hB1 : Below wq.heap.size wq wq.drew := below_drewN (Below.refl _ _) 1
        have hB2 : Below wq.heap.size wq (wq.alloc (.cells #[.int .i64 ei] 3)).drew := below_drewN (below_new wq _) 1
        obtain ⟨q21, q22, q23⟩ := hS3 _ hB2
        have hsz1 : wq.heap.size ≤ wq.drew.heap.size := Nat.le_refl _
        have hsz2 : wq.heap.size ≤ (wq.alloc (.cells #[.int .i64 ei] 3)).drew.heap.size := hB2.size
        have hx0 : (0 : Int) ≤ (i : Int) := by omega
        have hsb : IntKind.i64.wrap (sum + max (g0 - (last * ei).tdiv N) (-(g0 - (last * ei).tdiv N))) = sum + max (g0 - (last * ei).tdiv N) (-(g0 - (last * ei).tdiv N)) := IntWalk.i64_in _ (by omega)
        have hni : IntKind.i64.wrap ((i : Int) + 1) = (i : Int) + 1 := IntWalk.i64_in _ (by omega)
        have hng : IntKind.i64.wrap (-(g0 - (last * ei).tdiv N)) = -(g0 - (last * ei).tdiv N) := IntWalk.i64_in _ (by omega)
        clear hK hF hat4 hsz4 zE zN zT zL zF cg0 cei
        go_region_held3 (fun w' => w'.cell? ⟨p + 1 + 1 + 1 + 1 + 1 + 1 + 1, 0, none⟩ = some (.func (.func 218) #[] #[.pointer (some ⟨p + 1 + 1 + 1, 0, none⟩), .pointer (some ⟨p + 1 + 1 + 1 + 1 + 1 + 1, 0, none⟩), .pointer (some ⟨p + 1, 0, none⟩), .pointer (some ⟨p + 1 + 1 + 1 + 1 + 1, 0, none⟩), .pointer (some ⟨p, 0, none⟩), .pointer (some ⟨p + 1 + 1, 0, none⟩), .pointer (some ⟨p + 1 + 1 + 1 + 1, 0, none⟩), .pointer (some ⟨p + 1 + 1 + 1 + 1 + 1 + 1 + 1, 0, none⟩)]) ∧ w'.cell? ⟨p, 0, none⟩ = some (.slice (some ⟨bE, oE, none⟩) M ce) ∧ w'.cell? ⟨bE, oE + i, none⟩ = some (.int .i64 ei))
          (first | with_reducible exact ⟨q11, q12, q13⟩ | with_reducible exact ⟨q21, q22, q23⟩ | with_reducible exact ⟨q51, q52, q53⟩ | with_reducible exact ⟨q61, q62, q63⟩ | with_reducible exact ⟨q71, q72, q73⟩ | with_reducible exact ⟨q81, q82, q83⟩ | go_keep)
          (first
            | (go_at_call 89; refine (hCl.out _ r1).mono ?_; rintro e' w5 ⟨A5, c5, rfl, ho5, B5⟩; replace B5 := hB1.trans (B5.mono (Nat.le_refl _)); have hz5 := B5.size; replace ho5 := own_mono ho5 hsz1; obtain ⟨q51, q52, q53⟩ := hS3 _ B5; obtain ⟨q61, q62, q63⟩ := hS3 _ (B5.alloc B5.size (.cells #[.int .i64 ei] 3)))
            | (go_at_call 89; refine (hCl.out _ r2).mono ?_; rintro e' w5 ⟨A5, c5, rfl, ho5, B5⟩; have hl5 := blk_below (w := (wq.alloc (.cells #[.int .i64 ei] 3)).drew) (heap_alloc_new wq (.cells #[.int .i64 ei] 3)) B5; replace B5 := hB2.trans (B5.mono hsz2); have hz5 := B5.size; replace ho5 := own_mono ho5 hsz2; obtain ⟨q51, q52, q53⟩ := hS3 _ B5)
            | (go_at_call 218; refine (hIH2.out gg cap _ (KQ.below B7) (R1.of_own (c := cap) (by rw [show (at_ ++ [ei]).map (Value.int .i64) = ints at_ ++ [Value.int .i64 ei] by rw [List.map_append]; rfl]; exact hown7) (by omega)) (by have := own_row_lt hown7 gg rfl; omega) (Nat.le_trans hszQ B7.size)).mono ?_; rintro e' w8 ⟨rfl, K8, F8⟩; obtain ⟨q81, q82, q83⟩ := hS8 _ _ _ K8 ((FB.of_below B7).trans F8))
            | (refine step_append_lies _ (by rfl) _ _ _ (by rfl) wq.heap.size 3 i0 _ 1 8 Tryz.underlying22 hi0 hz0 hz1 hz2 rfl (by omega) (.slice A5 t c5) t (ints at_) (by rfl) (ho5.alloc _) ⟨w5.heap.size, 0, none⟩ 1 1 [.int .i64 ei] (by rfl) (by rfl) (World.news_of_block (cs := #[.int .i64 ei]) (t := 3) (fr := (0, 0)) (heap_alloc_new w5 _)) (by simp [Value.oneCell']) (by omega) (by unfold maxLen; omega) (by omega) (by first | omega | (simp; omega)) (w5.heap.size + 1) (by first | rfl | simp) ?_; intro gg cap w7 hown7 hgrow hat7 hlt7; have B7 := below_own (a := wq) (B := wq.heap.size) (B5.alloc B5.size _) (ho5.alloc _) hgrow (by simp; have := B5.size; omega) (Nat.le_refl _); have q71 := (hS3 w7 B7).1; have q72 := (hS3 w7 B7).2.1; have q73 := (hS3 w7 B7).2.2)
            | (refine step_append_lies _ (by rfl) _ _ _ (by rfl) wq.heap.size 3 i0 _ 1 8 Tryz.underlying22 hi0 hz0 hz1 hz2 rfl (by omega) (.slice A5 t c5) t (ints at_) (by rfl) ho5 ⟨wq.heap.size, 0, none⟩ 1 1 [.int .i64 ei] (by rfl) (by rfl) (World.news_of_block (cs := #[.int .i64 ei]) (t := 3) (fr := (0, 0)) hl5) (by simp [Value.oneCell']) (by omega) (by unfold maxLen; omega) (by omega) (by first | omega | (simp; omega)) (w5.heap.size) (by first | rfl | simp) ?_; intro gg cap w7 hown7 hgrow hat7 hlt7; have B7 := below_own (a := wq) (B := wq.heap.size) B5 ho5 hgrow B5.size (Nat.le_refl _); have q71 := (hS3 w7 B7).1; have q72 := (hS3 w7 B7).2.1; have q73 := (hS3 w7 B7).2.2))
        all_goals
          have hT2 := Lib.hid (show LP.tr (offG G E N m) E N (M - 1 - (i + 1)) (d + 1) t (i + 1) at_ sum (LP.tr (offG G E N m) E N (M - 1 - (i + 1)) d (t + 1) (i + 1) (at_ ++ [E.getD i 0]) (sum + offG G E N m t i) (b, l)) = LP.tr (offG G E N m) E N (M - 1 - e) (d + 1) t e at_ sum (best, least) by
            rw [← hT.out, show M - 1 - i = (M - 1 - (i + 1)) + 1 by omega, hTs.out])
          have FF := FQ.trans ((FB.of_below B7).trans F8)
          clear hown7 hgrow hat7 hlt7 hT
          go_wp2
          go_roundw
          case rel => exact ⟨i + 1, _, _, by go_num, K8, FF, hT2⟩
          case measure => simp [intOf]; omega
      · have hT2 := Lib.hid (show (b, l) = LP.tr (offG G E N m) E N (M - 1 - e) (d + 1) t e at_ sum (best, least) by
          rw [← hT.out, show M - 1 - i = 0 by omega, hT0.out])
        have hil : ¬ (i : Int) < (M : Int) - 1 := by omega
        clear hT
        go_wp2
        go_end0
        rw [← hT2.out]
        exact ⟨rfl, hK, hF⟩
end Go.Proofs.YtcdnjehkkbnfbaaGreatDoor

/- tumbref1.standing. -/
namespace Go.Proofs.YtcdnjehkkbnfbaaGreatDoor
open Go.RowKit Go.Lib
set_option linter.unusedVariables false

set_option maxHeartbeats 6400000 in
set_option maxRecDepth 100000 in
/-- what standing hands back -/
theorem standing_c (N m M : Nat) (Ae : Option Addr) (ce : Nat) (E : List Int) (Ag : Option Addr) (cg : Nat) (G : List Int) (w : World) (he : RI 3 w Ae M E) (hg : RI 3 w Ag m G) (hm : 1 ≤ m ∧ m ≤ M) (hM : M ≤ 16) (hN : 1 ≤ N ∧ N ≤ 16) (hG : ∀ x ∈ G, 0 ≤ x ∧ x ≤ 1000000000) (hE : ∀ x ∈ E, 0 ≤ x ∧ x ≤ 16) :
    Calls Tryz.prog 127 #[.slice Ae M ce, .int .i64 N, .slice Ag m cg] w fun e' w' => ∃ A c, e' = .returned (.slice A (LP.tr (offG G E N m) E N (M - 1) (m - 1) 0 0 [] 0 ([], -1)).1.length c) ∧ RI 3 w' A (LP.tr (offG G E N m) E N (M - 1) (m - 1) 0 0 [] 0 ([], -1)).1.length (LP.tr (offG G E N m) E N (M - 1) (m - 1) 0 0 [] 0 ([], -1)).1 ∧ Below w.heap.size w w' := by
  have hTry := Lib.hid (fun wx hK h1 h2 => try_c w w.heap.size N M m Ae ce E Ag cg G he hg hm hM hN hG hE (m - 1) 0 0 [] none 0 0 [] (-1) wx (by omega) rfl hK h1 (fun _ _ _ h => by cases h) h2 (by omega))
  obtain ⟨bG, oG, y, rfl, lG, hy, cy⟩ := hg.at_ (k := m - 1) (by omega)
  have hyv := getD_ofI hy
  rw [hyv] at hTry
  generalize LP.tr (offG G E N m) E N (M - 1) (m - 1) 0 0 [] 0 ([], -1) = TR at *
  have hm1 : ((m : Int) - 1).toNat = m - 1 := by omega
  have hm2 : (1 : Int) ≤ (m : Int) := by omega
  clear hy hyv
  have hB4 : Below w.heap.size w ((((w.alloc (.cells #[.slice Ae M ce] 22)).alloc (.cells #[.int .i64 N] 3)).alloc (.cells #[.slice (some ⟨bG, oG, none⟩) m cg] 22)).alloc (.cells #[.int .i64 m] 3)) := (((below_new w _).alloc (by simp) _).alloc (by simp; omega) _).alloc (by simp; omega) _
  have cy4 : ((((w.alloc (.cells #[.slice Ae M ce] 22)).alloc (.cells #[.int .i64 N] 3)).alloc (.cells #[.slice (some ⟨bG, oG, none⟩) m cg] 22)).alloc (.cells #[.int .i64 m] 3)).cell? ⟨bG, oG + (m - 1), none⟩ = some (.int .i64 y) := by rw [hB4.cell (p := ⟨bG, oG + (m - 1), none⟩) lG]; exact cy
  clear hB4
  have z0 : w.heap.size = w.heap.size := rfl
  have z1 : (w.alloc (.cells #[.slice Ae M ce] 22)).heap.size = w.heap.size + 1 := by simp
  have z2 : ((w.alloc (.cells #[.slice Ae M ce] 22)).alloc (.cells #[.int .i64 N] 3)).heap.size = w.heap.size + 1 + 1 := by simp
  have z3 : (((w.alloc (.cells #[.slice Ae M ce] 22)).alloc (.cells #[.int .i64 N] 3)).alloc (.cells #[.slice (some ⟨bG, oG, none⟩) m cg] 22)).heap.size = w.heap.size + 1 + 1 + 1 := by simp
  have z4 : ((((w.alloc (.cells #[.slice Ae M ce] 22)).alloc (.cells #[.int .i64 N] 3)).alloc (.cells #[.slice (some ⟨bG, oG, none⟩) m cg] 22)).alloc (.cells #[.int .i64 m] 3)).heap.size = w.heap.size + 1 + 1 + 1 + 1 := by simp
  have z5 : (((((w.alloc (.cells #[.slice Ae M ce] 22)).alloc (.cells #[.int .i64 N] 3)).alloc (.cells #[.slice (some ⟨bG, oG, none⟩) m cg] 22)).alloc (.cells #[.int .i64 m] 3)).alloc (.cells #[.int .i64 y] 3)).heap.size = w.heap.size + 1 + 1 + 1 + 1 + 1 := by simp
  have z6 : ((((((w.alloc (.cells #[.slice Ae M ce] 22)).alloc (.cells #[.int .i64 N] 3)).alloc (.cells #[.slice (some ⟨bG, oG, none⟩) m cg] 22)).alloc (.cells #[.int .i64 m] 3)).alloc (.cells #[.int .i64 y] 3)).alloc (.cells #[.slice none 0 0] 22)).heap.size = w.heap.size + 1 + 1 + 1 + 1 + 1 + 1 := by simp
  have z7 : (((((((w.alloc (.cells #[.slice Ae M ce] 22)).alloc (.cells #[.int .i64 N] 3)).alloc (.cells #[.slice (some ⟨bG, oG, none⟩) m cg] 22)).alloc (.cells #[.int .i64 m] 3)).alloc (.cells #[.int .i64 y] 3)).alloc (.cells #[.slice none 0 0] 22)).alloc (.cells #[.int .i64 (-1)] 3)).heap.size = w.heap.size + 1 + 1 + 1 + 1 + 1 + 1 + 1 := by simp
  have n7x : ((((((((w.alloc (.cells #[.slice Ae M ce] 22)).alloc (.cells #[.int .i64 N] 3)).alloc (.cells #[.slice (some ⟨bG, oG, none⟩) m cg] 22)).alloc (.cells #[.int .i64 m] 3)).alloc (.cells #[.int .i64 y] 3)).alloc (.cells #[.slice none 0 0] 22)).alloc (.cells #[.int .i64 (-1)] 3)).alloc (.cells #[.nilFunc] 272)).heap[w.heap.size + 1 + 1 + 1 + 1 + 1 + 1 + 1]? = some (.cells #[.nilFunc] 272 (0, 0)) := (z7 ▸ heap_alloc_new (((((((w.alloc (.cells #[.slice Ae M ce] 22)).alloc (.cells #[.int .i64 N] 3)).alloc (.cells #[.slice (some ⟨bG, oG, none⟩) m cg] 22)).alloc (.cells #[.int .i64 m] 3)).alloc (.cells #[.int .i64 y] 3)).alloc (.cells #[.slice none 0 0] 22)).alloc (.cells #[.int .i64 (-1)] 3)) (.cells #[.nilFunc] 272))
  have n0 : ((((((((w.alloc (.cells #[.slice Ae M ce] 22)).alloc (.cells #[.int .i64 N] 3)).alloc (.cells #[.slice (some ⟨bG, oG, none⟩) m cg] 22)).alloc (.cells #[.int .i64 m] 3)).alloc (.cells #[.int .i64 y] 3)).alloc (.cells #[.slice none 0 0] 22)).alloc (.cells #[.int .i64 (-1)] 3)).alloc (.cells #[(.func (.func 218) #[] #[.pointer (some ⟨w.heap.size + 1 + 1 + 1, 0, none⟩), .pointer (some ⟨w.heap.size + 1 + 1 + 1 + 1 + 1 + 1, 0, none⟩), .pointer (some ⟨w.heap.size + 1, 0, none⟩), .pointer (some ⟨w.heap.size + 1 + 1 + 1 + 1 + 1, 0, none⟩), .pointer (some ⟨w.heap.size, 0, none⟩), .pointer (some ⟨w.heap.size + 1 + 1, 0, none⟩), .pointer (some ⟨w.heap.size + 1 + 1 + 1 + 1, 0, none⟩), .pointer (some ⟨w.heap.size + 1 + 1 + 1 + 1 + 1 + 1 + 1, 0, none⟩)])] 272)).heap[w.heap.size]? = some (.cells #[.slice Ae M ce] 22 (0, 0)) := (blk_alloc (blk_alloc (blk_alloc (blk_alloc (blk_alloc (blk_alloc (blk_alloc (z0 ▸ heap_alloc_new w (.cells #[.slice Ae M ce] 22)) (.cells #[.int .i64 N] 3)) (.cells #[.slice (some ⟨bG, oG, none⟩) m cg] 22)) (.cells #[.int .i64 m] 3)) (.cells #[.int .i64 y] 3)) (.cells #[.slice none 0 0] 22)) (.cells #[.int .i64 (-1)] 3)) (.cells #[(.func (.func 218) #[] #[.pointer (some ⟨w.heap.size + 1 + 1 + 1, 0, none⟩), .pointer (some ⟨w.heap.size + 1 + 1 + 1 + 1 + 1 + 1, 0, none⟩), .pointer (some ⟨w.heap.size + 1, 0, none⟩), .pointer (some ⟨w.heap.size + 1 + 1 + 1 + 1 + 1, 0, none⟩), .pointer (some ⟨w.heap.size, 0, none⟩), .pointer (some ⟨w.heap.size + 1 + 1, 0, none⟩), .pointer (some ⟨w.heap.size + 1 + 1 + 1 + 1, 0, none⟩), .pointer (some ⟨w.heap.size + 1 + 1 + 1 + 1 + 1 + 1 + 1, 0, none⟩)])] 272))
  have n1 : ((((((((w.alloc (.cells #[.slice Ae M ce] 22)).alloc (.cells #[.int .i64 N] 3)).alloc (.cells #[.slice (some ⟨bG, oG, none⟩) m cg] 22)).alloc (.cells #[.int .i64 m] 3)).alloc (.cells #[.int .i64 y] 3)).alloc (.cells #[.slice none 0 0] 22)).alloc (.cells #[.int .i64 (-1)] 3)).alloc (.cells #[(.func (.func 218) #[] #[.pointer (some ⟨w.heap.size + 1 + 1 + 1, 0, none⟩), .pointer (some ⟨w.heap.size + 1 + 1 + 1 + 1 + 1 + 1, 0, none⟩), .pointer (some ⟨w.heap.size + 1, 0, none⟩), .pointer (some ⟨w.heap.size + 1 + 1 + 1 + 1 + 1, 0, none⟩), .pointer (some ⟨w.heap.size, 0, none⟩), .pointer (some ⟨w.heap.size + 1 + 1, 0, none⟩), .pointer (some ⟨w.heap.size + 1 + 1 + 1 + 1, 0, none⟩), .pointer (some ⟨w.heap.size + 1 + 1 + 1 + 1 + 1 + 1 + 1, 0, none⟩)])] 272)).heap[w.heap.size + 1]? = some (.cells #[.int .i64 N] 3 (0, 0)) := (blk_alloc (blk_alloc (blk_alloc (blk_alloc (blk_alloc (blk_alloc (z1 ▸ heap_alloc_new (w.alloc (.cells #[.slice Ae M ce] 22)) (.cells #[.int .i64 N] 3)) (.cells #[.slice (some ⟨bG, oG, none⟩) m cg] 22)) (.cells #[.int .i64 m] 3)) (.cells #[.int .i64 y] 3)) (.cells #[.slice none 0 0] 22)) (.cells #[.int .i64 (-1)] 3)) (.cells #[(.func (.func 218) #[] #[.pointer (some ⟨w.heap.size + 1 + 1 + 1, 0, none⟩), .pointer (some ⟨w.heap.size + 1 + 1 + 1 + 1 + 1 + 1, 0, none⟩), .pointer (some ⟨w.heap.size + 1, 0, none⟩), .pointer (some ⟨w.heap.size + 1 + 1 + 1 + 1 + 1, 0, none⟩), .pointer (some ⟨w.heap.size, 0, none⟩), .pointer (some ⟨w.heap.size + 1 + 1, 0, none⟩), .pointer (some ⟨w.heap.size + 1 + 1 + 1 + 1, 0, none⟩), .pointer (some ⟨w.heap.size + 1 + 1 + 1 + 1 + 1 + 1 + 1, 0, none⟩)])] 272))
  have n2 : ((((((((w.alloc (.cells #[.slice Ae M ce] 22)).alloc (.cells #[.int .i64 N] 3)).alloc (.cells #[.slice (some ⟨bG, oG, none⟩) m cg] 22)).alloc (.cells #[.int .i64 m] 3)).alloc (.cells #[.int .i64 y] 3)).alloc (.cells #[.slice none 0 0] 22)).alloc (.cells #[.int .i64 (-1)] 3)).alloc (.cells #[(.func (.func 218) #[] #[.pointer (some ⟨w.heap.size + 1 + 1 + 1, 0, none⟩), .pointer (some ⟨w.heap.size + 1 + 1 + 1 + 1 + 1 + 1, 0, none⟩), .pointer (some ⟨w.heap.size + 1, 0, none⟩), .pointer (some ⟨w.heap.size + 1 + 1 + 1 + 1 + 1, 0, none⟩), .pointer (some ⟨w.heap.size, 0, none⟩), .pointer (some ⟨w.heap.size + 1 + 1, 0, none⟩), .pointer (some ⟨w.heap.size + 1 + 1 + 1 + 1, 0, none⟩), .pointer (some ⟨w.heap.size + 1 + 1 + 1 + 1 + 1 + 1 + 1, 0, none⟩)])] 272)).heap[w.heap.size + 1 + 1]? = some (.cells #[.slice (some ⟨bG, oG, none⟩) m cg] 22 (0, 0)) := (blk_alloc (blk_alloc (blk_alloc (blk_alloc (blk_alloc (z2 ▸ heap_alloc_new ((w.alloc (.cells #[.slice Ae M ce] 22)).alloc (.cells #[.int .i64 N] 3)) (.cells #[.slice (some ⟨bG, oG, none⟩) m cg] 22)) (.cells #[.int .i64 m] 3)) (.cells #[.int .i64 y] 3)) (.cells #[.slice none 0 0] 22)) (.cells #[.int .i64 (-1)] 3)) (.cells #[(.func (.func 218) #[] #[.pointer (some ⟨w.heap.size + 1 + 1 + 1, 0, none⟩), .pointer (some ⟨w.heap.size + 1 + 1 + 1 + 1 + 1 + 1, 0, none⟩), .pointer (some ⟨w.heap.size + 1, 0, none⟩), .pointer (some ⟨w.heap.size + 1 + 1 + 1 + 1 + 1, 0, none⟩), .pointer (some ⟨w.heap.size, 0, none⟩), .pointer (some ⟨w.heap.size + 1 + 1, 0, none⟩), .pointer (some ⟨w.heap.size + 1 + 1 + 1 + 1, 0, none⟩), .pointer (some ⟨w.heap.size + 1 + 1 + 1 + 1 + 1 + 1 + 1, 0, none⟩)])] 272))
  have n3 : ((((((((w.alloc (.cells #[.slice Ae M ce] 22)).alloc (.cells #[.int .i64 N] 3)).alloc (.cells #[.slice (some ⟨bG, oG, none⟩) m cg] 22)).alloc (.cells #[.int .i64 m] 3)).alloc (.cells #[.int .i64 y] 3)).alloc (.cells #[.slice none 0 0] 22)).alloc (.cells #[.int .i64 (-1)] 3)).alloc (.cells #[(.func (.func 218) #[] #[.pointer (some ⟨w.heap.size + 1 + 1 + 1, 0, none⟩), .pointer (some ⟨w.heap.size + 1 + 1 + 1 + 1 + 1 + 1, 0, none⟩), .pointer (some ⟨w.heap.size + 1, 0, none⟩), .pointer (some ⟨w.heap.size + 1 + 1 + 1 + 1 + 1, 0, none⟩), .pointer (some ⟨w.heap.size, 0, none⟩), .pointer (some ⟨w.heap.size + 1 + 1, 0, none⟩), .pointer (some ⟨w.heap.size + 1 + 1 + 1 + 1, 0, none⟩), .pointer (some ⟨w.heap.size + 1 + 1 + 1 + 1 + 1 + 1 + 1, 0, none⟩)])] 272)).heap[w.heap.size + 1 + 1 + 1]? = some (.cells #[.int .i64 m] 3 (0, 0)) := (blk_alloc (blk_alloc (blk_alloc (blk_alloc (z3 ▸ heap_alloc_new (((w.alloc (.cells #[.slice Ae M ce] 22)).alloc (.cells #[.int .i64 N] 3)).alloc (.cells #[.slice (some ⟨bG, oG, none⟩) m cg] 22)) (.cells #[.int .i64 m] 3)) (.cells #[.int .i64 y] 3)) (.cells #[.slice none 0 0] 22)) (.cells #[.int .i64 (-1)] 3)) (.cells #[(.func (.func 218) #[] #[.pointer (some ⟨w.heap.size + 1 + 1 + 1, 0, none⟩), .pointer (some ⟨w.heap.size + 1 + 1 + 1 + 1 + 1 + 1, 0, none⟩), .pointer (some ⟨w.heap.size + 1, 0, none⟩), .pointer (some ⟨w.heap.size + 1 + 1 + 1 + 1 + 1, 0, none⟩), .pointer (some ⟨w.heap.size, 0, none⟩), .pointer (some ⟨w.heap.size + 1 + 1, 0, none⟩), .pointer (some ⟨w.heap.size + 1 + 1 + 1 + 1, 0, none⟩), .pointer (some ⟨w.heap.size + 1 + 1 + 1 + 1 + 1 + 1 + 1, 0, none⟩)])] 272))
  have n4 : ((((((((w.alloc (.cells #[.slice Ae M ce] 22)).alloc (.cells #[.int .i64 N] 3)).alloc (.cells #[.slice (some ⟨bG, oG, none⟩) m cg] 22)).alloc (.cells #[.int .i64 m] 3)).alloc (.cells #[.int .i64 y] 3)).alloc (.cells #[.slice none 0 0] 22)).alloc (.cells #[.int .i64 (-1)] 3)).alloc (.cells #[(.func (.func 218) #[] #[.pointer (some ⟨w.heap.size + 1 + 1 + 1, 0, none⟩), .pointer (some ⟨w.heap.size + 1 + 1 + 1 + 1 + 1 + 1, 0, none⟩), .pointer (some ⟨w.heap.size + 1, 0, none⟩), .pointer (some ⟨w.heap.size + 1 + 1 + 1 + 1 + 1, 0, none⟩), .pointer (some ⟨w.heap.size, 0, none⟩), .pointer (some ⟨w.heap.size + 1 + 1, 0, none⟩), .pointer (some ⟨w.heap.size + 1 + 1 + 1 + 1, 0, none⟩), .pointer (some ⟨w.heap.size + 1 + 1 + 1 + 1 + 1 + 1 + 1, 0, none⟩)])] 272)).heap[w.heap.size + 1 + 1 + 1 + 1]? = some (.cells #[.int .i64 y] 3 (0, 0)) := (blk_alloc (blk_alloc (blk_alloc (z4 ▸ heap_alloc_new ((((w.alloc (.cells #[.slice Ae M ce] 22)).alloc (.cells #[.int .i64 N] 3)).alloc (.cells #[.slice (some ⟨bG, oG, none⟩) m cg] 22)).alloc (.cells #[.int .i64 m] 3)) (.cells #[.int .i64 y] 3)) (.cells #[.slice none 0 0] 22)) (.cells #[.int .i64 (-1)] 3)) (.cells #[(.func (.func 218) #[] #[.pointer (some ⟨w.heap.size + 1 + 1 + 1, 0, none⟩), .pointer (some ⟨w.heap.size + 1 + 1 + 1 + 1 + 1 + 1, 0, none⟩), .pointer (some ⟨w.heap.size + 1, 0, none⟩), .pointer (some ⟨w.heap.size + 1 + 1 + 1 + 1 + 1, 0, none⟩), .pointer (some ⟨w.heap.size, 0, none⟩), .pointer (some ⟨w.heap.size + 1 + 1, 0, none⟩), .pointer (some ⟨w.heap.size + 1 + 1 + 1 + 1, 0, none⟩), .pointer (some ⟨w.heap.size + 1 + 1 + 1 + 1 + 1 + 1 + 1, 0, none⟩)])] 272))
  have n5 : ((((((((w.alloc (.cells #[.slice Ae M ce] 22)).alloc (.cells #[.int .i64 N] 3)).alloc (.cells #[.slice (some ⟨bG, oG, none⟩) m cg] 22)).alloc (.cells #[.int .i64 m] 3)).alloc (.cells #[.int .i64 y] 3)).alloc (.cells #[.slice none 0 0] 22)).alloc (.cells #[.int .i64 (-1)] 3)).alloc (.cells #[(.func (.func 218) #[] #[.pointer (some ⟨w.heap.size + 1 + 1 + 1, 0, none⟩), .pointer (some ⟨w.heap.size + 1 + 1 + 1 + 1 + 1 + 1, 0, none⟩), .pointer (some ⟨w.heap.size + 1, 0, none⟩), .pointer (some ⟨w.heap.size + 1 + 1 + 1 + 1 + 1, 0, none⟩), .pointer (some ⟨w.heap.size, 0, none⟩), .pointer (some ⟨w.heap.size + 1 + 1, 0, none⟩), .pointer (some ⟨w.heap.size + 1 + 1 + 1 + 1, 0, none⟩), .pointer (some ⟨w.heap.size + 1 + 1 + 1 + 1 + 1 + 1 + 1, 0, none⟩)])] 272)).heap[w.heap.size + 1 + 1 + 1 + 1 + 1]? = some (.cells #[.slice none 0 0] 22 (0, 0)) := (blk_alloc (blk_alloc (z5 ▸ heap_alloc_new (((((w.alloc (.cells #[.slice Ae M ce] 22)).alloc (.cells #[.int .i64 N] 3)).alloc (.cells #[.slice (some ⟨bG, oG, none⟩) m cg] 22)).alloc (.cells #[.int .i64 m] 3)).alloc (.cells #[.int .i64 y] 3)) (.cells #[.slice none 0 0] 22)) (.cells #[.int .i64 (-1)] 3)) (.cells #[(.func (.func 218) #[] #[.pointer (some ⟨w.heap.size + 1 + 1 + 1, 0, none⟩), .pointer (some ⟨w.heap.size + 1 + 1 + 1 + 1 + 1 + 1, 0, none⟩), .pointer (some ⟨w.heap.size + 1, 0, none⟩), .pointer (some ⟨w.heap.size + 1 + 1 + 1 + 1 + 1, 0, none⟩), .pointer (some ⟨w.heap.size, 0, none⟩), .pointer (some ⟨w.heap.size + 1 + 1, 0, none⟩), .pointer (some ⟨w.heap.size + 1 + 1 + 1 + 1, 0, none⟩), .pointer (some ⟨w.heap.size + 1 + 1 + 1 + 1 + 1 + 1 + 1, 0, none⟩)])] 272))
  have n6 : ((((((((w.alloc (.cells #[.slice Ae M ce] 22)).alloc (.cells #[.int .i64 N] 3)).alloc (.cells #[.slice (some ⟨bG, oG, none⟩) m cg] 22)).alloc (.cells #[.int .i64 m] 3)).alloc (.cells #[.int .i64 y] 3)).alloc (.cells #[.slice none 0 0] 22)).alloc (.cells #[.int .i64 (-1)] 3)).alloc (.cells #[(.func (.func 218) #[] #[.pointer (some ⟨w.heap.size + 1 + 1 + 1, 0, none⟩), .pointer (some ⟨w.heap.size + 1 + 1 + 1 + 1 + 1 + 1, 0, none⟩), .pointer (some ⟨w.heap.size + 1, 0, none⟩), .pointer (some ⟨w.heap.size + 1 + 1 + 1 + 1 + 1, 0, none⟩), .pointer (some ⟨w.heap.size, 0, none⟩), .pointer (some ⟨w.heap.size + 1 + 1, 0, none⟩), .pointer (some ⟨w.heap.size + 1 + 1 + 1 + 1, 0, none⟩), .pointer (some ⟨w.heap.size + 1 + 1 + 1 + 1 + 1 + 1 + 1, 0, none⟩)])] 272)).heap[w.heap.size + 1 + 1 + 1 + 1 + 1 + 1]? = some (.cells #[.int .i64 (-1)] 3 (0, 0)) := (blk_alloc (z6 ▸ heap_alloc_new ((((((w.alloc (.cells #[.slice Ae M ce] 22)).alloc (.cells #[.int .i64 N] 3)).alloc (.cells #[.slice (some ⟨bG, oG, none⟩) m cg] 22)).alloc (.cells #[.int .i64 m] 3)).alloc (.cells #[.int .i64 y] 3)).alloc (.cells #[.slice none 0 0] 22)) (.cells #[.int .i64 (-1)] 3)) (.cells #[(.func (.func 218) #[] #[.pointer (some ⟨w.heap.size + 1 + 1 + 1, 0, none⟩), .pointer (some ⟨w.heap.size + 1 + 1 + 1 + 1 + 1 + 1, 0, none⟩), .pointer (some ⟨w.heap.size + 1, 0, none⟩), .pointer (some ⟨w.heap.size + 1 + 1 + 1 + 1 + 1, 0, none⟩), .pointer (some ⟨w.heap.size, 0, none⟩), .pointer (some ⟨w.heap.size + 1 + 1, 0, none⟩), .pointer (some ⟨w.heap.size + 1 + 1 + 1 + 1, 0, none⟩), .pointer (some ⟨w.heap.size + 1 + 1 + 1 + 1 + 1 + 1 + 1, 0, none⟩)])] 272))
  have n7 : ((((((((w.alloc (.cells #[.slice Ae M ce] 22)).alloc (.cells #[.int .i64 N] 3)).alloc (.cells #[.slice (some ⟨bG, oG, none⟩) m cg] 22)).alloc (.cells #[.int .i64 m] 3)).alloc (.cells #[.int .i64 y] 3)).alloc (.cells #[.slice none 0 0] 22)).alloc (.cells #[.int .i64 (-1)] 3)).alloc (.cells #[(.func (.func 218) #[] #[.pointer (some ⟨w.heap.size + 1 + 1 + 1, 0, none⟩), .pointer (some ⟨w.heap.size + 1 + 1 + 1 + 1 + 1 + 1, 0, none⟩), .pointer (some ⟨w.heap.size + 1, 0, none⟩), .pointer (some ⟨w.heap.size + 1 + 1 + 1 + 1 + 1, 0, none⟩), .pointer (some ⟨w.heap.size, 0, none⟩), .pointer (some ⟨w.heap.size + 1 + 1, 0, none⟩), .pointer (some ⟨w.heap.size + 1 + 1 + 1 + 1, 0, none⟩), .pointer (some ⟨w.heap.size + 1 + 1 + 1 + 1 + 1 + 1 + 1, 0, none⟩)])] 272)).heap[w.heap.size + 1 + 1 + 1 + 1 + 1 + 1 + 1]? = some (.cells #[(.func (.func 218) #[] #[.pointer (some ⟨w.heap.size + 1 + 1 + 1, 0, none⟩), .pointer (some ⟨w.heap.size + 1 + 1 + 1 + 1 + 1 + 1, 0, none⟩), .pointer (some ⟨w.heap.size + 1, 0, none⟩), .pointer (some ⟨w.heap.size + 1 + 1 + 1 + 1 + 1, 0, none⟩), .pointer (some ⟨w.heap.size, 0, none⟩), .pointer (some ⟨w.heap.size + 1 + 1, 0, none⟩), .pointer (some ⟨w.heap.size + 1 + 1 + 1 + 1, 0, none⟩), .pointer (some ⟨w.heap.size + 1 + 1 + 1 + 1 + 1 + 1 + 1, 0, none⟩)])] 272 (0, 0)) := (z7 ▸ heap_alloc_new (((((((w.alloc (.cells #[.slice Ae M ce] 22)).alloc (.cells #[.int .i64 N] 3)).alloc (.cells #[.slice (some ⟨bG, oG, none⟩) m cg] 22)).alloc (.cells #[.int .i64 m] 3)).alloc (.cells #[.int .i64 y] 3)).alloc (.cells #[.slice none 0 0] 22)).alloc (.cells #[.int .i64 (-1)] 3)) (.cells #[(.func (.func 218) #[] #[.pointer (some ⟨w.heap.size + 1 + 1 + 1, 0, none⟩), .pointer (some ⟨w.heap.size + 1 + 1 + 1 + 1 + 1 + 1, 0, none⟩), .pointer (some ⟨w.heap.size + 1, 0, none⟩), .pointer (some ⟨w.heap.size + 1 + 1 + 1 + 1 + 1, 0, none⟩), .pointer (some ⟨w.heap.size, 0, none⟩), .pointer (some ⟨w.heap.size + 1 + 1, 0, none⟩), .pointer (some ⟨w.heap.size + 1 + 1 + 1 + 1, 0, none⟩), .pointer (some ⟨w.heap.size + 1 + 1 + 1 + 1 + 1 + 1 + 1, 0, none⟩)])] 272))
  have hBw : Below w.heap.size w ((((((((w.alloc (.cells #[.slice Ae M ce] 22)).alloc (.cells #[.int .i64 N] 3)).alloc (.cells #[.slice (some ⟨bG, oG, none⟩) m cg] 22)).alloc (.cells #[.int .i64 m] 3)).alloc (.cells #[.int .i64 y] 3)).alloc (.cells #[.slice none 0 0] 22)).alloc (.cells #[.int .i64 (-1)] 3)).alloc (.cells #[(.func (.func 218) #[] #[.pointer (some ⟨w.heap.size + 1 + 1 + 1, 0, none⟩), .pointer (some ⟨w.heap.size + 1 + 1 + 1 + 1 + 1 + 1, 0, none⟩), .pointer (some ⟨w.heap.size + 1, 0, none⟩), .pointer (some ⟨w.heap.size + 1 + 1 + 1 + 1 + 1, 0, none⟩), .pointer (some ⟨w.heap.size, 0, none⟩), .pointer (some ⟨w.heap.size + 1 + 1, 0, none⟩), .pointer (some ⟨w.heap.size + 1 + 1 + 1 + 1, 0, none⟩), .pointer (some ⟨w.heap.size + 1 + 1 + 1 + 1 + 1 + 1 + 1, 0, none⟩)])] 272)) := by
    refine Below.alloc ?_ (by first | (simp; done) | (simp; omega)) _
    refine Below.alloc ?_ (by first | (simp; done) | (simp; omega)) _
    refine Below.alloc ?_ (by first | (simp; done) | (simp; omega)) _
    refine Below.alloc ?_ (by first | (simp; done) | (simp; omega)) _
    refine Below.alloc ?_ (by first | (simp; done) | (simp; omega)) _
    refine Below.alloc ?_ (by first | (simp; done) | (simp; omega)) _
    refine Below.alloc ?_ (by first | (simp; done) | (simp; omega)) _
    refine Below.alloc ?_ (by first | (simp; done) | (simp; omega)) _
    exact Below.refl _ _
  have c7 := (blk_facts n7x).1 0
  have f7 := (blk_facts n7x).2 0
  have KK : KT w w.heap.size N M m Ae ce (some ⟨bG, oG, none⟩) cg y [] (-1) ((((((((w.alloc (.cells #[.slice Ae M ce] 22)).alloc (.cells #[.int .i64 N] 3)).alloc (.cells #[.slice (some ⟨bG, oG, none⟩) m cg] 22)).alloc (.cells #[.int .i64 m] 3)).alloc (.cells #[.int .i64 y] 3)).alloc (.cells #[.slice none 0 0] 22)).alloc (.cells #[.int .i64 (-1)] 3)).alloc (.cells #[(.func (.func 218) #[] #[.pointer (some ⟨w.heap.size + 1 + 1 + 1, 0, none⟩), .pointer (some ⟨w.heap.size + 1 + 1 + 1 + 1 + 1 + 1, 0, none⟩), .pointer (some ⟨w.heap.size + 1, 0, none⟩), .pointer (some ⟨w.heap.size + 1 + 1 + 1 + 1 + 1, 0, none⟩), .pointer (some ⟨w.heap.size, 0, none⟩), .pointer (some ⟨w.heap.size + 1 + 1, 0, none⟩), .pointer (some ⟨w.heap.size + 1 + 1 + 1 + 1, 0, none⟩), .pointer (some ⟨w.heap.size + 1 + 1 + 1 + 1 + 1 + 1 + 1, 0, none⟩)])] 272)) := ⟨n0, n1, n2, n3, n4, ⟨none, 0, n5, R1.nil_ _ _ _ _, fun _ _ _ h => by cases h⟩, n6, n7, hBw, Nat.le_refl _⟩
  have hz9 : w.heap.size + 8 ≤ ((((((((w.alloc (.cells #[.slice Ae M ce] 22)).alloc (.cells #[.int .i64 N] 3)).alloc (.cells #[.slice (some ⟨bG, oG, none⟩) m cg] 22)).alloc (.cells #[.int .i64 m] 3)).alloc (.cells #[.int .i64 y] 3)).alloc (.cells #[.slice none 0 0] 22)).alloc (.cells #[.int .i64 (-1)] 3)).alloc (.cells #[(.func (.func 218) #[] #[.pointer (some ⟨w.heap.size + 1 + 1 + 1, 0, none⟩), .pointer (some ⟨w.heap.size + 1 + 1 + 1 + 1 + 1 + 1, 0, none⟩), .pointer (some ⟨w.heap.size + 1, 0, none⟩), .pointer (some ⟨w.heap.size + 1 + 1 + 1 + 1 + 1, 0, none⟩), .pointer (some ⟨w.heap.size, 0, none⟩), .pointer (some ⟨w.heap.size + 1 + 1, 0, none⟩), .pointer (some ⟨w.heap.size + 1 + 1 + 1 + 1, 0, none⟩), .pointer (some ⟨w.heap.size + 1 + 1 + 1 + 1 + 1 + 1 + 1, 0, none⟩)])] 272)).heap.size := by simp
  have cF := (blk_facts KK.bF).1 0
  clear z0 z1 z2 z3 z4 z5 z6 z7 n0 n1 n2 n3 n4 n5 n6 n7 n7x hBw
  go_enter Tryz.func127, Tryz.ntmps127
  go_wp2_with fail
  refine (hTry.out _ KK (R1.nil_ _ _ _ _) hz9).mono ?_; rintro e w9 ⟨rfl, K9, F9⟩
  obtain ⟨Ab, cb, hbB, rB, _⟩ := K9.bB
  have cB := (blk_facts hbB).1 0
  have hbel := K9.bel
  go_wp2
  go_ret
  exact ⟨Ab, cb, rfl, rB, hbel⟩
end Go.Proofs.YtcdnjehkkbnfbaaGreatDoor
