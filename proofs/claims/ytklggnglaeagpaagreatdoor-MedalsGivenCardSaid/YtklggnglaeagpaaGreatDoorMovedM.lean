/- judge.Moved where nothing moved; slices.Concat of two rows of ranks. -/
import Derived.Test.YtklggnglaeagpaaGreatDoorOrdC
import Derived.Test.YtklggnglaeagpaaGreatDoorRankM
import Derived.Maps.OwnSet
namespace Go.Proofs.YtklggnglaeagpaaGreatDoor
open Go.RowKit
open Go.Maps (Keyed string_keyed)
open Go.MapKept Go.ChangeMaps
open Go.WideMaps (keyOf_string_mk)
set_option linter.unusedVariables false

def rankAt (v : List Rk) (s : ByteArray) : Int := v.foldl (fun f x => if x.who = s then x.rank else f) 0
theorem rankAt_keep (s : ByteArray) : ∀ (v : List Rk) (f : Int), (∀ y ∈ v, y.who ≠ s) → v.foldl (fun f x => if x.who = s then x.rank else f) f = f
  | [], _, _ => rfl
  | y :: r, f, h => by
    rw [List.foldl_cons, if_neg (h y (by simp))]
    exact rankAt_keep s r f fun z hz => h z (by simp [hz])
theorem rankAt_mem {v : List Rk} (hn : (v.map Rk.who).Nodup) {x : Rk} (hx : x ∈ v) : rankAt v x.who = x.rank := by
  unfold rankAt
  generalize (0 : Int) = f
  induction v generalizing f with
  | nil => cases hx
  | cons y r ih =>
    rw [List.map_cons, List.nodup_cons] at hn
    rw [List.foldl_cons]
    rcases List.mem_cons.1 hx with rfl | hx
    · rw [if_pos rfl]
      exact rankAt_keep _ r _ fun z hz he => hn.1 (he ▸ List.mem_map_of_mem hz)
    · exact ih hn.2 hx _
def WasM (D : DataW Unit) (v : List Rk) : Prop := Go.Maps.IsMap D ∧ ∀ s : ByteArray, D.atKey (.string s.data.toList) (.lit (.int .i64 0)) = .lit (.int .i64 (rankAt v s))
theorem WasM.nil : WasM (.map []) [] := ⟨Go.Maps.isMap_empty, fun s => by rw [atKey_nil]; rfl⟩
theorem WasM.snoc {D : DataW Unit} {v : List Rk} (h : WasM D v) (x : Rk) : WasM (D.put (.string x.who.data.toList) (.lit (.int .i64 x.rank))) (v ++ [x]) := by
  refine ⟨h.1.put _ _, fun t => ?_⟩
  have e : rankAt (v ++ [x]) t = if x.who = t then x.rank else rankAt v t := by unfold rankAt; rw [List.foldl_append]; rfl
  rw [e]
  by_cases e2 : x.who = t
  · subst e2
    rw [Go.Maps.atKey_put_same h.1 (by trivial), if_pos rfl]
  · rw [Go.Maps.atKey_put_other (by intro e3; injection e3 with e3; exact e2 (bytes_inj e3).symm), h.2 t, if_neg e2]
theorem mi_lookOk {w : World} {b n : Nat} {D : DataW Unit} (h : MI w b n D) (s : ByteArray) (hs : s.size ≤ maxLen) : ∃ (v : Int) (t : Bool), (Instr.lookup 191 (.map (some b)) (.string s) true).run Tryz.prog w = .ok (.tuple #[.int .i64 v, .bool t]) w ∧ D.atKey (.string s.data.toList) (.lit (.int .i64 0)) = .lit (.int .i64 v) := by
  obtain ⟨v, ps, hrun, hv⟩ := h.look_ok (string_keyed Tryz.underlying9) Tryz.underlying191 (Tryz.zeroValue3 w) (plainElem_int Tryz.underlying3 (by decide)) (keyOf_string_mk Tryz.underlying9 hs)
  obtain ⟨c, rfl, hc, hwc⟩ := plainElem_int_inv Tryz.underlying3 hv
  exact ⟨c, _, hrun, congrArg Prod.fst hc⟩
theorem rk_src {w : World} {A : Option Addr} {n : Nat} {l : List Rk} (h : RRk w A n l) (hp : 0 < n) : ∃ b off, A = some ⟨b, off, none⟩ ∧ ∀ j u, (l.flatMap rkE)[j]? = some u → w.cell? ⟨b, off + j, none⟩ = some u := by
  obtain ⟨b, off, cs, fz, hA, hb, hc⟩ := h.2.2 hp
  refine ⟨b, off, hA, fun j u hu => ?_⟩
  have hj : j < l.length * 4 := by
    have := (List.getElem?_eq_some_iff.1 hu).1
    rw [flat_len rkE_len] at this; exact this
  obtain ⟨x, hx⟩ := at_of_lt (l := l) (k := j / 4) (by omega)
  have hlen : (rkE x).length = 4 := rfl
  have hv : ∃ v, (rkE x)[j % 4]? = some v := ⟨_, List.getElem?_eq_getElem (by rw [hlen]; omega)⟩
  obtain ⟨v, hv⟩ := hv
  have h1 := flat_at rkE_len l (j / 4) x (j % 4) v hx hv
  rw [show j / 4 * 4 + j % 4 = j by omega, hu] at h1
  obtain rfl := Option.some.inj h1
  have h2 := hc (j / 4) x hx (j % 4) u hv
  rw [show off + j / 4 * 4 + j % 4 = off + j by omega] at h2
  rw [cell_of_row w b _ cs _ fz hb]
  exact h2
theorem rks_one (l : List Rk) : ∀ u ∈ l.flatMap rkE, u.oneCell' = true := by
  intro u hu
  obtain ⟨x, _, hx⟩ := List.mem_flatMap.1 hu
  simp only [rkE, List.mem_cons, List.not_mem_nil, or_false] at hx
  rcases hx with rfl | rfl | rfl | rfl <;> rfl
theorem growNilK_c (n : Nat) (w : World) (h0 : 0 < n) (hn : n ≤ 1000000) :
    Calls Tryz.prog 283 #[.slice none 0 0, .int .i64 n] w fun e w' => ∃ A c, e = .returned (.slice A 0 c) ∧ w'.ownsRow w.heap.size 48 4 (.slice A 0 c) 0 [] ∧ Below w.heap.size w w' := by
  have h1 : ¬ ((n : Int) < 0) := by omega
  have h2 : (0 : Int) < (n : Int) := by omega
  have h3 : IntKind.i64.wrap ((n : Int)) = (n : Int) := IntWalk.i64_in _ (by omega)
  go_enter Tryz.func283, Tryz.ntmps283
  go_wp2_with (at_builtin; refine wpList_zerosS rfl (.tmp 20) (.tmp 21) 34 3 rfl Tryz.underlying34 Tryz.underlying3 info_ranked n h0 (by omega) hn (by omega) (by rfl) (by rfl) ?_; intro cap hc1 hc2)
  go_ret
  refine ⟨_, cap, rfl, ⟨rfl, .inr ⟨w.heap.size, cap, _, rfl, Nat.le_refl _, heap_alloc_new w.drew _, Nat.zero_le _, hc2, ?_, by simp⟩⟩, below_drewN (below_new w _) 1⟩
  rw [Array.size_append, size_zeroCells, size_zeroCells]
  show n * 4 + (cap - n) * 4 = cap * 4
  omega
theorem growNilK0_c (w : World) :
    Calls Tryz.prog 283 #[.slice none 0 0, .int .i64 0] w fun e w' => ∃ A c, e = .returned (.slice A 0 c) ∧ w'.ownsRow w.heap.size 48 4 (.slice A 0 c) 0 [] ∧ Below w.heap.size w w' := by
  go_enter Tryz.func283, Tryz.ntmps283
  go_wp2
  go_ret
  exact ⟨none, 0, rfl, World.ownsRow_nil _ _ _ _, Below.refl _ _⟩
theorem growNilKA_c (n : Nat) (w : World) (hn : n ≤ 1000000) :
    Calls Tryz.prog 283 #[.slice none 0 0, .int .i64 n] w fun e w' => ∃ A c, e = .returned (.slice A 0 c) ∧ w'.ownsRow w.heap.size 48 4 (.slice A 0 c) 0 [] ∧ Below w.heap.size w w' := by
  rcases Nat.eq_zero_or_pos n with h | h
  · subst h; exact growNilK0_c w
  · exact growNilK_c n w h hn
set_option maxHeartbeats 1600000 in
set_option maxRecDepth 100000 in
theorem concatK_c (A B : Option Addr) (n c m d z : Nat) (la lb : List Rk) (w : World) (hz : w.heap[z]? = some (.cells #[.slice A n c, .slice B m d] 34 (0, 0))) (ha : RRk w A n la) (hb : RRk w B m lb) (hA : A = none → c = 0) (hB : B = none → d = 0) (hn : n ≤ 1000) (hm : m ≤ 1000) :
    Calls Tryz.prog 211 #[.slice (some ⟨z, 0, none⟩) 2 2] w fun e w' => ∃ A' c', e = .returned (.slice A' (n + m) c') ∧ w'.ownsRow w.heap.size 48 4 (.slice A' (n + m) c') (n + m) ((la ++ lb).flatMap rkE) ∧ Below w.heap.size w w' := by
  have z0 := (blk_facts hz).1 0
  have z1 := (blk_facts hz).1 1
  have w1 : IntKind.i64.wrap ((n : Int)) = (n : Int) := IntWalk.i64_in _ (by omega)
  have w2 : IntKind.i64.wrap ((n : Int) + (m : Int)) = (n : Int) + (m : Int) := IntWalk.i64_in _ (by omega)
  have p1 : ¬ (n : Int) < 0 := by omega
  have p2 : ¬ (n : Int) + (m : Int) < 0 := by omega
  have hG := Lib.hid (growNilKA_c (n + m) w (by omega))
  rw [show ((n + m : Nat) : Int) = (n : Int) + (m : Int) by push_cast; rfl] at hG
  go_enter Tryz.func211, Tryz.ntmps211
  go_wp2
  refine wp_loop_rounds 3 ?_
  rw [rounds_succ]
  go_wp2
  rw [rounds_succ]
  go_wp2
  rw [rounds_succ]
  go_wp2_with fail
  refine hG.out.mono ?_; rintro e w3 ⟨GA, gc, rfl, hown, B3⟩
  have y0 := (blk_facts (blk_below hz B3)).1 0
  have hz3 := B3.size
  have ha3 := ha.below B3
  have hz4 := blk_below hz B3
  have hb0 := Lib.hid (fun W h => hb.below (w' := W) h)
  have hzz := Lib.hid (fun W h => blk_below (w' := W) hz h)
  clear z0 z1 hz hG ha hb
  go_wp2
  refine wp_loop_rounds 3 ?_
  rw [rounds_succ]
  go_wp2_with (at_builtin; refine wpList_appR rfl (.tmp 31) (.tmp 32) 34 rfl Tryz.underlying34 info_ranked rfl (by omega) (by omega) hown rfl hA (rk_src ha3) rfl (by rw [flat_len rkE_len, ha3.len]) (rks_one la) (by omega) hz3 ?_; intro v4 w4 hown4 hg4)
  have hB4 := below_own B3 hown hg4 hz3 (Nat.le_refl _)
  have y1 := (blk_facts (hzz.out _ hB4)).1 1
  have hb4 := hb0.out _ hB4
  have hz5 := hB4.size
  rw [List.nil_append, Nat.zero_add] at hown4
  clear hown hg4 B3 hzz hb0 y0 ha3 hz4
  rw [rounds_succ]
  go_wp2_with (at_builtin; refine wpList_appR rfl (.tmp 31) (.tmp 32) 34 rfl Tryz.underlying34 info_ranked rfl (by omega) (by omega) hown4 rfl hB (rk_src hb4) rfl (by rw [flat_len rkE_len, hb4.len]) (rks_one lb) (by omega) hz5 ?_; intro v6 w6 hown6 hg6)
  have hB6 := below_own hB4 hown4 hg6 hz5 (Nat.le_refl _)
  obtain ⟨A9, c9, rfl⟩ := own_shape hown6
  have hfin : w6.ownsRow w.heap.size 48 4 (.slice A9 (n + m) c9) (n + m) ((la ++ lb).flatMap rkE) := by rw [List.flatMap_append]; exact hown6
  clear hown4 hg6 y1 hb4 hown6 hB4
  rw [rounds_succ]
  go_wp2
  go_ret
  exact ⟨A9, c9, rfl, hfin, hB6⟩
theorem prIns0_c (p : Option Addr) (cap : Nat) (fv : Value) (w : World) :
    Calls Tryz.prog 363 #[.slice p 0 cap, .int .i64 0, .int .i64 0, fv] w fun e w' => e = .returned (.tuple #[]) ∧ w' = w := by
  go_enter Tryz.func363, Tryz.ntmps363
  go_wp2
  refine wp_loop_rounds 1 ?_
  rw [rounds_succ]
  go_wp2
  go_end0
  exact ⟨rfl, rfl⟩
theorem prFunc0_c (p : Option Addr) (cap : Nat) (fv : Value) (w : World) :
    Calls Tryz.prog 213 #[.slice p 0 cap, fv] w fun e w' => e = .returned (.tuple #[]) ∧ w' = w := by
  have hS : ∀ lim : Int, Calls Tryz.prog 284 #[.slice p 0 cap, .int .i64 0, .int .i64 0, .int .i64 lim, fv] w fun e w' => e = .returned (.tuple #[]) ∧ w' = w := by
    intro lim
    have hI := Lib.hid (prIns0_c p cap fv w)
    go_enter Tryz.func284, Tryz.ntmps284
    go_wp2
    refine wp_loop_rounds 1 ?_
    rw [rounds_succ]
    go_wp2_with fail
    refine hI.out.mono ?_; rintro e w' ⟨rfl, rfl⟩
    go_wp2
    (try simp only [Exit.inBlock, Exit.then]); refine bodyPost_ret (results_none rfl _ _ _) rfl ?_
    exact ⟨rfl, rfl⟩
  have hBi := Lib.hid (fun W => Tryz.bits_Len 0 W (by omega) (by omega))
  go_enter Tryz.func213, Tryz.ntmps213
  go_wp2_with fail
  refine (hBi.out _).mono ?_; rintro e w' ⟨rfl, rfl⟩
  go_wp2_with fail
  refine (hS _).mono ?_; rintro e w' ⟨rfl, rfl⟩
  go_wp2
  go_end0
  exact ⟨rfl, rfl⟩
structure MV (w : World) (b9 bm q : Nat) (D : DataW Unit) (v : Int) (wx : World) : Prop where
  m : MI wx bm q D
  h9 : wx.heap[b9]? = some (.cells #[.int .i64 v] 3 (0, 0))
  l1 : w.heap.size ≤ b9
  l2 : b9 < bm
  bel : Below w.heap.size w wx
section
variable {w wx w' : World} {b9 bm q : Nat} {D : DataW Unit} {v : Int}
theorem MV.below (h : MV w b9 bm q D v wx) (B : Below wx.heap.size wx w') : MV w b9 bm q D v w' :=
  ⟨h.m.kept (row := none) (grown_of_below B) (by simp), blk_below h.h9 B, h.l1, h.l2, below_next h.bel B⟩
theorem MV.set9 (h : MV w b9 bm q D v wx) (v' : Int) : MV w b9 bm q D v' (wx.setCell ⟨b9, 0, none⟩ (.int .i64 v')) := by
  have hg : wx.grownBy (wx.setCell ⟨b9, 0, none⟩ (.int .i64 v')) (some b9) := grown_setCell (grown_refl wx _) (.inl rfl) _
  have hl2 := h.l2
  refine ⟨h.m.kept hg (fun e => by injection e with e; omega), ?_, h.l1, h.l2, h.bel.trans (grown_below hg h.l1 h.bel.size)⟩
  exact blk_set h.h9 0 (.int .i64 v')
theorem MV.put (h : MV w b9 bm q D v wx) {q' : Nat} {D' : DataW Unit} (ho : MI w' bm q' D') (hg : wx.grownBy w' (some bm)) : MV w b9 bm q' D' v w' :=
  ⟨ho, blk_grown h.h9 hg (fun e => by injection e with e; have := h.l2; omega), h.l1, h.l2, h.bel.trans (grown_below hg (by have := h.l1; have := h.l2; omega) h.bel.size)⟩
end
theorem rk_keep9 {w : World} {A : Option Addr} {n : Nat} {l : List Rk} {b9 : Nat} {v v' : Int} (h : RRk w A n l) (h9 : w.heap[b9]? = some (.cells #[.int .i64 v] 3 (0, 0))) : RRk (w.setCell ⟨b9, 0, none⟩ (.int .i64 v')) A n l := h.keep (T := 3) (by decide) (Keep.of_grown h9 (grown_setCell (grown_refl w _) (.inl rfl) _))
theorem rankTop_c (A B : Option Addr) (n c m c2 : Nat) (l : List Sd) (v : List Vd) (w : World) (h : RSd w A n l) (hv : RVd w B m v) (hn : n ≤ 19) :
    Calls Tryz.prog 15 #[.slice A n c, .slice B m c2] w (RetRk w (rankE l v) (rankD 1 l v)) := by
  have hR := Lib.hid (rank_c A B n c m c2 l v 1 w h hv hn (by omega) (by omega))
  generalize rankE l v = E at *
  generalize rankD 1 l v = D at *
  clear h hv
  go_enter Tryz.func15, Tryz.ntmps15
  go_wp2_with fail
  refine hR.out.mono ?_; rintro e w1 ⟨A', n', c', rfl, hr, hB, hN⟩
  have H := Lib.hid (And.intro hr (And.intro hB hN))
  clear hr hB hR hN
  go_wp2
  go_ret2
  exact ⟨A', n', c', rfl, H.out.1, H.out.2.1, H.out.2.2⟩
set_option maxHeartbeats 6400000 in
set_option maxRecDepth 100000 in
theorem moved_c (A B : Option Addr) (n c m d : Nat) (l : List Rk) (w : World) (hA : RRk w A n l) (hB : RRk w B m l) (hAn : A = none → c = 0) (hBn : B = none → d = 0) (hn : n ≤ 300) (hok : ∀ x ∈ l, RkOk x) (hnd : (l.map Rk.who).Nodup) :
    Calls Tryz.prog 100 #[.slice A n c, .slice B m d] w fun e w' => e = .returned (.tuple #[.slice none 0 0, .int .i64 0]) ∧ Below w.heap.size w w' := by
  obtain rfl : n = m := by rw [← hA.len, hB.len]
  have hC1 := Lib.hid (fun W h => checkRankedOk_c A n c l W h hn hok hnd)
  have hC2 := Lib.hid (fun W h => checkRankedOk_c B n d l W h hn hok hnd)
  have hCC := Lib.hid (fun z W hz h1 h2 => concatK_c A B n c n d z l l W hz h1 h2 hAn hBn (by omega) (by omega))
  have hS := Lib.hid (fun fv W => prFunc0_c none 0 fv W)
  have hR1 := Lib.hid (fun W h => hA.below (w' := W) h)
  have hR2 := Lib.hid (fun W h => hB.below (w' := W) h)
  have hlen := Lib.hid hA.len
  have hbd := Lib.hid (fun x (hx : x ∈ l) => show 0 ≤ x.rank ∧ x.rank ≤ 300 from (hok x hx).2.1)
  have hky := Lib.hid (fun x (hx : x ∈ l) => (key_small (hok x hx).1).2)
  have hrk := Lib.hid (fun x (hx : x ∈ l) => rankAt_mem hnd hx)
  have htk := Lib.hid (fun k (x : Rk) (hx : l[k]? = some x) => show l.take (k + 1) = l.take k ++ [x] by rw [List.take_add_one, hx]; rfl)
  have htA := Lib.hid (show l.take n = l from List.take_of_length_le (by rw [hA.len]; exact Nat.le_refl _))
  have hll := Lib.hid (show (l ++ l).length = n + n by rw [List.length_append, hA.len])
  have hmem := Lib.hid (fun x (hx : x ∈ l ++ l) => show x ∈ l by rcases List.mem_append.1 hx with h | h <;> exact h)
  have hz := heap_alloc_new w (.cells #[.slice A n c, .slice B n d] 34 (0, 0))
  have hB0 := below_new w (.cells #[.slice A n c, .slice B n d] 34)
  clear hok hnd hA hB hAn hBn
  have hmm := @run_makeMap Tryz.prog
  have z0 := (blk_facts hz).1 0
  have z1 := (blk_facts hz).1 1
  go_enter Tryz.func100, Tryz.ntmps100
  go_wp2
  refine wp_loop_rounds 3 ?_
  rw [rounds_succ]
  go_wp2_with fail
  refine (hC1.out _ (hR1.out _ hB0)).mono ?_; rintro e w1 ⟨rfl, B1⟩
  have hB1 := below_next hB0 B1
  have hz1 := blk_below hz B1
  clear z0 z1 hz hB0 B1 hC1
  have z1 := (blk_facts hz1).1 1
  go_wp2_with fail
  rw [rounds_succ]
  go_wp2_with fail
  refine (hC2.out _ (hR2.out _ hB1)).mono ?_; rintro e w2 ⟨rfl, B2⟩
  have hB2 := below_next hB1 B2
  clear z1 hz1 hB1 B2 hC2
  go_wp2_with fail
  rw [rounds_succ]
  have M0 : MV w w2.heap.size (w2.heap.size + 1) 0 (.map []) 1 ((w2.alloc (.cells #[.int .i64 1] 3)).alloc (.map #[] 0)) := by
    have h1 := mi_new (w2.alloc (.cells #[.int .i64 1] 3))
    rw [alloc_size] at h1
    exact ⟨h1, blk_alloc (heap_alloc_new w2 (.cells #[.int .i64 1] 3)) _, hB2.size, Nat.lt_succ_self _, (hB2.alloc hB2.size _).alloc (by have := hB2.size; simp; omega) _⟩
  go_wp2_with fail
  generalize (w2.alloc (.cells #[.int .i64 1] 3)).alloc (.map #[] 0) = w3 at *
  generalize w2.heap.size = b9 at *
  generalize hbm : b9 + 1 = bm at *
  clear hbm hB2
  go_loopw [38] (fun i wr => ∃ (k q : Nat) (D : DataW Unit), k ≤ n ∧ i = .int .i64 k ∧ q ≤ k ∧ MV w b9 bm q D 1 wr ∧ Hid (WasM D (l.take k))) (fun i _ => n - (intOf i).toNat)
  case atStart => exact ⟨0, 0, .map [], Nat.zero_le _, rfl, Nat.le_refl _, M0, Lib.hid WasM.nil⟩
  case round =>
    clear M0
    obtain ⟨k, q, D, hk, rfl, hq, K, hW⟩ := hrel
    by_cases hlt : k < n
    · obtain ⟨b, off, x, rfl, hbl, hx, c0, c1, c2, c3⟩ := RRk.at4 (hR1.out _ K.bel) hlt
      have hxm := List.mem_of_getElem? hx
      have hb1 := hbd.out x hxm
      have hsz := hky.out x hxm
      have hW2 : Hid (WasM (D.put (.string x.who.data.toList) (.lit (.int .i64 x.rank))) (l.take (k + 1))) := Lib.hid (by rw [htk.out k x hx]; exact hW.out.snoc x)
      obtain ⟨who, rank, time, fault⟩ := x
      dsimp only at *
      have K5 := K.below (below_new wr (.cells #[.string who, .int .i64 rank, .int .i64 time, .int .i64 fault] 48))
      have z0 := (blk_facts (heap_alloc_new wr (.cells #[.string who, .int .i64 rank, .int .i64 time, .int .i64 fault] 48))).1 0
      have z1 := (blk_facts (heap_alloc_new wr (.cells #[.string who, .int .i64 rank, .int .i64 time, .int .i64 fault] 48))).1 1
      have hm1 := K5.m
      clear hx hxm hW K
      go_wp2_with (at_mapUpdate; refine wpList_mapUpdate_own _ rfl _ _ _ 191 rfl 9 3 (string_keyed Tryz.underlying9) Tryz.underlying191 _ _ q _ rfl hm1 (by unfold maxLen; omega) _ _ _ rfl rfl (keyOf_string_mk Tryz.underlying9 (by unfold maxLen; omega)) _ [] (plainElem_int Tryz.underlying3 (by simp [Lit.wf, IntKind.min, IntKind.max, IntKind.signed, IntKind.bits]; omega)) ?_; intro w5 hown5 hg5)
      have K6 := K5.put hown5 hg5
      clear hm1 hown5 hg5 K5 c0 c1 c2 c3 z0 z1
      go_roundw
      case rel => exact ⟨k + 1, q + 1, _, by omega, by go_num, by omega, K6, hW2⟩
      case measure => simp [intOf]; omega
    · obtain rfl : k = n := by omega
      rw [htA.out] at hW
      have hz5 := heap_alloc_new wr (.cells #[.slice A k c, .slice B k d] 34 (0, 0))
      have K5 := K.below (below_new wr (.cells #[.slice A k c, .slice B k d] 34))
      clear K
      go_wp2_with fail
      refine (hCC.out _ _ hz5 (hR1.out _ K5.bel) (hR2.out _ K5.bel)).mono ?_; rintro e w6 ⟨A6, c6, rfl, hown, B6⟩
      have K6 := K5.below B6
      have hR6 : RRk w6 A6 (k + k) (l ++ l) := RN.of_own rkE_len hown hll.out (by omega)
      clear hown B6 hz5 K5 hCC
      go_wp2_with fail
      go_loopw [53] (fun i wx => ∃ (j : Nat) (v : Int), j ≤ k + k ∧ i = .int .i64 j ∧ 0 ≤ v ∧ v ≤ 301 ∧ MV w b9 bm q D v wx ∧ RRk wx A6 (k + k) (l ++ l)) (fun i _ => (k + k) - (intOf i).toNat)
      case atStart => exact ⟨0, 1, Nat.zero_le _, rfl, by omega, by omega, K6, hR6⟩
      case round =>
        clear K6 hR6
        rename World => wx
        obtain ⟨j, v, hj, rfl, v0, v1, K, hR⟩ := hrel
        by_cases hlt2 : j < k + k
        · obtain ⟨b, off, x, rfl, hbl, hx, c0, c1, c2, c3⟩ := RRk.at4 hR hlt2
          obtain ⟨hb1, hb2⟩ := hbd.out x (hmem.out x (List.mem_of_getElem? hx))
          obtain ⟨who, rank, time, fault⟩ := x
          dsimp only at *
          have K5 := K.below (below_new wx (.cells #[.string who, .int .i64 rank, .int .i64 time, .int .i64 fault] 48))
          have hR5 := hR.below (below_new wx (.cells #[.string who, .int .i64 rank, .int .i64 time, .int .i64 fault] 48))
          have z1 := (blk_facts (heap_alloc_new wx (.cells #[.string who, .int .i64 rank, .int .i64 time, .int .i64 fault] 48))).1 1
          have z9 := (blk_facts K5.h9).1 0
          have f9 := (blk_facts K5.h9).2 0
          have e1 : IntKind.i64.wrap (rank + 1) = rank + 1 := IntWalk.i64_in _ (by omega)
          have K7 := K5.set9 (max v (rank + 1))
          have hR7 := rk_keep9 (v' := max v (rank + 1)) hR5 K5.h9
          clear hx K hR hR5
          go_wp2
          go_roundw
          case rel => exact ⟨j + 1, max v (rank + 1), by omega, by go_num, by omega, by omega, K7, hR7⟩
          case measure => simp [intOf]; omega
        · obtain rfl : j = k + k := by omega
          clear hR
          go_wp2_with fail
          go_loopw [16, 66] (fun u i wy => ∃ j : Nat, j ≤ k ∧ i = .int .i64 j ∧ u = .slice none 0 0 ∧ MV w b9 bm q D v wy) (fun _ i _ => k - (intOf i).toNat)
          case atStart => exact ⟨0, Nat.zero_le _, rfl, rfl, K⟩
          case round =>
            clear K
            rename World => wy
            obtain ⟨j, hj, rfl, rfl, K⟩ := hrel
            by_cases hlt3 : j < k
            · obtain ⟨b, off, x, rfl, hbl, hx, c0, c1, c2, c3⟩ := RRk.at4 (hR2.out _ K.bel) hlt3
              have hxm := List.mem_of_getElem? hx
              have hra := hrk.out x hxm
              have hsz := hky.out x hxm
              obtain ⟨who, rank, time, fault⟩ := x
              dsimp only at *
              have K5 := K.below (below_new wy (.cells #[.string who, .int .i64 rank, .int .i64 time, .int .i64 fault] 48))
              have z0 := (blk_facts (heap_alloc_new wy (.cells #[.string who, .int .i64 rank, .int .i64 time, .int .i64 fault] 48))).1 0
              have z1 := (blk_facts (heap_alloc_new wy (.cells #[.string who, .int .i64 rank, .int .i64 time, .int .i64 fault] 48))).1 1
              obtain ⟨cv, t, hrun, hat⟩ := mi_lookOk K5.m who (by unfold maxLen; omega)
              rw [hW.out.2 who, hra] at hat
              obtain rfl : rank = cv := by injection hat with e; injection e
              clear hx hxm K hat hra
              have hne : (rank != rank) = false := by simp
              cases t
              · go_wp2
                go_roundw
                case rel => exact ⟨j + 1, by omega, by go_num, rfl, K5⟩
                case measure => simp [intOf]; omega
              · go_wp2
                go_roundw
                case rel => exact ⟨j + 1, by omega, by go_num, rfl, K5⟩
                case measure => simp [intOf]; omega
            · obtain rfl : j = k := by omega
              have hbel := K.bel
              go_wp2_with fail
              refine (hS.out _ _).mono ?_; rintro e w' ⟨rfl, rfl⟩
              go_wp2
              go_ret2
              exact ⟨rfl, hbel⟩
end Go.Proofs.YtklggnglaeagpaaGreatDoor
