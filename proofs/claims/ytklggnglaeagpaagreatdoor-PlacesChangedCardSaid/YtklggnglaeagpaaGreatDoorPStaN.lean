import Derived.Test.YtklggnglaeagpaaGreatDoorPStartC
import Derived.Test.YtklggnglaeagpaaGreatDoorPSeedM
import Derived.Test.YtklggnglaeagpaaGreatDoorPP23
import Derived.BigGuardPart
import Derived.Deep.DeepCutAuto
import Derived.Deep.QuietTactic
import Derived.BigQuiet
import Derived.Deep.RegionHeld3
import Derived.Test.YtklggnglaeagpaaGreatDoorPGoneC
/- tumbref1.byStart, tumbref1.StartsFault: the document's errors of starts are the program's. -/
namespace Go.Proofs.YtklggnglaeagpaaGreatDoor
open Go.RowKit Go.Shelf Go.Lib Go.Sort
open Go.Maps (Keyed string_keyed int_keyed keyOf_int_mk)
open Go.WideMaps (keyOf_string_mk)
set_option linter.unusedVariables false

set_option maxRecDepth 100000 in
theorem byStart_c (x y : Sp) (W : World) : Calls Tryz.prog 203 (#[.agg (spE x).toArray, .agg (spE y).toArray] ++ #[]) W fun e w' => e = .returned (.int .i64 (spCf x y)) ∧ Below W.heap.size W w' ∧ W.drawn ≤ w'.drawn := by
  have hV := Lib.hid (show spCf x y = orV [Lib.compareInt x.heat y.heat, Lib.compareInt x.lane y.lane] from rfl)
  generalize spCf x y = V at *
  obtain ⟨a, b, c⟩ := x
  obtain ⟨a', b', c'⟩ := y
  dsimp only [spE] at *
  have hC1 := Lib.hid (fun W => show Calls Tryz.prog 121 #[.int .i64 b, .int .i64 b'] W fun e w' => e = .returned (.int .i64 (Lib.compareInt b b')) ∧ W = w' from (Tryz.cmp_Compare_int b b' W).mono fun _ _ ⟨h1, h2⟩ => ⟨h1, h2.symm⟩)
  have hC2 := Lib.hid (fun W => show Calls Tryz.prog 121 #[.int .i64 c, .int .i64 c'] W fun e w' => e = .returned (.int .i64 (Lib.compareInt c c')) ∧ W = w' from (Tryz.cmp_Compare_int c c' W).mono fun _ _ ⟨h1, h2⟩ => ⟨h1, h2.symm⟩)
  generalize hu : Lib.compareInt b b' = u at *
  generalize hv : Lib.compareInt c c' = v at *
  clear hu hv
  have hb0 := heap_alloc_new W (.cells #[.string a, .int .i64 b, .int .i64 c] 153)
  have hb1 := blk_alloc hb0 (.cells #[.string a', .int .i64 b', .int .i64 c'] 153)
  have hb2 := heap_alloc_new (W.alloc (.cells #[.string a, .int .i64 b, .int .i64 c] 153)) (.cells #[.string a', .int .i64 b', .int .i64 c'] 153)
  rw [alloc_size] at hb2
  have hBB := below_box (below_box (Below.refl ((W.alloc (.cells #[.string a, .int .i64 b, .int .i64 c] 153)).alloc (.cells #[.string a', .int .i64 b', .int .i64 c'] 153)).heap.size _))
  have hD : ((W.alloc (.cells #[.string a, .int .i64 b, .int .i64 c] 153)).alloc (.cells #[.string a', .int .i64 b', .int .i64 c'] 153)).drawn = W.drawn := rfl
  go_enter Tryz.func203, Tryz.ntmps203
  go_wp2_with fail
  generalize (W.alloc (.cells #[.string a, .int .i64 b, .int .i64 c] 153)).alloc (.cells #[.string a', .int .i64 b', .int .i64 c'] 153) = w5 at *
  generalize hbx : W.heap.size = bx at *
  have z1 := (blk_facts hb1).1 1
  have z2 := (blk_facts hb1).1 2
  have y1 := (blk_facts hb2).1 1
  have y2 := (blk_facts hb2).1 2
  clear hb0
  go_region_held3 (fun w' => w'.cell? ⟨bx, 1, none⟩ = some (.int .i64 b) ∧ w'.cell? ⟨bx, 2, none⟩ = some (.int .i64 c) ∧ w'.cell? ⟨bx + 1, 1, none⟩ = some (.int .i64 b') ∧ w'.cell? ⟨bx + 1, 2, none⟩ = some (.int .i64 c')) (go_keep)
    (first
      | (go_at_call 121; with_reducible refine (hC1.out _).mono ?_; rintro e w' ⟨rfl, rfl⟩)
      | (go_at_call 121; with_reducible refine (hC2.out _).mono ?_; rintro e w' ⟨rfl, rfl⟩)
      | (go_at_call 234; refine (orI2_c _ _ _ [u, v] _ (R1.litAt _ _ _ _ (by simp) rfl (by simp)).drew).mono ?_; rintro e w' ⟨rfl, rfl⟩))
  have hz := below_drewN (hBB.alloc (by have := hBB.size; omega) (.cells #[.int .i64 u, .int .i64 v] 3)) 1
  go_wp2
  go_ret
  exact ⟨ret_i hV.out.symm, hbx ▸ hz, by show W.drawn ≤ w5.drawn + 1; omega⟩
abbrev MIB (w : World) (b n : Nat) (D : DataW Unit) : Prop := w.ownsMap Tryz.prog 3 (plainElem Tryz.prog 4) b n D
/-- the heats that were met: how many, and the last one -/
def HM (D : DataW Unit) (cnt : Nat) (last : Int) : Prop := Go.Maps.Tidy D ∧ Go.Maps.IsMap D ∧ Go.Maps.size D = cnt ∧ (cnt : Int) ≤ last ∧ (∀ h, last < h → Go.Maps.has D (.int .i64 h) = false) ∧ ((last = 0 ∧ cnt = 0) ∨ Go.Maps.has D (.int .i64 last) = true)
theorem HM.nil : HM (.map []) 0 0 := ⟨Go.Maps.tidy_empty, Go.Maps.isMap_empty, rfl, Int.le_refl _, fun h _ => rfl, .inl ⟨rfl, rfl⟩⟩
theorem HM.put {D : DataW Unit} {cnt : Nat} {last x : Int} (h : HM D cnt last) (hx : last ≤ x) (h1 : 1 ≤ x) : ∃ cnt' : Nat, HM (D.put (.int .i64 x) (.lit (.bool true))) cnt' x ∧ decide ((cnt' : Int) < x) = (decide ((cnt : Int) < last) || decide (last + 1 < x)) ∧ cnt' ≤ cnt + 1 := by
  obtain ⟨a1, a2, a3, a4, a5, a6⟩ := h
  have hk : WideAt.IsKeyLit (.int .i64 x) := trivial
  have hz := Go.Maps.size_put (k := .int .i64 x) a1 (.lit (.bool true))
  have hs := Go.Maps.has_put_same (k := .int .i64 x) a2 hk (.lit (.bool true))
  have ho : ∀ h, x < h → Go.Maps.has (D.put (.int .i64 x) (.lit (.bool true))) (.int .i64 h) = false := fun h hh => by
    rw [Go.Maps.has_put_other (fun e => by injection e with _ e; omega)]
    exact a5 h (by omega)
  by_cases e : x = last
  · subst e
    have hh : Go.Maps.has D (.int .i64 x) = true := by
      rcases a6 with ⟨h0, _⟩ | h0
      · omega
      · exact h0
    rw [hh, if_pos rfl] at hz
    exact ⟨cnt, ⟨a1.put hk _, a2.put _ _, hz.trans a3, a4, ho, .inr hs⟩, by rw [decide_eq_false (show ¬ x + 1 < x by omega), Bool.or_false], by omega⟩
  · rw [a5 x (by omega), if_neg (by simp)] at hz
    refine ⟨cnt + 1, ⟨a1.put hk _, a2.put _ _, by rw [hz, a3], by push_cast; omega, ho, .inr hs⟩, ?_, by omega⟩
    rw [Bool.eq_iff_iff, Bool.or_eq_true, decide_eq_true_iff, decide_eq_true_iff, decide_eq_true_iff]
    push_cast
    omega
/-- names met: the program's set and flag, the document's list -/
def TwI (seen : List ByteArray) (tw : Bool) (N : List ByteArray) : Prop := (∀ s, seenB s seen = true ↔ s ∈ N) ∧ (tw = true ↔ ¬ N.Nodup)
theorem TwI.nil : TwI [] false [] := ⟨fun s => by simp [seenB], by simp⟩
theorem TwI.snoc {seen : List ByteArray} {tw : Bool} {N : List ByteArray} (h : TwI seen tw N) (x : ByteArray) : TwI (x :: seen) (tw || seenB x seen) (N ++ [x]) := by
  refine ⟨fun s => ?_, ?_⟩
  · show (decide (x = s) || seenB s seen) = true ↔ _
    rw [Bool.or_eq_true, decide_eq_true_iff, h.1 s, List.mem_append, List.mem_singleton]
    constructor
    · rintro (h | h)
      · exact .inr h.symm
      · exact .inl h
    · rintro (h | h)
      · exact .inr h
      · exact .inl h.symm
  · have e : (N ++ [x]).Nodup ↔ N.Nodup ∧ x ∉ N := by
      rw [List.nodup_append]
      constructor
      · rintro ⟨a, _, b⟩
        exact ⟨a, fun hx => b x hx x (List.mem_singleton.2 rfl) rfl⟩
      · rintro ⟨a, b⟩
        exact ⟨a, by simp, fun y hy z hz e => by obtain rfl := List.mem_singleton.1 hz; subst e; exact b hy⟩
    rw [Bool.or_eq_true, h.1 x, h.2, e]
    constructor
    · rintro (h | h)
      · exact fun h9 => h h9.1
      · exact fun h9 => h9.2 h
    · intro h9
      rcases Classical.em N.Nodup with h8 | h8
      · exact .inr (Classical.not_not.1 (fun h7 => h9 ⟨h8, h7⟩))
      · exact .inl h8
theorem spCf_heat {x y : Sp} (h : spCf x y < 0) : x.heat ≤ y.heat := by
  rw [spCf_val] at h
  unfold Lib.compareInt at h
  split at h <;> (repeat' (split at h)) <;> omega
theorem stErr_prev {p : Pl} {y x : Sp} (h : stErr p (some y) x = 0) : y.heat ≤ x.heat := by
  unfold stErr at h
  split at h
  · cases h
  · split at h
    · cases h
    · dsimp only at h
      split at h
      · cases h
      · exact spCf_heat (by omega)
structure SfK (w : World) (p : Pl) (bm q : Nat) (D : DataW Unit) (base : Nat) (u : Value) (N : List ByteArray) (wx : World) : Prop where
  m : MIB wx bm q D
  o : wx.ownsRow base 9 1 u N.length (N.map Value.string)
  pb : PoolB w.heap.size p wx
  bel : Below w.heap.size w wx
  l1 : w.heap.size < bm
  l2 : bm < base
  l3 : base ≤ wx.heap.size
section
variable {w wx w' : World} {p : Pl} {bm q base : Nat} {D : DataW Unit} {u : Value} {N : List ByteArray}
theorem SfK.below (h : SfK w p bm q D base u N wx) (B : Below wx.heap.size wx w') : SfK w p bm q D base u N w' :=
  ⟨h.m.kept (row := none) (grown_of_below B) (by simp), own_below h.o B, h.pb.keep _ _ B, below_next h.bel B, h.l1, h.l2, Nat.le_trans h.l3 B.size⟩
theorem SfK.put (h : SfK w p bm q D base u N wx) {q9 : Nat} {D9 : DataW Unit} (ho : MIB w' bm q9 D9) (hg : wx.grownBy w' (some bm)) : SfK w p bm q9 D9 base u N w' := by
  have a1 := h.l1
  have a2 := h.l2
  exact ⟨ho, own_keep h.o h.l2 hg, blk_grown h.pb hg (fun e => by have := Option.some.inj e; omega), h.bel.trans (grown_below hg (by omega) h.bel.size), h.l1, h.l2, Nat.le_trans h.l3 hg.size⟩
theorem SfK.app (h : SfK w p bm q D base u N wx) {v9 : Value} {x : ByteArray} (ho : w'.ownsRow base 9 1 v9 (N.length + 1) (N.map Value.string ++ [.string x])) (hg : wx.grownBy w' u.ownBlock) : SfK w p bm q D base v9 (N ++ [x]) w' := by
  have a1 := h.l1
  have a2 := h.l2
  have hb : ∀ i, u.ownBlock = some i → base ≤ i := own_row_lt h.o
  refine ⟨h.m.kept hg (fun e => by have := hb _ e.symm; omega), by rw [List.length_append, List.map_append]; exact ho, blk_grown h.pb hg (fun e => by have := hb _ e.symm; omega), below_own h.bel h.o hg h.bel.size (by omega), h.l1, h.l2, Nat.le_trans h.l3 hg.size⟩
end
set_option maxHeartbeats 6400000 in
set_option maxRecDepth 100000 in
theorem startsFault_c (p : Pl) (hp0 : poolErr p = 0) (A : Option Addr) (n c : Nat) (l : List Sp) (w : World) (h : RSp w A n l) :
    Calls Tryz.prog 89 #[p.val, .slice A n c] w fun e w' => e = .returned (.int .i64 (startsErr p l)) ∧ Below w.heap.size w w' := by
  have hR := Lib.hid (fun W B => h.below (w' := W) B)
  have hbd := h.bd
  have hl := Lib.hid h.len
  have hE := Lib.hid (show startsErr p l = if 300 < n then 2 else startsGo p [] false false 0 none l by unfold startsErr; rw [h.len, hp0, if_neg (by simp)])
  have hGa := Lib.hid (fun seen tw gap last k x (h : l[k]? = some x) => startsGo_at (p := p) seen tw gap last h)
  have hG0 := Lib.hid (fun seen (tw gap : Bool) last o => show startsGo p seen tw gap last o [] = if tw then 6 else if gap then 8 else 0 from rfl)
  have hSe := Lib.hid (fun (o : Option Sp) (x : Sp) => show stErr p o x = if keyB x.who = false then 5 else if ¬ ((1 ≤ x.heat ∧ x.heat ≤ 60) ∧ (p.lo ≤ x.lane ∧ x.lane ≤ p.hi)) then 1 else match o with
    | some y => if 0 ≤ spCf y x then 7 else 0
    | none => 0 from rfl)
  have hPv := Lib.hid (fun (y x : Sp) (h : stErr p (some y) x = 0) => stErr_prev h)
  have hP0 : PoolB w.heap.size p (w.alloc (.cells p.cells 131)) := heap_alloc_new w _
  have hB0 := below_new w (.cells p.cells 131)
  have hPk := Lib.hid (fun a v (h : PoolB w.heap.size p a) B => PoolB.keep a v h B)
  have hPa := Lib.hid (fun v (h : PoolB w.heap.size p v) => h.at_)
  have hmm := @run_makeMap Tryz.prog
  clear h hp0
  generalize startsErr p l = E at *
  generalize startsGo p = SG at *
  obtain ⟨lo, hi, le, ci⟩ := p
  generalize stErr ⟨lo, hi, le, ci⟩ = SE at *
  dsimp only [Pl.val, Pl.cells] at *
  by_cases hbig : 300 < n
  · obtain rfl : E = 2 := by rw [hE.out, if_pos hbig]
    have q0 : (300 : Int) < (n : Int) := by omega
    clear hE hGa hG0 hSe hPv
    go_enter Tryz.func89, Tryz.ntmps89
    go_wp2
    go_ret
    exact ⟨rfl, hB0⟩
  have q0 : ¬ (300 : Int) < (n : Int) := by omega
  have hE2 := Lib.hid (show E = SG [] false false 0 none l by rw [hE.out, if_neg hbig])
  have hn : n ≤ 300 := by omega
  clear hE hbig
  have K0 : SfK w ⟨lo, hi, le, ci⟩ (w.heap.size + 1) 0 (.map []) (w.heap.size + 1 + 1) (.slice none 0 0) [] ((w.alloc (.cells #[.int .i64 lo, .int .i64 hi, .int .i64 le, .int .i64 ci] 131)).alloc (.map #[] 0)) := by
    have hBa := below_new (w.alloc (.cells #[.int .i64 lo, .int .i64 hi, .int .i64 le, .int .i64 ci] 131)) (.map #[] 0)
    have hmb : MIB ((w.alloc (.cells #[.int .i64 lo, .int .i64 hi, .int .i64 le, .int .i64 ci] 131)).alloc (.map #[] 0)) (w.alloc (.cells #[.int .i64 lo, .int .i64 hi, .int .i64 le, .int .i64 ci] 131)).heap.size 0 (.map []) := World.ownsMap_made _ _ _ _
    rw [alloc_size] at hmb
    exact ⟨hmb, World.ownsRow_nil _ _ _ _, hPk.out _ _ hP0 hBa, below_next hB0 hBa, by omega, by omega, by simp⟩
  clear hP0 hB0
  go_enter Tryz.func89, Tryz.ntmps89
  go_wp2_with fail
  generalize (w.alloc (.cells #[.int .i64 lo, .int .i64 hi, .int .i64 le, .int .i64 ci] 131)).alloc (.map #[] 0) = w3 at *
  generalize hbm : w.heap.size + 1 = bm at *
  generalize hbs : bm + 1 = base at *
  go_loopw [5, 7, 8, 16] (fun u mo _ i wr => ∃ (k q cnt : Nat) (last : Int) (seen : List ByteArray) (tw : Bool) (N : List ByteArray) (D : DataW Unit), k ≤ n ∧ i = .int .i64 k ∧ mo = .int .i64 last ∧ (0 ≤ last ∧ last ≤ 60) ∧ q ≤ k ∧ N.length = k ∧ SfK w ⟨lo, hi, le, ci⟩ bm q D base u N wr ∧ Hid (HM D cnt last) ∧ Hid (TwI seen tw N) ∧ Hid (∀ y, prevSp l k = some y → last = y.heat) ∧ Hid (prevSp l k = none → last = 0) ∧ Hid (SG seen tw (decide ((cnt : Int) < last)) last (prevSp l k) (l.drop k) = SG [] false false 0 none l)) (fun _ _ _ i _ => n - (intOf i).toNat)
  case atStart => exact ⟨0, 0, 0, 0, [], false, [], .map [], Nat.zero_le _, rfl, rfl, by omega, Nat.le_refl _, rfl, K0, Lib.hid HM.nil, Lib.hid TwI.nil, Lib.hid (fun y h => by unfold prevSp at h; rw [if_pos rfl] at h; cases h), Lib.hid (fun _ => rfl), Lib.hid rfl⟩
  case round =>
    clear K0
    rename World => wr
    obtain ⟨k, q, cnt, last, seen, tw, N, D, hk, rfl, rfl, ⟨la0, la1⟩, hq, hNk, K, hHM, hTw, hLy, hLn, hG⟩ := hrel
    obtain ⟨A5, c5, hu⟩ := own_shape K.o
    subst hu
    have hNk' := Lib.hid hNk
    have hNn : N.length ≤ 300 := by omega
    clear hNk
    by_cases hlt : k < n
    · obtain ⟨b, off, x, rfl, hbl, hx, c0, c1, c2⟩ := RSp_at3 (hR.out _ K.bel) hlt
      have hst := Lib.hid (hGa.out seen tw (decide ((cnt : Int) < last)) last k x hx)
      have hsx := Lib.hid (hSe.out (prevSp l k) x)
      have hpx := Lib.hid (fun y h => hPv.out y x h)
      have hpk : prevSp l (k + 1) = some x := by unfold prevSp; rw [if_neg (by omega)]; exact hx
      have hpk' := Lib.hid hpk
      obtain ⟨who, heat, lane⟩ := x
      dsimp only at *
      have hn5 := heap_alloc_new wr (.cells #[.string who, .int .i64 heat, .int .i64 lane] 153)
      have hbd5 := below_new wr (.cells #[.string who, .int .i64 heat, .int .i64 lane] 153)
      have K5 := K.below hbd5
      have hbm7 : bm < wr.heap.size := Nat.lt_of_lt_of_le K.l2 K.l3
      have hne7 := Lib.hid (fun i hi => (K.o.lt i hi).2)
      have x0 := (blk_facts hn5).1 0
      have hKy := Lib.hid (key_c who (wr.alloc (.cells #[.string who, .int .i64 heat, .int .i64 lane] 153)))
      clear K hbd5 hpk
      go_wp2_with fail
      refine hKy.out.mono ?_; rintro e w6 ⟨rfl, B6⟩
      have K6 := K5.below B6
      have hb6 := blk_below hn5 B6
      have lb6 := lt_of_heap hb6
      generalize wr.heap.size = b7 at *
      clear hKy K5 hn5 x0 B6 c0 c1 c2
      obtain ⟨se, hse⟩ : ∃ se, SE (prevSp l k) ⟨who, heat, lane⟩ = se := ⟨_, rfl⟩
      rw [hse] at hst hsx
      have hse' := Lib.hid hse
      clear hse
      have hbelw := K6.bel
      obtain ⟨z0, z1, _, _⟩ := hPa.out _ K6.pb
      have x1 := (blk_facts hb6).1 1
      have x2 := (blk_facts hb6).1 2
      by_cases hky : keyB who = false
      · obtain rfl : E = 5 := by rw [hE2.out, ← hG.out, hst.out, hsx.out, if_pos hky, if_pos (by decide)]
        rw [hky]
        clear hst hsx hG hE2 hHM hTw hLy hLn K6 hky
        go_wp2
        go_ret
        exact ⟨rfl, hbelw⟩
      have hky1 : keyB who = true := by simpa using hky
      have hks := (key_small hky1).2
      rw [hky1]
      by_cases hrg : (1 ≤ heat ∧ heat ≤ 60) ∧ (lo ≤ lane ∧ lane ≤ hi)
      rotate_left
      · obtain rfl : E = 1 := by rw [hE2.out, ← hG.out, hst.out, hsx.out, if_neg hky, if_pos hrg, if_pos (by decide)]
        by_cases hr1 : 1 ≤ heat ∧ heat ≤ 60
        · have d1 : decide (1 ≤ heat ∧ heat ≤ 60) = true := decide_eq_true hr1
          have d2 : decide (lo ≤ lane ∧ lane ≤ hi) = false := decide_eq_false (fun h => hrg ⟨hr1, h⟩)
          clear hst hsx hG hE2 hHM hTw hLy hLn K6 hky hky1 hrg hr1
          go_wp2_with (go_at_call 115; refine (in_c _ _ _ _).mono ?_; rintro e w' ⟨rfl, rfl⟩; first | rw [d1] | rw [d2])
          go_ret
          exact ⟨rfl, hbelw⟩
        · have d1 : decide (1 ≤ heat ∧ heat ≤ 60) = false := decide_eq_false hr1
          clear hst hsx hG hE2 hHM hTw hLy hLn K6 hky hky1 hrg hr1
          go_wp2_with (go_at_call 115; refine (in_c _ _ _ _).mono ?_; rintro e w' ⟨rfl, rfl⟩; rw [d1])
          go_ret
          exact ⟨rfl, hbelw⟩
      have d1 : decide (1 ≤ heat ∧ heat ≤ 60) = true := decide_eq_true hrg.1
      have d2 : decide (lo ≤ lane ∧ lane ≤ hi) = true := decide_eq_true hrg.2
      have hh0 := hrg.1.1
      have hh1 := hrg.1.2
      have hsx2 := Lib.hid (show se = match prevSp l k with
        | some y => if 0 ≤ spCf y ⟨who, heat, lane⟩ then 7 else 0
        | none => 0 by rw [hsx.out, if_neg hky, if_neg (fun h => h hrg)])
      clear hsx hky hky1 hrg
      go_upto_region 13 with (go_at_call 115; refine (in_c _ _ _ _).mono ?_; rintro e w' ⟨rfl, rfl⟩; first | rw [d1] | rw [d2])
      go_cut [41] (fun s41 wx => ∃ v : Bool, s41 = .bool v ∧ (v = true → se = 7) ∧ (v = false → se = 0) ∧ SfK w ⟨lo, hi, le, ci⟩ bm q D base (.slice A5 N.length c5) N wx ∧ wx.heap[b7]? = some (.cells #[.string who, .int .i64 heat, .int .i64 lane] 153 (0, 0)))
      case first =>
        clear hst hG hE2 hHM hTw hLy hLn hse' hpx d1 d2
        by_cases hk0 : k = 0
        · have hp0 : prevSp l k = none := by unfold prevSp; rw [if_pos hk0]
          rw [hp0] at hsx2
          have hsx3 := Lib.hid (show se = 0 from hsx2.out)
          clear hsx2 hp0 hNk'
          subst hk0
          go_wp2
          go_quiet (fail)
          go_wp2
          go_meet
          case rel => exact ⟨false, rfl, (fun h => by cases h), (fun _ => hsx3.out), K6.below (below_drewN (Below.refl _ _) _), hb6⟩
        · obtain ⟨b', off', y, hA, hbl6, hy, p0, p1, p2⟩ := RSp_at3 (hR.out _ hbelw) (k := k - 1) (by omega)
          injection hA with hA
          injection hA with e1 e2
          subst e1 e2
          have hp0 : prevSp l k = some y := by unfold prevSp; rw [if_neg hk0]; exact hy
          rw [hp0] at hsx2
          have hsx4 : se = if 0 ≤ spCf y ⟨who, heat, lane⟩ then 7 else 0 := hsx2.out
          have hBy := Lib.hid (fun W => byStart_c y ⟨who, heat, lane⟩ W)
          obtain ⟨V, hV⟩ : ∃ V, spCf y ⟨who, heat, lane⟩ = V := ⟨_, rfl⟩
          rw [hV] at hBy hsx4
          have hsx5 := Lib.hid hsx4
          clear hsx2 hsx4
          have hkn : 0 < k := by omega
          obtain ⟨yw, yh, yl⟩ := y
          dsimp only [spE] at *
          have hkp : (0 : Int) < (k : Int) := by omega
          have k0 : (0 : Int) ≤ (k : Int) := by omega
          have kn : (k : Int) < (n : Int) := by omega
          have ki0 : (0 : Int) ≤ (k : Int) - 1 := by omega
          have ki1 : (k : Int) - 1 < (n : Int) := by omega
          have e8 : IntKind.i64.wrap ((k : Int) - 1) = (k : Int) - 1 := IntWalk.i64_in _ (by omega)
          have e9 : ((k : Int) - 1).toNat = k - 1 := by omega
          have v8 : decide (0 < k) = true := decide_eq_true (by omega)
          have v9 : decide ((0 : Int) < (k : Int)) = true := decide_eq_true (by omega)
          have u5 : (1 : Int) ≤ (k : Int) := by omega
          have u6 : (k : Int) - 1 < 9223372036854775808 := by omega
          have x0 := (blk_facts hb6).1 0
          clear hy hp0 hk0 hV
          have K6d := K6.below (below_drewN (Below.refl w6.heap.size w6) 1)
          have hb6d := blk_below hb6 (below_drewN (Below.refl w6.heap.size w6) 1)
          go_wp2_with fail
          go_region_held3 (fun w' => w'.cell? ⟨b, off + (k - 1) * 3, none⟩ = some (.string yw) ∧ w'.cell? ⟨b, off + (k - 1) * 3 + 1, none⟩ = some (.int .i64 yh) ∧ w'.cell? ⟨b, off + (k - 1) * 3 + 2, none⟩ = some (.int .i64 yl) ∧ w'.cell? ⟨b7, 0, none⟩ = some (.string who) ∧ w'.cell? ⟨b7, 1, none⟩ = some (.int .i64 heat) ∧ w'.cell? ⟨b7, 2, none⟩ = some (.int .i64 lane))
            (first | go_keep | with_reducible exact ⟨g0, g1, g2, g3, g4, g5⟩)
            (first
              | (go_at_call 203; refine (hBy.out _).mono ?_; rintro e w8 ⟨rfl, B8, _⟩; have g0 := (B8.cell (p := ⟨b, off + (k - 1) * 3, none⟩) hbl6).trans p0; have g1 := (B8.cell (p := ⟨b, off + (k - 1) * 3 + 1, none⟩) hbl6).trans p1; have g2 := (B8.cell (p := ⟨b, off + (k - 1) * 3 + 2, none⟩) hbl6).trans p2; have g3 := (B8.cell (p := ⟨b7, 0, none⟩) lb6).trans x0; have g4 := (B8.cell (p := ⟨b7, 1, none⟩) lb6).trans x1; have g5 := (B8.cell (p := ⟨b7, 2, none⟩) lb6).trans x2))
          have K8 := K6d.below B8
          have hb8 := blk_below hb6d B8
          clear g0 g1 g2 g3 g4 g5 p0 p1 p2 x0 x1 x2 e8 e9 B8 K6 K6d hb6 hb6d
          by_cases hv : 0 ≤ V
          · have hs7 := Lib.hid (show se = 7 by rw [hsx5.out]; exact if_pos hv)
            clear hsx5
            go_wp2
            go_meet
            case rel => exact ⟨true, by simp [hv], (fun _ => hs7.out), (fun h => by cases h), K8, hb8⟩
          · have hs0 := Lib.hid (show se = 0 by rw [hsx5.out]; exact if_neg hv)
            clear hsx5
            go_wp2
            go_meet
            case rel => exact ⟨false, by simp [hv], (fun h => by cases h), (fun _ => hs0.out), K8, hb8⟩
      case rest =>
        clear K6 hb6 lb6 x1 x2 z0 z1 hbelw hsx2
        obtain ⟨v, rfl, hv7, hv0, K8, hb8⟩ := hcut
        rename World => w8
        have hbelw := K8.bel
        cases v
        rotate_left
        · obtain rfl := hv7 rfl
          obtain rfl : E = 7 := by rw [hE2.out, ← hG.out, hst.out, if_pos (by decide)]
          clear hst hG hE2 hHM hTw hLy hLn K8 hv7 hv0
          go_wp2
          go_ret
          exact ⟨rfl, hbelw⟩
        · obtain rfl := hv0 rfl
          clear hv7 hv0
          have hle : last ≤ heat := by
            cases hpv : prevSp l k with
            | none => have := hLn.out hpv; omega
            | some y =>
              have h1 := hLy.out y hpv
              have h2 : y.heat ≤ heat := hpx.out y (by rw [← hpv]; exact hse'.out)
              omega
          obtain ⟨cnt', hHM2, hgap, hcn⟩ := hHM.out.put hle hh0
          have hHM2' := Lib.hid hHM2
          have hTw2 := Lib.hid (hTw.out.snoc who)
          have hst2 := Lib.hid (show SG (who :: seen) (tw || seenB who seen) (decide ((cnt' : Int) < heat)) heat (prevSp l (k + 1)) (l.drop (k + 1)) = SG [] false false 0 none l by rw [hgap, ← hG.out, hst.out, if_neg (by simp)])
          have hLy2 := Lib.hid (show ∀ y, prevSp l (k + 1) = some y → heat = y.heat from fun y h => by rw [hpk'.out] at h; obtain rfl := Option.some.inj h; rfl)
          have hLn2 := Lib.hid (show prevSp l (k + 1) = none → heat = 0 from fun h => by rw [hpk'.out] at h; cases h)
          clear hst hG hHM hTw hLy hLn hHM2 hgap hcn hse' hpx hpk'
          have x0 := (blk_facts hb8).1 0
          have hz8 := K8.l3
          go_wp2_with (first
            | (at_builtin; refine wpList_app (w := w8) rfl (.tmp 54) (.tmp 57) 97 rfl Tryz.underlying97 info_str rfl (by omega) (by omega) K8.o rfl rfl (by first | rfl | (simp; done)) rfl (by simp [Value.oneCell']) (by omega) hz8 ?_; intro v9 w9 hown9 hg9; have K9 := K8.app hown9 hg9; have hb9 := blk_grown hb8 hg9 (fun e => by have := hne7.out _ e.symm; omega); have x91 := (blk_facts hb9).1 1; have hm9 := K9.m)
            | (at_mapUpdate; refine wpList_mapUpdate_own _ rfl _ _ _ 277 rfl 3 4 (int_keyed Tryz.underlying3) Tryz.underlying277 _ _ q _ rfl hm9 (by unfold maxLen; omega) _ _ _ rfl rfl (keyOf_int_mk (a := heat) Tryz.underlying3 (by simp [Lit.wf, IntKind.min, IntKind.max, IntKind.signed, IntKind.bits]; omega)) _ [] (plainElem_bool Tryz.underlying4 true) ?_; intro w10 hown10 hg10; have K10 := K9.put hown10 hg10; have hb10 := blk_grown hb9 hg10 (fun e => by have := Option.some.inj e; omega); have x101 := (blk_facts hb10).1 1))
          go_roundw
          case rel => exact ⟨k + 1, q + 1, cnt', heat, who :: seen, tw || seenB who seen, N ++ [who], _, by omega, by go_num, by rw [Int.max_eq_right hle], ⟨by omega, by omega⟩, by omega, by rw [List.length_append, hNk'.out]; rfl, K10, hHM2', hTw2, hLy2, hLn2, hst2⟩
          case measure => simp [intOf]; omega
    · obtain rfl : k = n := by omega
      have hst := Lib.hid (show E = if tw then 6 else if (decide ((cnt : Int) < last)) then 8 else 0 by rw [hE2.out, ← hG.out, drop_end (by rw [hl.out]; exact Nat.le_refl _), hG0.out])
      have htw := hTw.out.2
      obtain ⟨hT1, hT2, hT3, hT4, hT5, hT6⟩ := hHM.out
      have hrs : RS 9 wr A5 N.length N := R1.of_own K.o (by omega)
      have hbelw := K.bel
      have hTc := Lib.hid (twice_c A5 N.length c5 N wr hrs (by omega))
      have hKb := Lib.hid (fun W (B : Below wr.heap.size wr W) => K.below B)
      clear hG hE2 hHM hTw hLy hLn hT1 hT2 hT5 hT6 hrs K
      go_wp2_with fail
      refine hTc.out.mono ?_; rintro e w5 ⟨rfl, B5⟩
      have K5 := hKb.out _ B5
      have hbel5 := K5.bel
      have hln := K5.m.len Tryz.underlying277
      rw [hT3] at hln
      clear K5 hKb hTc
      cases tw
      rotate_left
      · obtain rfl : E = 6 := by rw [hst.out]; rfl
        have hd : (!decide N.Nodup) = true := by rw [decide_eq_false (htw.1 rfl)]; rfl
        rw [hd]
        clear hst htw hd
        go_wp2
        go_ret
        exact ⟨rfl, hbel5⟩
      · have hd : (!decide N.Nodup) = false := by
          have : N.Nodup := Classical.not_not.1 (fun h => by have := htw.2 h; cases this)
          rw [decide_eq_true this]; rfl
        rw [hd]
        clear htw hd
        by_cases hgp : (cnt : Int) < last
        · obtain rfl : E = 8 := by rw [hst.out, if_neg (by simp), decide_eq_true hgp]; rfl
          have hne : ¬ (cnt : Int) = last := by omega
          clear hst
          go_wp2
          go_ret
          exact ⟨rfl, hbel5⟩
        · obtain rfl : E = 0 := by rw [hst.out, if_neg (by simp), decide_eq_false hgp]; rfl
          obtain rfl : (cnt : Int) = last := by omega
          clear hst
          go_wp2
          go_ret
          exact ⟨rfl, hbel5⟩
end Go.Proofs.YtklggnglaeagpaaGreatDoor

/- tumbref1.StartNames, tumbref1.SeedNames. -/
namespace Go.Proofs.YtklggnglaeagpaaGreatDoor
open Go.RowKit Go.Shelf Go.Lib Go.Sort
set_option linter.unusedVariables false

end Go.Proofs.YtklggnglaeagpaaGreatDoor
