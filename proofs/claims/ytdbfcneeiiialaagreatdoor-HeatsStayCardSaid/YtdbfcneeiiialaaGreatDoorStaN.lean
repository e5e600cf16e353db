import Derived.Test.YtdbfcneeiiialaaGreatDoorStartC
import Derived.Test.YtdbfcneeiiialaaGreatDoorSeedF
import Derived.Test.YtdbfcneeiiialaaGreatDoorApp2
import Derived.BigGuardPart
import Derived.Deep.DeepCutAuto
import Derived.Deep.QuietTactic
import Derived.BigQuiet
import Derived.Deep.RegionHeld3
import Derived.Test.YtdbfcneeiiialaaGreatDoorGoneC
/- tumbref1.byStart, tumbref1.StartsFault: the document's errors of starts are the program's. -/
namespace Go.Proofs.YtdbfcneeiiialaaGreatDoor
open Go.RowKit Go.Shelf Go.Lib Go.Sort
open Go.Maps (Keyed string_keyed int_keyed keyOf_int_mk)
open Go.WideMaps (keyOf_string_mk)
set_option linter.unusedVariables false

set_option maxRecDepth 100000 in
theorem byStart_c (x y : Sp) (W : World) : Calls Tryz.prog 208 (#[.agg (spE x).toArray, .agg (spE y).toArray] ++ #[]) W fun e w' => e = .returned (.int .i64 (spCf x y)) ∧ Below W.heap.size W w' ∧ W.drawn ≤ w'.drawn := by
  have hV := Lib.hid (show spCf x y = orV [Lib.compareInt x.heat y.heat, Lib.compareInt x.lane y.lane] from rfl)
  generalize spCf x y = V at *
  obtain ⟨a, b, c⟩ := x
  obtain ⟨a', b', c'⟩ := y
  dsimp only [spE] at *
  have hC1 := Lib.hid (fun W => show Calls Tryz.prog 87 #[.int .i64 b, .int .i64 b'] W fun e w' => e = .returned (.int .i64 (Lib.compareInt b b')) ∧ W = w' from (Tryz.cmp_Compare_int b b' W).mono fun _ _ ⟨h1, h2⟩ => ⟨h1, h2.symm⟩)
  have hC2 := Lib.hid (fun W => show Calls Tryz.prog 87 #[.int .i64 c, .int .i64 c'] W fun e w' => e = .returned (.int .i64 (Lib.compareInt c c')) ∧ W = w' from (Tryz.cmp_Compare_int c c' W).mono fun _ _ ⟨h1, h2⟩ => ⟨h1, h2.symm⟩)
  generalize hu : Lib.compareInt b b' = u at *
  generalize hv : Lib.compareInt c c' = v at *
  clear hu hv
  have hb0 := heap_alloc_new W (.cells #[.string a, .int .i64 b, .int .i64 c] 111)
  have hb1 := blk_alloc hb0 (.cells #[.string a', .int .i64 b', .int .i64 c'] 111)
  have hb2 := heap_alloc_new (W.alloc (.cells #[.string a, .int .i64 b, .int .i64 c] 111)) (.cells #[.string a', .int .i64 b', .int .i64 c'] 111)
  rw [alloc_size] at hb2
  have hBB := below_box (below_box (Below.refl ((W.alloc (.cells #[.string a, .int .i64 b, .int .i64 c] 111)).alloc (.cells #[.string a', .int .i64 b', .int .i64 c'] 111)).heap.size _))
  have hD : ((W.alloc (.cells #[.string a, .int .i64 b, .int .i64 c] 111)).alloc (.cells #[.string a', .int .i64 b', .int .i64 c'] 111)).drawn = W.drawn := rfl
  go_enter Tryz.func208, Tryz.ntmps208
  go_wp2_with fail
  generalize (W.alloc (.cells #[.string a, .int .i64 b, .int .i64 c] 111)).alloc (.cells #[.string a', .int .i64 b', .int .i64 c'] 111) = w5 at *
  generalize hbx : W.heap.size = bx at *
  have z1 := (blk_facts hb1).1 1
  have z2 := (blk_facts hb1).1 2
  have y1 := (blk_facts hb2).1 1
  have y2 := (blk_facts hb2).1 2
  clear hb0
  go_region_held3 (fun w' => w'.cell? ⟨bx, 1, none⟩ = some (.int .i64 b) ∧ w'.cell? ⟨bx, 2, none⟩ = some (.int .i64 c) ∧ w'.cell? ⟨bx + 1, 1, none⟩ = some (.int .i64 b') ∧ w'.cell? ⟨bx + 1, 2, none⟩ = some (.int .i64 c')) (go_keep)
    (first
      | (go_at_call 87; with_reducible refine (hC1.out _).mono ?_; rintro e w' ⟨rfl, rfl⟩)
      | (go_at_call 87; with_reducible refine (hC2.out _).mono ?_; rintro e w' ⟨rfl, rfl⟩)
      | (go_at_call 173; refine (orI2_c _ _ _ [u, v] _ (R1.litAt _ _ _ _ (by simp) rfl (by simp)).drew).mono ?_; rintro e w' ⟨rfl, rfl⟩))
  have hz := below_drewN (hBB.alloc (by have := hBB.size; omega) (.cells #[.int .i64 u, .int .i64 v] 3)) 1
  go_wp2
  go_ret
  exact ⟨ret_i hV.out.symm, hbx ▸ hz, by show W.drawn ≤ w5.drawn + 1; omega⟩
abbrev MIB (w : World) (b n : Nat) (D : DataW Unit) : Prop := w.ownsMap Tryz.prog 3 (plainElem Tryz.prog 4) b n D
/-- the heats that were met: how many, and the last one -/
def HM (D : DataW Unit) (cnt : Nat) (last : Int) : Prop := Go.Maps.Tidy D ∧ Go.Maps.IsMap D ∧ Go.Maps.size D = cnt ∧ (cnt : Int) ≤ last ∧ (∀ h, last < h → Go.Maps.has D (.int .i64 h) = false) ∧ ((last = 0 ∧ cnt = 0) ∨ Go.Maps.has D (.int .i64 last) = true)
theorem HM.nil : HM (.map []) 0 0 := ⟨Go.Maps.tidy_empty, Go.Maps.isMap_empty, rfl, Int.le_refl _, fun h _ => rfl, .inl ⟨rfl, rfl⟩⟩
theorem HM.put {D : DataW Unit} {cnt : Nat} {last x : Int} (h : HM D cnt last) (hx : last ≤ x) (h1 : 1 ≤ x) : ∃ cnt' : Nat, HM (D.put (.int .i64 x) (.lit (.bool true))) cnt' x ∧ decide ((cnt' : Int) < x) = (decide ((cnt : Int) < last) || decide (last + 1 < x)) ∧ cnt' ≤ cnt + 1 := by
  obtain ⟨a1, a2, a3, a4, a5, a6⟩ := h
  have hk : WideAt.IsKeyLit (.int .i64 x) := trivial
  have hz := Go.Maps.size_put (k := .int .i64 x) a1 (.lit (.bool true))
  have hs := Go.Maps.has_put_same (k := .int .i64 x) a2 hk (.lit (.bool true))
  have ho : ∀ h, x < h → Go.Maps.has (D.put (.int .i64 x) (.lit (.bool true))) (.int .i64 h) = false := fun h hh => by
    rw [Go.Maps.has_put_other (fun e => by injection e with _ e; omega)]
    exact a5 h (by omega)
  by_cases e : x = last
  · subst e
    have hh : Go.Maps.has D (.int .i64 x) = true := by
      rcases a6 with ⟨h0, _⟩ | h0
      · omega
      · exact h0
    rw [hh, if_pos rfl] at hz
    exact ⟨cnt, ⟨a1.put hk _, a2.put _ _, hz.trans a3, a4, ho, .inr hs⟩, by rw [decide_eq_false (show ¬ x + 1 < x by omega), Bool.or_false], by omega⟩
  · rw [a5 x (by omega), if_neg (by simp)] at hz
    refine ⟨cnt + 1, ⟨a1.put hk _, a2.put _ _, by rw [hz, a3], by push_cast; omega, ho, .inr hs⟩, ?_, by omega⟩
    rw [Bool.eq_iff_iff, Bool.or_eq_true, decide_eq_true_iff, decide_eq_true_iff, decide_eq_true_iff]
    push_cast
    omega
/-- names met: the program's set and flag, the document's list -/
def TwI (seen : List ByteArray) (tw : Bool) (N : List ByteArray) : Prop := (∀ s, seenB s seen = true ↔ s ∈ N) ∧ (tw = true ↔ ¬ N.Nodup)
theorem TwI.nil : TwI [] false [] := ⟨fun s => by simp [seenB], by simp⟩
theorem TwI.snoc {seen : List ByteArray} {tw : Bool} {N : List ByteArray} (h : TwI seen tw N) (x : ByteArray) : TwI (x :: seen) (tw || seenB x seen) (N ++ [x]) := by
  refine ⟨fun s => ?_, ?_⟩
  · show (decide (x = s) || seenB s seen) = true ↔ _
    rw [Bool.or_eq_true, decide_eq_true_iff, h.1 s, List.mem_append, List.mem_singleton]
    constructor
    · rintro (h | h)
      · exact .inr h.symm
      · exact .inl h
    · rintro (h | h)
      · exact .inr h
      · exact .inl h.symm
  · have e : (N ++ [x]).Nodup ↔ N.Nodup ∧ x ∉ N := by
      rw [List.nodup_append]
      constructor
      · rintro ⟨a, _, b⟩
        exact ⟨a, fun hx => b x hx x (List.mem_singleton.2 rfl) rfl⟩
      · rintro ⟨a, b⟩
        exact ⟨a, by simp, fun y hy z hz e => by obtain rfl := List.mem_singleton.1 hz; subst e; exact b hy⟩
    rw [Bool.or_eq_true, h.1 x, h.2, e]
    constructor
    · rintro (h | h)
      · exact fun h9 => h h9.1
      · exact fun h9 => h9.2 h
    · intro h9
      rcases Classical.em N.Nodup with h8 | h8
      · exact .inr (Classical.not_not.1 (fun h7 => h9 ⟨h8, h7⟩))
      · exact .inl h8
theorem spCf_heat {x y : Sp} (h : spCf x y < 0) : x.heat ≤ y.heat := by
  rw [spCf_val] at h
  unfold Lib.compareInt at h
  split at h <;> (repeat' (split at h)) <;> omega
theorem stErr_prev {p : Pl} {y x : Sp} (h : stErr p (some y) x = 0) : y.heat ≤ x.heat := by
  unfold stErr at h
  split at h
  · cases h
  · split at h
    · cases h
    · dsimp only at h
      split at h
      · cases h
      · exact spCf_heat (by omega)
structure SfK (w : World) (p : Pl) (bm q : Nat) (D : DataW Unit) (base : Nat) (u : Value) (N : List ByteArray) (wx : World) : Prop where
  m : MIB wx bm q D
  o : wx.ownsRow base 9 1 u N.length (N.map Value.string)
  pb : PoolB w.heap.size p wx
  bel : Below w.heap.size w wx
  l1 : w.heap.size < bm
  l2 : bm < base
  l3 : base ≤ wx.heap.size
section
variable {w wx w' : World} {p : Pl} {bm q base : Nat} {D : DataW Unit} {u : Value} {N : List ByteArray}
theorem SfK.below (h : SfK w p bm q D base u N wx) (B : Below wx.heap.size wx w') : SfK w p bm q D base u N w' :=
  ⟨h.m.kept (row := none) (grown_of_below B) (by simp), own_below h.o B, h.pb.keep _ _ B, below_next h.bel B, h.l1, h.l2, Nat.le_trans h.l3 B.size⟩
theorem SfK.put (h : SfK w p bm q D base u N wx) {q9 : Nat} {D9 : DataW Unit} (ho : MIB w' bm q9 D9) (hg : wx.grownBy w' (some bm)) : SfK w p bm q9 D9 base u N w' := by
  have a1 := h.l1
  have a2 := h.l2
  exact ⟨ho, own_keep h.o h.l2 hg, blk_grown h.pb hg (fun e => by have := Option.some.inj e; omega), h.bel.trans (grown_below hg (by omega) h.bel.size), h.l1, h.l2, Nat.le_trans h.l3 hg.size⟩
theorem SfK.app (h : SfK w p bm q D base u N wx) {v9 : Value} {x : ByteArray} (ho : w'.ownsRow base 9 1 v9 (N.length + 1) (N.map Value.string ++ [.string x])) (hg : wx.grownBy w' u.ownBlock) : SfK w p bm q D base v9 (N ++ [x]) w' := by
  have a1 := h.l1
  have a2 := h.l2
  have hb : ∀ i, u.ownBlock = some i → base ≤ i := own_row_lt h.o
  refine ⟨h.m.kept hg (fun e => by have := hb _ e.symm; omega), by rw [List.length_append, List.map_append]; exact ho, blk_grown h.pb hg (fun e => by have := hb _ e.symm; omega), below_own h.bel h.o hg h.bel.size (by omega), h.l1, h.l2, Nat.le_trans h.l3 hg.size⟩
end
end Go.Proofs.YtdbfcneeiiialaaGreatDoor

/- tumbref1.StartNames, tumbref1.SeedNames. -/
namespace Go.Proofs.YtdbfcneeiiialaaGreatDoor
open Go.RowKit Go.Shelf Go.Lib Go.Sort
set_option linter.unusedVariables false

set_option maxHeartbeats 1600000 in
set_option maxRecDepth 100000 in
theorem seedNames_c (A : Option Addr) (n c : Nat) (O : List Sd) (w1 : World) (h : RSd w1 A n O) (hn : n ≤ 1000) : Calls Tryz.prog 47 #[.slice A n c] w1 fun e w' => ∃ A' n' c', e = .returned (.slice A' n' c') ∧ RS 9 w' A' n' (O.map Sd.who) ∧ Below w1.heap.size w1 w' := by
  have hOl := Lib.hid h.len
  have hR := Lib.hid (fun W B => h.below (w' := W) B)
  clear h
  go_enter Tryz.func47, Tryz.ntmps47
  go_wp2_with fail
  go_loopw [3, 8] (fun u i wr => ∃ k : Nat, k ≤ n ∧ i = .int .i64 k ∧ NL w1 u ((O.take k).map Sd.who) wr) (fun _ i _ => n - (intOf i).toNat)
  case atStart => exact ⟨0, Nat.zero_le _, rfl, NL.start w1⟩
  case round =>
    obtain ⟨k, hk, rfl, K⟩ := hrel
    obtain ⟨Au, cu, rfl⟩ := own_shape K.own
    have hlk := Lib.hid (show ((O.take k).map Sd.who).length = k by rw [List.length_map, List.length_take, hOl.out]; omega)
    rw [hlk.out] at K ⊢
    by_cases hlt : k < n
    · obtain ⟨b, off, x, rfl, hbl, hx, c0, c1⟩ := RSd_at2 (hR.out _ K.bel) hlt
      have htk := Lib.hid (show (O.take (k + 1)).map Sd.who = (O.take k).map Sd.who ++ [x.who] by rw [List.take_add_one, hx, List.map_append]; rfl)
      obtain ⟨who, time⟩ := x
      dsimp only at *
      have K5 := K.below (below_new wr (.cells #[.string who, .int .i64 time] 40))
      have z0 := (blk_facts (heap_alloc_new wr (.cells #[.string who, .int .i64 time] 40))).1 0
      have hown := K5.own
      have hsz := K5.bel.size
      rw [hlk.out] at hown
      have hA := Lib.hid (fun v' w' ho hg => K5.app (v' := v') (x := who) (w' := w') ho hg)
      rw [hlk.out] at hA
      clear hx K K5
      go_wp2_with (at_builtin; refine wpList_app rfl (.tmp 12) (.tmp 15) 99 rfl Tryz.underlying99 info_strS rfl (by omega) (by omega) hown rfl rfl (by first | rfl | (simp; done)) (by rfl) (by simp [Value.oneCell']) (by omega) hsz ?_; intro v4 w4 hown4 hg4)
      have K4 := hA.out v4 w4 hown4 hg4
      clear hown4 hg4 hown hA z0
      go_roundw
      case rel => exact ⟨k + 1, by omega, by go_num, by rw [htk.out]; exact K4⟩
      case measure => simp [intOf]; omega
    · obtain rfl : k = n := by omega
      have hrs : RS 9 wr Au k (O.map Sd.who) := by
        have h := K.own
        rw [hlk.out, List.take_of_length_le (by rw [hOl.out]; exact Nat.le_refl _)] at h
        exact RS.of_own h (by omega)
      have hbel := K.bel
      clear K hR
      go_wp2
      go_ret
      exact ⟨Au, k, cu, rfl, hrs, hbel⟩
end Go.Proofs.YtdbfcneeiiialaaGreatDoor
