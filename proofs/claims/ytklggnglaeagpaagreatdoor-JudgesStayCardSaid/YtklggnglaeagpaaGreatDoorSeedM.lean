import Derived.Test.YtklggnglaeagpaaGreatDoorReady4
import Derived.Test.YtklggnglaeagpaaGreatDoorLens
import Derived.Maps.Views
import Derived.BigGuardPart
import Derived.Test.YtklggnglaeagpaaGreatDoorShelf
import Derived.Sort.OwnSorted
import Derived.Sort.KeysCollected
import Derived.Test.YtklggnglaeagpaaGreatDoorDraws
import Derived.Test.YtklggnglaeagpaaGreatDoorRows2
import Derived.BigRegion
import Derived.Lib.ItoaLen
/- Seeds as data; heat.CheckSeeds. -/
namespace Go.Proofs.YtklggnglaeagpaaGreatDoor
open Go.RowKit
open Go.Maps (Keyed string_keyed)
open Go.WideMaps (keyOf_string_mk)
set_option linter.unusedVariables false

structure Sd where
  who : ByteArray
  time : Int
deriving DecidableEq
def sdE (x : Sd) : List Value := [.string x.who, .int .i64 x.time]
theorem sdE_len : ∀ x, (sdE x).length = 2 := fun _ => rfl
abbrev RSd (w : World) (A : Option Addr) (n : Nat) (l : List Sd) : Prop := RN 2 sdE 40 w A n l
theorem RSd_at2 {w : World} {A : Option Addr} {n : Nat} {l : List Sd} (h : RSd w A n l) {k : Nat} (hk : k < n) : ∃ b off x, A = some ⟨b, off, none⟩ ∧ b < w.heap.size ∧ l[k]? = some x ∧ w.cell? ⟨b, off + k * 2, none⟩ = some (.string x.who) ∧ w.cell? ⟨b, off + k * 2 + 1, none⟩ = some (.int .i64 x.time) := by
  obtain ⟨b, off, x, hA, hb, hx, hc⟩ := h.at_ hk
  exact ⟨b, off, x, hA, hb, hx, hc 0 _ rfl, hc 1 _ rfl⟩
theorem info_seed : (Tryz.prog.info? 40).map (fun i => (i.zero, i.size, i.bytes)) = some (some (.agg #[.string ⟨#[]⟩, .int .i64 0]), 2, 24) := by kernel_rfl
def seenB (s : ByteArray) (seen : List ByteArray) : Bool := seen.any fun t => decide (t = s)
/-- names, one after the other: a wrong one, a wrong time, one twice -/
def seedGo : List ByteArray → Bool → List Sd → Int
  | _, tw, [] => if tw then 6 else 0
  | seen, tw, x :: l => if keyB x.who = false then 5 else if ¬ (0 ≤ x.time ∧ x.time ≤ 360000) then 1 else seedGo (x.who :: seen) (tw || seenB x.who seen) l
def seedErr (l : List Sd) : Int := if 300 < l.length then 2 else seedGo [] false l
theorem seedGo_at {l : List Sd} {k : Nat} {x : Sd} (seen : List ByteArray) (tw : Bool) (h : l[k]? = some x) : seedGo seen tw (l.drop k) = if keyB x.who = false then 5 else if ¬ (0 ≤ x.time ∧ x.time ≤ 360000) then 1 else seedGo (x.who :: seen) (tw || seenB x.who seen) (l.drop (k + 1)) := by rw [drop_at h]; rfl
theorem key_small {s : ByteArray} (h : keyB s = true) : 1 ≤ s.size ∧ s.size ≤ 40 := by
  unfold keyB at h
  simp only [Bool.and_eq_true, decide_eq_true_eq] at h
  exact h.1.1
/-- a map of booleans that tells which names were seen -/
def SeenM (D : DataW Unit) (seen : List ByteArray) : Prop := Go.Maps.IsMap D ∧ ∀ s : ByteArray, D.atKey (.string s.data.toList) (.lit (.bool false)) = .lit (.bool (seenB s seen))
theorem SeenM.nil : SeenM (.map []) [] := ⟨Go.Maps.isMap_empty, fun s => by rw [atKey_nil]; rfl⟩
theorem bytes_inj {a b : ByteArray} (h : a.data.toList = b.data.toList) : a = b := by cases a; cases b; congr 1; exact Array.toList_inj.mp h
theorem SeenM.put {D : DataW Unit} {seen : List ByteArray} (h : SeenM D seen) (s : ByteArray) : SeenM (D.put (.string s.data.toList) (.lit (.bool true))) (s :: seen) := by
  refine ⟨h.1.put _ _, fun t => ?_⟩
  by_cases e : t = s
  · subst e
    rw [Go.Maps.atKey_put_same h.1 (by trivial)]
    simp [seenB]
  · rw [Go.Maps.atKey_put_other (by intro e2; injection e2 with e2; exact e (bytes_inj e2)), h.2 t]
    simp [seenB, Ne.symm e]
set_option maxRecDepth 100000 in
set_option maxHeartbeats 3200000 in
theorem checkSeeds_c (A : Option Addr) (n c : Nat) (l : List Sd) (w : World) (h : RSd w A n l) :
    Calls Tryz.prog 227 #[.slice A n c] w fun e w' => e = .returned (.int .i64 (seedErr l)) ∧ Below w.heap.size w w' := by
  have hl := h.len
  have hbd := h.bd
  have hE : seedErr l = if 300 < n then 2 else seedGo [] false l := by unfold seedErr; rw [hl]
  have hGa := Lib.hid (fun k x seen tw (h : l[k]? = some x) => seedGo_at seen tw h)
  have hG0 := Lib.hid (show ∀ seen tw, seedGo seen tw [] = if tw then 6 else 0 from fun _ _ => rfl)
  have hPut := Lib.hid (fun D seen (h : SeenM D seen) s => h.put s)
  have hKey := Lib.hid (fun (s : ByteArray) (h : keyB s = true) => key_small h)
  generalize seedErr l = E at *
  generalize seedGo = SG at *
  have hE' := Lib.hid hE
  have hl' := Lib.hid hl
  clear hE hl
  by_cases hbig : 300 < n
  · go_enter Tryz.func227, Tryz.ntmps227
    go_wp2
    go_ret
    exact ⟨ret_i (by rw [hE'.out, if_pos hbig]), Below.refl _ _⟩
  have hmm := @run_makeMap Tryz.prog
  have hm0 := mb_new w
  have hB0 := below_new w (.map #[] 0)
  have hS0 := Lib.hid SeenM.nil
  go_enter Tryz.func227, Tryz.ntmps227
  go_wp2
  go_loopw [4, 13] (fun tw i wr => ∃ (k q : Nat) (t : Bool) (seen : List ByteArray) (D : DataW Unit), k ≤ n ∧ i = .int .i64 k ∧ tw = .bool t ∧ q ≤ k ∧ MB wr w.heap.size q D ∧ Hid (SeenM D seen) ∧ Below w.heap.size w wr ∧ Hid (SG seen t (l.drop k) = SG [] false l)) (fun _ i _ => n - (intOf i).toNat)
  case atStart => exact ⟨0, 0, false, [], .map [], Nat.zero_le _, rfl, rfl, Nat.le_refl _, hm0, hS0, hB0, Lib.hid rfl⟩
  case round =>
    clear hm0 hB0 hS0
    obtain ⟨k, q, t, seen, D, hk, rfl, rfl, hq, hm, hSM, hB, hF⟩ := hrel
    by_cases hlt : k < n
    · obtain ⟨b, off, x, rfl, hbl, hx, c0, c1⟩ := RSd_at2 (h.below hB) hlt
      have hS := Lib.hid (hGa.out k x seen t hx)
      obtain ⟨who, time⟩ := x
      dsimp only at *
      clear hx
      have hmw := hB.size
      have hn0 := heap_alloc_new wr (.cells #[.string who, .int .i64 time] 40)
      go_wp2_with fail
      refine (isKey_c who _).mono ?_; rintro e w1 ⟨rfl, B1⟩
      have hm1 : MB w1 w.heap.size q D := (hm.alloc _).kept (row := none) (grown_of_below B1) (by simp)
      have hn1 := blk_below hn0 B1
      have hB1 := below_nextBox hB B1
      clear hn0 B1 c0 c1 hm
      cases hkb : keyB who
      · have hR := Lib.hid (show SG [] false l = 5 by rw [← hF.out, hS.out, if_pos hkb])
        clear hkb
        go_wp2
        go_ret
        exact ⟨ret_i (by rw [hE'.out, if_neg hbig, hR.out]), hB1⟩
      have hsz := hKey.out who hkb
      have hS2 := Lib.hid (show SG seen t (l.drop k) = if ¬ (0 ≤ time ∧ time ≤ 360000) then 1 else SG (who :: seen) (t || seenB who seen) (l.drop (k + 1)) by rw [hS.out, if_neg (by simp [hkb])])
      clear hS hkb
      have z0 := (blk_facts hn1).1 0
      have z1 := (blk_facts hn1).1 1
      obtain ⟨v, hrun, hat⟩ := mb_lookup hm1 who (by unfold maxLen; omega)
      rw [hSM.out.2 who] at hat
      have hv : seenB who seen = v := by injection hat with e; injection e
      have hv' := Lib.hid hv
      clear hat hv
      by_cases hT : 0 ≤ time ∧ time ≤ 360000
      rotate_left
      · have hR := Lib.hid (show SG [] false l = 1 by rw [← hF.out, hS2.out, if_pos hT])
        have hd : decide (0 ≤ time ∧ time ≤ 360000) = false := decide_eq_false hT
        clear hT
        go_wp2_with (go_at_call 128; refine (within_c _ _ _ _).mono ?_; rintro e w' ⟨rfl, rfl⟩; rw [hd])
        go_ret
        exact ⟨ret_i (by rw [hE'.out, if_neg hbig, hR.out]), hB1⟩
      · have hR := Lib.hid (show SG (who :: seen) (t || v) (l.drop (k + 1)) = SG [] false l by rw [← hF.out, hS2.out, if_neg (by simpa using hT), hv'.out])
        have hd : decide (0 ≤ time ∧ time ≤ 360000) = true := decide_eq_true hT
        have hSM2 := Lib.hid (hPut.out D seen hSM.out who)
        clear hT hF hS2 hSM
        cases t
        · go_wp2_with (first | (go_at_call 128; refine (within_c _ _ _ _).mono ?_; rintro e w' ⟨rfl, rfl⟩; rw [hd]) | (at_mapUpdate; refine wpList_mapUpdate_own _ rfl _ _ _ 250 rfl 9 4 (string_keyed Tryz.underlying9) Tryz.underlying250 _ _ q _ rfl hm1 (by unfold maxLen; omega) _ _ _ rfl rfl (keyOf_string_mk Tryz.underlying9 (by unfold maxLen; omega)) _ [] (plainElem_bool Tryz.underlying4 true) ?_; intro w2 hown2 hg2))
          have hB2 := hB1.trans (grown_below hg2 (Nat.le_refl _) hB1.size)
          clear hrun
          go_roundw
          case rel => exact ⟨k + 1, q + 1, v, who :: seen, _, by omega, by go_num, rfl, by omega, hown2, hSM2, hB2, Lib.hid (by rw [← hR.out, Bool.false_or])⟩
          case measure => simp [intOf]; omega
        · go_wp2_with (first | (go_at_call 128; refine (within_c _ _ _ _).mono ?_; rintro e w' ⟨rfl, rfl⟩; rw [hd]) | (at_mapUpdate; refine wpList_mapUpdate_own _ rfl _ _ _ 250 rfl 9 4 (string_keyed Tryz.underlying9) Tryz.underlying250 _ _ q _ rfl hm1 (by unfold maxLen; omega) _ _ _ rfl rfl (keyOf_string_mk Tryz.underlying9 (by unfold maxLen; omega)) _ [] (plainElem_bool Tryz.underlying4 true) ?_; intro w2 hown2 hg2))
          have hB2 := hB1.trans (grown_below hg2 (Nat.le_refl _) hB1.size)
          clear hrun
          go_roundw
          case rel => exact ⟨k + 1, q + 1, true, who :: seen, _, by omega, by go_num, rfl, by omega, hown2, hSM2, hB2, Lib.hid (by rw [← hR.out, Bool.true_or])⟩
          case measure => simp [intOf]; omega
    · obtain rfl : k = n := by omega
      have hR := Lib.hid (show SG [] false l = if t then 6 else 0 by rw [← hF.out, drop_end (by rw [hl'.out]; exact Nat.le_refl _), hG0.out])
      cases t
      · go_wp2
        go_ret
        exact ⟨ret_i (by rw [hE'.out, if_neg hbig, hR.out]; rfl), hB⟩
      · go_wp2
        go_ret
        exact ⟨ret_i (by rw [hE'.out, if_neg hbig, hR.out]; rfl), hB⟩
end Go.Proofs.YtklggnglaeagpaaGreatDoor

/- The reference's once and twice; R.SeedsFault. -/
namespace Go.Proofs.YtklggnglaeagpaaGreatDoor
open Go.RowKit Go.Lib Go.Sort
set_option linter.unusedVariables false

theorem compact_lt {S : List (List UInt8)} (hp : S.Pairwise fun a b => leB a b = true) : decide ((Lib.compact S).length < S.length) = !decide S.Nodup := by
  have hg : ∀ i (h : i < S.length), S.toArray[i]! = S[i] := fun i h => by
    rw [getElem!_pos S.toArray i (by simpa using h)]; simp
  by_cases hn : S.Nodup
  · have hk : Lib.compact S = S := Lib.compact_all S (fun j hj => by
      unfold Lib.keeps
      rw [decide_eq_true_eq]
      rcases Nat.eq_zero_or_pos j with h0 | h0
      · exact .inl h0
      · refine .inr ?_
        rw [hg j hj, hg (j - 1) (by omega)]
        exact Ne.symm (List.pairwise_iff_getElem.1 hn (j - 1) j (by omega) hj (by omega)))
    rw [hk]
    simp [hn]
  · have hlt : (Lib.compact S).length < S.length := by
      refine Classical.byContradiction fun hc => hn ?_
      have hle := Lib.compact_length_le S
      have he : ((List.range S.length).filter (Lib.keeps S.toArray)).length = (List.range S.length).length := by
        have : (Lib.compact S).length = ((List.range S.length).filter (Lib.keeps S.toArray)).length := by unfold Lib.compact Lib.compactUpTo; rw [List.length_map]
        rw [List.length_range]; omega
      have hall := List.length_filter_eq_length_iff.1 he
      refine List.pairwise_iff_getElem.2 fun i j hi hj hij heq => ?_
      have h1 := List.pairwise_iff_getElem.1 hp i (i + 1) hi (by omega) (by omega)
      have h2 : S[i + 1] ≤ S[j] := by
        rcases Nat.eq_or_lt_of_le (show i + 1 ≤ j by omega) with h3 | h3
        · subst h3; exact List.le_refl _
        · have := List.pairwise_iff_getElem.1 hp (i + 1) j (by omega) hj h3
          simpa [leB] using this
      have h4 : S[i] ≤ S[i + 1] := by simpa [leB] using h1
      have h5 : S[i + 1] = S[i] := List.le_antisymm (by rw [← heq] at h2; exact h2) h4
      have h6 := hall (i + 1) (List.mem_range.2 (by omega))
      unfold Lib.keeps at h6
      rw [decide_eq_true_eq, hg (i + 1) (by omega)] at h6
      rcases h6 with h6 | h6
      · omega
      · exact h6 (by rw [h5]; exact (hg i hi).symm)
    simp [hlt, hn]
theorem bytes_nodup (l : List ByteArray) : (l.map fun s => s.data.toList).Nodup ↔ l.Nodup := by
  unfold List.Nodup
  rw [List.pairwise_map]
  exact ⟨fun h => h.imp fun h1 h2 => h1 (by rw [h2]), fun h => h.imp fun h1 h2 => h1 (bytes_inj h2)⟩
/-- the names, sorted, each one once: how many -/
def onceN (l : List ByteArray) : Nat := (Lib.compact ((l.map fun s => s.data.toList).mergeSort fun x y => decide (x ≤ y))).length
theorem once_lt (l : List ByteArray) : decide (onceN l < l.length) = !decide l.Nodup := by
  have tr : ∀ a b c : List UInt8, leB a b = true → leB b c = true → leB a c = true := fun a b c h1 h2 => by simp only [leB, decide_eq_true_eq] at *; exact List.le_trans h1 h2
  have tt : ∀ a b : List UInt8, (leB a b || leB b a) = true := fun a b => by simp only [leB, Bool.or_eq_true, decide_eq_true_eq]; exact List.le_total a b
  have h := compact_lt (List.pairwise_mergeSort tr tt (l.map fun s => s.data.toList))
  have hl : ((l.map fun s => s.data.toList).mergeSort leB).length = l.length := by rw [List.length_mergeSort, List.length_map]
  have hn : ((l.map fun s => s.data.toList).mergeSort leB).Nodup ↔ l.Nodup := ((List.mergeSort_perm _ leB).nodup_iff).trans (bytes_nodup l)
  rw [hl] at h
  unfold onceN
  rw [show (!decide l.Nodup) = !decide ((l.map fun s => s.data.toList).mergeSort leB).Nodup by simp [hn]]
  exact h
theorem encS_map (l : List ByteArray) : (l.map fun s => s.data.toList).map encStr = l.map Value.string := by
  rw [List.map_map]
  apply List.map_congr_left
  intro s _
  simp [encStr]
theorem shelfS {e : TypeId} {w : World} {A : Option Addr} {n : Nat} {l : List ByteArray} (h : RS e w A n l) (hp : 0 < n) : ∃ b off, A = some ⟨b, off, none⟩ ∧ ∀ j, j < l.length → w.cell? ⟨b, off + j, none⟩ = some (.string (l.getD j ⟨#[]⟩)) := by
  obtain ⟨b, off, cs, fz, hA, hb, hc⟩ := h.2.2 hp
  refine ⟨b, off, hA, fun j hj => ?_⟩
  have hx : l[j]? = some (l.getD j ⟨#[]⟩) := by rw [List.getD_eq_getElem?_getD, List.getElem?_eq_getElem hj]; rfl
  rw [cell_of_row w b _ cs e fz hb]
  exact hc j _ hx
theorem cloneS_c (A : Option Addr) (n c : Nat) (l : List ByteArray) (w : World) (h : RS 9 w A n l) (hn : n ≤ 1000000) :
    Calls Tryz.prog 298 #[.slice A n c] w fun e w' => ∃ A' c', e = .returned (.slice A' n c') ∧ w'.ownsRow w.heap.size 9 1 (.slice A' n c') n (l.map Value.string) ∧ Below w.heap.size w w' := by
  have hl := h.len
  rcases A with _ | ad
  · have h0 : n = 0 := by
      rcases Nat.eq_zero_or_pos n with h0 | hp
      · exact h0
      · obtain ⟨b, off, e, _⟩ := shelfS h hp
        cases e
    subst h0
    obtain rfl : l = [] := List.eq_nil_of_length_eq_zero hl
    exact (Tryz.slices_Clone_string_nil 0 c w).mono fun _ _ ⟨he, hw⟩ => ⟨none, 0, he, by rw [hw]; exact World.ownsRow_nil _ _ _ _, by rw [hw]; exact Below.refl _ _⟩
  · rcases Nat.eq_zero_or_pos n with h0 | hp
    · subst h0
      obtain rfl : l = [] := List.eq_nil_of_length_eq_zero hl
      refine (Tryz.slices_Clone_string_zero ad c w).mono fun _ _ ⟨v, he, ho, _, hB⟩ => ?_
      obtain ⟨A', c', rfl⟩ := own_shape ho
      exact ⟨A', c', he, ho, hB⟩
    · obtain ⟨b, off, hA, hc⟩ := shelfS h hp
      injection hA with hA
      subst hA
      refine (Tryz.slices_Clone_string b off n c l w (by omega) (by omega) hc).mono fun _ _ ⟨v, he, ho, _, hB⟩ => ?_
      obtain ⟨A', c', rfl⟩ := own_shape ho
      rw [List.take_of_length_le (by omega)] at ho
      exact ⟨A', c', he, ho, hB⟩
theorem sortS_c (base : Nat) (A : Option Addr) (n c : Nat) (l : List (List UInt8)) (w : World) (h : w.ownsRow base 9 1 (.slice A n c) n (l.map encStr)) (hn : n ≤ 1000000) :
    Calls Tryz.prog 253 #[.slice A n c] w fun e w' => e = .returned (.tuple #[]) ∧ w'.ownsRow base 9 1 (.slice A n c) n ((l.mergeSort fun x y => decide (x ≤ y)).map encStr) ∧ w.grownBy w' (Value.slice A n c).ownBlock := by
  have hl : l.length = n := by have := h.1; rw [List.length_map] at this; omega
  rcases h.2 with ⟨hv, h0⟩ | ⟨g, cap, cur, hv, hb, hg, h1, h2, h3, h4⟩
  · subst h0
    injection hv with q1 q2 q3
    subst q1 q3
    obtain rfl : l = [] := List.eq_nil_of_length_eq_zero hl
    refine (Tryz.slices_Sort_string_none none 0 w).mono ?_
    rintro e w' ⟨he, rfl⟩
    exact ⟨he, by simpa using World.ownsRow_nil _ _ _ _, grown_refl _ _⟩
  · injection hv with q1 q2 q3
    subst q1 q3 hl
    rw [Nat.mul_one] at h4
    have hH := holds_of_block hg h4
    refine (Tryz.slices_Sort_string g 0 c l w hH (lt_of_heap hg) (by omega)).mono ?_
    rintro e w' ⟨he, q, os, rfl⟩
    exact ⟨he, ownsRow_sorted (ss := l) (by simp) hb hg h1 h2 h3, grownBy_sorted _⟩
theorem compactS_c (base : Nat) (A : Option Addr) (n c : Nat) (l : List (List UInt8)) (w : World) (h : w.ownsRow base 9 1 (.slice A n c) n (l.map encStr)) (hn : n ≤ 1000000) :
    Calls Tryz.prog 254 #[.slice A n c] w fun e w' => e = .returned (.slice A (Lib.compact l).length c) ∧ w.grownBy w' (Value.slice A n c).ownBlock := by
  have hl : l.length = n := by have := h.1; rw [List.length_map] at this; omega
  rcases h.2 with ⟨hv, h0⟩ | ⟨g, cap, cur, hv, hb, hg, h1, h2, h3, h4⟩
  · subst h0
    injection hv with q1 q2 q3
    subst q1 q3
    obtain rfl : l = [] := List.eq_nil_of_length_eq_zero hl
    refine (Tryz.slices_Compact_string_empty none 0 w).mono ?_
    rintro e w' ⟨he, rfl⟩
    exact ⟨he, grown_refl _ _⟩
  · injection hv with q1 q2 q3
    subst q1 q3 hl
    rw [Nat.mul_one] at h4
    have hH := holds_of_block hg h4
    refine (Tryz.slices_Compact_string g 0 c l w hH (by omega) h1).mono ?_
    rintro e w' ⟨he, q, rfl⟩
    have k2 := grownBy_sorted (w := w) (g := g) (n := q) (os := #[]) (Lib.compact l ++ List.replicate (l.length - (Lib.compact l).length) []).toArray
    rw [grow_empty] at k2
    exact ⟨he, k2⟩
set_option maxRecDepth 100000 in
theorem once_c (A : Option Addr) (n c : Nat) (l : List ByteArray) (w : World) (h : RS 9 w A n l) (hn : n ≤ 1000000) :
    Calls Tryz.prog 226 #[.slice A n c] w fun e w' => ∃ A' c', e = .returned (.slice A' (onceN l) c') ∧ Below w.heap.size w w' := by
  have hcl := Lib.hid (cloneS_c A n c l w h hn)
  have hO : onceN l = (Lib.compact ((l.map fun s => s.data.toList).mergeSort fun x y => decide (x ≤ y))).length := rfl
  rw [← encS_map] at hcl
  rw [hO]
  clear hO
  generalize (l.map fun s => s.data.toList) = L at *
  go_enter Tryz.func226, Tryz.ntmps226
  go_wp2_with fail
  refine hcl.out.mono ?_; rintro e w1 ⟨A1, c1, rfl, ho1, B1⟩
  go_wp2_with fail
  refine (sortS_c _ A1 n c1 L w1 ho1 hn).mono ?_; rintro e w2 ⟨rfl, ho2, g2⟩
  have B2 := below_own B1 ho1 g2 B1.size (Nat.le_refl _)
  go_wp2_with fail
  refine (compactS_c _ A1 n c1 _ w2 ho2 hn).mono ?_; rintro e w3 ⟨rfl, g3⟩
  have B3 := below_own B2 ho2 g3 B2.size (Nat.le_refl _)
  go_wp2
  go_ret
  exact ⟨A1, c1, rfl, B3⟩
theorem twice_c (A : Option Addr) (n c : Nat) (l : List ByteArray) (w : World) (h : RS 9 w A n l) (hn : n ≤ 1000000) :
    Calls Tryz.prog 116 #[.slice A n c] w fun e w' => e = .returned (.bool (!decide l.Nodup)) ∧ Below w.heap.size w w' := by
  have ho := Lib.hid (once_c A n c l w h hn)
  rw [← once_lt, h.len]
  generalize onceN l = m at *
  go_enter Tryz.func116, Tryz.ntmps116
  go_wp2_with fail
  refine ho.out.mono ?_; rintro e w1 ⟨A1, c1, rfl, B1⟩
  go_wp2
  go_ret
  exact ⟨by simp, B1⟩
/-! ## R.SeedsFault -/
def sdGo : List Sd → Int
  | [] => 0
  | x :: l => if keyB x.who = false then 5 else if ¬ (0 ≤ x.time ∧ x.time ≤ 360000) then 1 else sdGo l
theorem sdGo_at {l : List Sd} {k : Nat} {x : Sd} (h : l[k]? = some x) : sdGo (l.drop k) = if keyB x.who = false then 5 else if ¬ (0 ≤ x.time ∧ x.time ≤ 360000) then 1 else sdGo (l.drop (k + 1)) := by rw [drop_at h]; rfl
open Classical in
theorem seedGo_ref : ∀ (l : List Sd) (seen : List ByteArray) (tw : Bool), seedGo seen tw l = if sdGo l ≠ 0 then sdGo l else if tw = true ∨ ¬ ((l.map Sd.who).Nodup ∧ ∀ x ∈ l, x.who ∉ seen) then 6 else 0
  | [], seen, tw => by
    unfold seedGo sdGo
    cases tw <;> simp
  | x :: l, seen, tw => by
    unfold seedGo sdGo
    by_cases hk : keyB x.who = false
    · rw [if_pos hk, if_pos hk]; simp
    · rw [if_neg hk, if_neg hk]
      by_cases ht : ¬ (0 ≤ x.time ∧ x.time ≤ 360000)
      · rw [if_pos ht, if_pos ht]; simp
      · rw [if_neg ht, if_neg ht, seedGo_ref l (x.who :: seen) (tw || seenB x.who seen)]
        by_cases hg : sdGo l ≠ 0
        · rw [if_pos hg, if_pos hg]
        · rw [if_neg hg, if_neg hg]
          have hs : seenB x.who seen = true ↔ x.who ∈ seen := by
            unfold seenB
            rw [List.any_eq_true]
            constructor
            · rintro ⟨t, h1, h2⟩
              have := of_decide_eq_true h2
              subst this; exact h1
            · intro h; exact ⟨_, h, by simp⟩
          have hiff : (((tw || seenB x.who seen) = true) ∨ ¬ ((l.map Sd.who).Nodup ∧ ∀ y ∈ l, y.who ∉ x.who :: seen)) ↔ (tw = true ∨ ¬ (((x :: l).map Sd.who).Nodup ∧ ∀ y ∈ x :: l, y.who ∉ seen)) := by
            rw [Bool.or_eq_true, hs]
            simp only [List.map_cons, List.nodup_cons, List.mem_map, List.mem_cons, not_or, forall_eq_or_imp]
            constructor
            · rintro ((h | h) | h)
              · exact .inl h
              · exact .inr fun hc => hc.2.1 h
              · refine .inr fun hc => h ⟨hc.1.2, fun y hy => ⟨fun e => hc.1.1 ⟨y, hy, e⟩, hc.2.2 y hy⟩⟩
            · rintro (h | h)
              · exact .inl (.inl h)
              · by_cases hx : x.who ∈ seen
                · exact .inl (.inr hx)
                · refine .inr fun hc => h ⟨⟨?_, hc.1⟩, hx, fun y hy => (hc.2 y hy).2⟩
                  rintro ⟨y, hy, e⟩
                  exact (hc.2 y hy).1 e
          by_cases hc : ((tw || seenB x.who seen) = true) ∨ ¬ ((l.map Sd.who).Nodup ∧ ∀ y ∈ l, y.who ∉ x.who :: seen)
          · rw [if_pos hc, if_pos (hiff.1 hc)]
          · rw [if_neg hc, if_neg (fun h => hc (hiff.2 h))]
theorem seedErr_ref (l : List Sd) : seedErr l = if 300 < l.length then 2 else if sdGo l ≠ 0 then sdGo l else if (l.map Sd.who).Nodup then 0 else 6 := by
  unfold seedErr
  rw [seedGo_ref]
  split
  · rfl
  · split
    · rfl
    · by_cases hn : (l.map Sd.who).Nodup <;> simp [hn]
theorem info_strS : (Tryz.prog.info? 9).map (fun i => (i.zero, i.size, i.bytes)) = some (some (.string ⟨#[]⟩), 1, 16) := by kernel_rfl
set_option maxHeartbeats 1600000 in
set_option maxRecDepth 100000 in
theorem seedsFault_c (A : Option Addr) (n c : Nat) (l : List Sd) (w : World) (h : RSd w A n l) :
    Calls Tryz.prog 13 #[.slice A n c] w fun e w' => e = .returned (.int .i64 (seedErr l)) ∧ Below w.heap.size w w' := by
  have hl := h.len
  by_cases hbig : 300 < n
  · have hE : seedErr l = 2 := by rw [seedErr_ref, if_pos (by omega)]
    rw [hE]
    clear hE
    go_enter Tryz.func13, Tryz.ntmps13
    go_wp2
    go_ret
    exact ⟨rfl, Below.refl _ _⟩
  have hE := Lib.hid (show seedErr l = if sdGo l ≠ 0 then sdGo l else if (l.map Sd.who).Nodup then 0 else 6 by rw [seedErr_ref, if_neg (by omega)])
  have hl' := Lib.hid hl
  have hbd := Lib.hid h.bd
  have hTw := Lib.hid (fun A n c l W h hn => twice_c A n c l W h hn)
  have hAt := Lib.hid (fun k x h => sdGo_at (l := l) (k := k) (x := x) h)
  generalize seedErr l = E at *
  clear hl
  go_enter Tryz.func13, Tryz.ntmps13
  go_wp2
  go_loopw [3, 11] (fun out i wr => ∃ k : Nat, k ≤ n ∧ i = .int .i64 k ∧ wr.ownsRow w.heap.size 9 1 out k ((l.take k).map fun x => Value.string x.who) ∧ Below w.heap.size w wr ∧ Hid (sdGo (l.drop k) = sdGo l)) (fun _ i _ => n - (intOf i).toNat)
  case atStart => exact ⟨0, Nat.zero_le _, rfl, World.ownsRow_nil _ _ _ _, Below.refl _ _, Lib.hid rfl⟩
  case round =>
    obtain ⟨k, hk, rfl, hown, hB, hF⟩ := hrel
    by_cases hlt : k < n
    · obtain ⟨b, off, x, rfl, hbl, hx, c0, c1⟩ := RSd_at2 (h.below hB) hlt
      have hS := Lib.hid (hAt.out k x hx)
      have htk := Lib.hid (show (l.take (k + 1)).map (fun x => Value.string x.who) = (l.take k).map (fun x => Value.string x.who) ++ [Value.string x.who] by
        have h1 : l.take (k + 1) = l.take k ++ [x] := by rw [List.take_add_one, hx]; rfl
        rw [h1, List.map_append]; rfl)
      obtain ⟨who, time⟩ := x
      dsimp only at *
      clear hx
      have hn0 := heap_alloc_new wr (.cells #[.string who, .int .i64 time] 40)
      have hown0 := hown.alloc (.cells #[.string who, .int .i64 time] 40)
      go_wp2_with fail
      refine (key_c who _).mono ?_; rintro e w1 ⟨rfl, B1⟩
      have hn1 := blk_below hn0 B1
      have hown1 := own_below hown0 B1
      have hB1 := below_nextBox hB B1
      clear hn0 B1 c0 c1 hown hown0
      cases hkb : keyB who
      · have hR := Lib.hid (show sdGo l = 5 by rw [← hF.out, hS.out, if_pos hkb])
        clear hkb
        go_wp2
        go_ret
        exact ⟨ret_i (by rw [hE.out, hR.out]; rfl), hB1⟩
      have hS2 := Lib.hid (show sdGo (l.drop k) = if ¬ (0 ≤ time ∧ time ≤ 360000) then 1 else sdGo (l.drop (k + 1)) by rw [hS.out, if_neg (by simp [hkb])])
      clear hS hkb
      have z0 := (blk_facts hn1).1 0
      have z1 := (blk_facts hn1).1 1
      by_cases hT : 0 ≤ time ∧ time ≤ 360000
      rotate_left
      · have hR := Lib.hid (show sdGo l = 1 by rw [← hF.out, hS2.out, if_pos hT])
        have hd : decide (0 ≤ time ∧ time ≤ 360000) = false := decide_eq_false hT
        clear hT
        go_wp2_with (go_at_call 115; refine (in_c _ _ _ _).mono ?_; rintro e w' ⟨rfl, rfl⟩; rw [hd])
        go_ret
        exact ⟨ret_i (by rw [hE.out, hR.out]; rfl), hB1⟩
      · have hR := Lib.hid (show sdGo (l.drop (k + 1)) = sdGo l by rw [← hF.out, hS2.out, if_neg (by simpa using hT)])
        have hd : decide (0 ≤ time ∧ time ≤ 360000) = true := decide_eq_true hT
        have hz := hB1.size
        have hbd' := hbd.out
        clear hT hF hS2
        go_wp2_with (first | (go_at_call 115; refine (in_c _ _ _ _).mono ?_; rintro e w' ⟨rfl, rfl⟩; rw [hd]) | (at_builtin; refine wpList_app rfl (.tmp 25) (.tmp 28) 97 rfl Tryz.underlying97 info_strS rfl (by omega) (by omega) hown1 rfl rfl (by first | rfl | (simp; done)) rfl (by simp [Value.oneCell']) (by omega) hz ?_; intro v4 w4 hown4 hg4))
        have H := Lib.hid (And.intro (show w4.ownsRow w.heap.size 9 1 v4 (k + 1) ((l.take (k + 1)).map fun x => Value.string x.who) by rw [htk.out]; exact hown4) (below_own hB1 hown1 hg4 hz (Nat.le_refl _)))
        clear hown4 hg4 hown1
        go_roundw
        case rel => exact ⟨k + 1, by omega, by go_num, H.out.1, H.out.2, hR⟩
        case measure => simp [intOf]; omega
    · obtain rfl : k = n := by omega
      have hR := Lib.hid (show sdGo l = 0 by rw [← hF.out, drop_end (by rw [hl'.out]; exact Nat.le_refl _)]; rfl)
      obtain ⟨A3, c3, rfl⟩ := own_shape hown
      have hfull : l.take k = l := List.take_of_length_le (by rw [hl'.out]; exact Nat.le_refl _)
      rw [hfull] at hown
      have hrs : RS 9 wr A3 k (l.map Sd.who) := R1.of_own (by rw [List.map_map]; exact hown) (by omega)
      go_wp2_with fail
      refine (hTw.out A3 k c3 (l.map Sd.who) wr hrs (by omega)).mono ?_; rintro e w5 ⟨rfl, B5⟩
      have hB5 := below_next hB B5
      by_cases hn : (l.map Sd.who).Nodup
      · have hd : (!decide (l.map Sd.who).Nodup) = false := by simp [hn]
        rw [hd]
        have hn' := Lib.hid hn
        clear hn hd
        go_wp2
        go_ret
        exact ⟨ret_i (by rw [hE.out, hR.out, if_pos hn'.out]; rfl), hB5⟩
      · have hd : (!decide (l.map Sd.who).Nodup) = true := by simp [hn]
        rw [hd]
        have hn' := Lib.hid hn
        clear hn hd
        go_wp2
        go_ret
        exact ⟨ret_i (by rw [hE.out, hR.out, if_neg hn'.out]; rfl), hB5⟩
end Go.Proofs.YtklggnglaeagpaaGreatDoor

/- The stream's seeds: Order, Seeds, RightSeeds. -/
namespace Go.Proofs.YtklggnglaeagpaaGreatDoor
open Go.RowKit
set_option linter.unusedVariables false

/-- what stands in a row, all below a number -/
def AllIn (N : Nat) (l : List Int) : Prop := ∀ x ∈ l, 0 ≤ x ∧ x < N
theorem AllIn.set {N : Nat} {l : List Int} (h : AllIn N l) {i : Nat} {x : Int} (hx : 0 ≤ x ∧ x < N) : AllIn N (l.set i x) := fun y hy => by
  rcases List.mem_or_eq_of_mem_set hy with h1 | h1
  · exact h y h1
  · subst h1; exact hx
theorem own_setS {w : World} {base b n c : Nat} {L : List Int} (h : w.ownsRow base 3 1 (.slice (some ⟨b, 0, none⟩) n c) n (ints L)) (j : Nat) (x : Int) : (w.setCell ⟨b, j, none⟩ (.int .i64 x)).ownsRow base 3 1 (.slice (some ⟨b, 0, none⟩) n c) n (ints (L.set j x)) := by
  have h2 := (h.stored j (.int .i64 x)).1
  have e : (ints L).set j (.int .i64 x) = ints (L.set j x) := by unfold ints; rw [List.map_set]
  rw [e] at h2
  exact h2
theorem sdr_set : ∀ (l : List Sd) (k : Nat) (who : ByteArray) (x : Sd), l[k]? = some x →
    (l.flatMap sdE).set (k * 2) (.string who) = (l.set k ⟨who, x.time⟩).flatMap sdE
  | [], _, _, _, h => by simp at h
  | x :: l, 0, who, t, h => by
    obtain rfl : x = t := by simpa using h
    simp [sdE]
  | x :: l, k + 1, who, t, h => by
    rw [List.set_cons_succ, List.flatMap_cons, List.flatMap_cons, ← sdr_set l k who t (by simpa using h), List.set_append_right _ _ (by show 2 ≤ _; omega)]
    congr 2
    show (k + 1) * 2 - 2 = _; omega
theorem sdr_set1 : ∀ (l : List Sd) (k : Nat) (v : Int) (x : Sd), l[k]? = some x →
    (l.flatMap sdE).set (k * 2 + 1) (.int .i64 v) = (l.set k ⟨x.who, v⟩).flatMap sdE
  | [], _, _, _, h => by simp at h
  | x :: l, 0, v, t, h => by
    obtain rfl : x = t := by simpa using h
    simp [sdE]
  | x :: l, k + 1, v, t, h => by
    rw [List.set_cons_succ, List.flatMap_cons, List.flatMap_cons, ← sdr_set1 l k v t (by simpa using h), List.set_append_right _ _ (by show 2 ≤ _; omega)]
    congr 2
    show (k + 1) * 2 + 1 - 2 = _; omega
theorem own_cap {w : World} {base : Nat} {e : TypeId} {size n m c : Nat} {A : Option Addr} {xs : List Value} (h : w.ownsRow base e size (.slice A m c) n xs) (hm : m = n) : (A = none ∧ n = 0 ∧ c = 0) ∨ ∃ b, A = some ⟨b, 0, none⟩ ∧ n ≤ c := by
  subst hm
  rcases h.2 with ⟨h9, h0⟩ | ⟨g9, cap, cur, hv9, h1, h2, h3, h4⟩
  · injection h9 with e1 e2 e3
    exact .inl ⟨e1, h0, e3⟩
  · injection hv9 with e1 e2 e3
    exact .inr ⟨g9, e1, by omega⟩
end Go.Proofs.YtklggnglaeagpaaGreatDoor
