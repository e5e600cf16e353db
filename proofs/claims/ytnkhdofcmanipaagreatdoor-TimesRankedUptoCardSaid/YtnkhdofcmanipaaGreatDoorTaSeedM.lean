import Derived.Test.YtnkhdofcmanipaaGreatDoorTaReady4
import Derived.Test.YtnkhdofcmanipaaGreatDoorTaLens
import Derived.Maps.Views
import Derived.BigGuardPart
import Derived.Test.YtnkhdofcmanipaaGreatDoorShelf
import Derived.Sort.OwnSorted
import Derived.Sort.KeysCollected
import Derived.Test.YtnkhdofcmanipaaGreatDoorTaDraws
import Derived.Test.YtnkhdofcmanipaaGreatDoorTaRows2
import Derived.BigRegion
import Derived.Lib.ItoaLen
/- Seeds as data; heat.CheckSeeds. -/
namespace Go.Proofs.YtnkhdofcmanipaaGreatDoor
open Go.RowKit
open Go.Maps (Keyed string_keyed)
open Go.WideMaps (keyOf_string_mk)
set_option linter.unusedVariables false

structure Sd where
  who : ByteArray
  time : Int
deriving DecidableEq
def sdE (x : Sd) : List Value := [.string x.who, .int .i64 x.time]
theorem sdE_len : ∀ x, (sdE x).length = 2 := fun _ => rfl
abbrev RSd (w : World) (A : Option Addr) (n : Nat) (l : List Sd) : Prop := RN 2 sdE 40 w A n l
theorem RSd_at2 {w : World} {A : Option Addr} {n : Nat} {l : List Sd} (h : RSd w A n l) {k : Nat} (hk : k < n) : ∃ b off x, A = some ⟨b, off, none⟩ ∧ b < w.heap.size ∧ l[k]? = some x ∧ w.cell? ⟨b, off + k * 2, none⟩ = some (.string x.who) ∧ w.cell? ⟨b, off + k * 2 + 1, none⟩ = some (.int .i64 x.time) := by
  obtain ⟨b, off, x, hA, hb, hx, hc⟩ := h.at_ hk
  exact ⟨b, off, x, hA, hb, hx, hc 0 _ rfl, hc 1 _ rfl⟩
theorem info_seed : (Tryz.prog.info? 40).map (fun i => (i.zero, i.size, i.bytes)) = some (some (.agg #[.string ⟨#[]⟩, .int .i64 0]), 2, 24) := by kernel_rfl
def seenB (s : ByteArray) (seen : List ByteArray) : Bool := seen.any fun t => decide (t = s)
/-- names, one after the other: a wrong one, a wrong time, one twice -/
def seedGo : List ByteArray → Bool → List Sd → Int
  | _, tw, [] => if tw then 6 else 0
  | seen, tw, x :: l => if keyB x.who = false then 5 else if ¬ (0 ≤ x.time ∧ x.time ≤ 360000) then 1 else seedGo (x.who :: seen) (tw || seenB x.who seen) l
def seedErr (l : List Sd) : Int := if 300 < l.length then 2 else seedGo [] false l
theorem seedGo_at {l : List Sd} {k : Nat} {x : Sd} (seen : List ByteArray) (tw : Bool) (h : l[k]? = some x) : seedGo seen tw (l.drop k) = if keyB x.who = false then 5 else if ¬ (0 ≤ x.time ∧ x.time ≤ 360000) then 1 else seedGo (x.who :: seen) (tw || seenB x.who seen) (l.drop (k + 1)) := by rw [drop_at h]; rfl
theorem key_small {s : ByteArray} (h : keyB s = true) : 1 ≤ s.size ∧ s.size ≤ 40 := by
  unfold keyB at h
  simp only [Bool.and_eq_true, decide_eq_true_eq] at h
  exact h.1.1
/-- a map of booleans that tells which names were seen -/
def SeenM (D : DataW Unit) (seen : List ByteArray) : Prop := Go.Maps.IsMap D ∧ ∀ s : ByteArray, D.atKey (.string s.data.toList) (.lit (.bool false)) = .lit (.bool (seenB s seen))
theorem SeenM.nil : SeenM (.map []) [] := ⟨Go.Maps.isMap_empty, fun s => by rw [atKey_nil]; rfl⟩
theorem bytes_inj {a b : ByteArray} (h : a.data.toList = b.data.toList) : a = b := by cases a; cases b; congr 1; exact Array.toList_inj.mp h
theorem SeenM.put {D : DataW Unit} {seen : List ByteArray} (h : SeenM D seen) (s : ByteArray) : SeenM (D.put (.string s.data.toList) (.lit (.bool true))) (s :: seen) := by
  refine ⟨h.1.put _ _, fun t => ?_⟩
  by_cases e : t = s
  · subst e
    rw [Go.Maps.atKey_put_same h.1 (by trivial)]
    simp [seenB]
  · rw [Go.Maps.atKey_put_other (by intro e2; injection e2 with e2; exact e (bytes_inj e2)), h.2 t]
    simp [seenB, Ne.symm e]
set_option maxRecDepth 100000 in
set_option maxHeartbeats 3200000 in
theorem checkSeeds_c (A : Option Addr) (n c : Nat) (l : List Sd) (w : World) (h : RSd w A n l) :
    Calls Tryz.prog 101 #[.slice A n c] w fun e w' => e = .returned (.int .i64 (seedErr l)) ∧ Below w.heap.size w w' := by
  have hl := h.len
  have hbd := h.bd
  have hE : seedErr l = if 300 < n then 2 else seedGo [] false l := by unfold seedErr; rw [hl]
  have hGa := Lib.hid (fun k x seen tw (h : l[k]? = some x) => seedGo_at seen tw h)
  have hG0 := Lib.hid (show ∀ seen tw, seedGo seen tw [] = if tw then 6 else 0 from fun _ _ => rfl)
  have hPut := Lib.hid (fun D seen (h : SeenM D seen) s => h.put s)
  have hKey := Lib.hid (fun (s : ByteArray) (h : keyB s = true) => key_small h)
  generalize seedErr l = E at *
  generalize seedGo = SG at *
  have hE' := Lib.hid hE
  have hl' := Lib.hid hl
  clear hE hl
  by_cases hbig : 300 < n
  · go_enter Tryz.func101, Tryz.ntmps101
    go_wp2
    go_ret
    exact ⟨ret_i (by rw [hE'.out, if_pos hbig]), Below.refl _ _⟩
  have hmm := @run_makeMap Tryz.prog
  have hm0 := mb_new w
  have hB0 := below_new w (.map #[] 0)
  have hS0 := Lib.hid SeenM.nil
  go_enter Tryz.func101, Tryz.ntmps101
  go_wp2
  go_loopw [4, 13] (fun tw i wr => ∃ (k q : Nat) (t : Bool) (seen : List ByteArray) (D : DataW Unit), k ≤ n ∧ i = .int .i64 k ∧ tw = .bool t ∧ q ≤ k ∧ MB wr w.heap.size q D ∧ Hid (SeenM D seen) ∧ Below w.heap.size w wr ∧ Hid (SG seen t (l.drop k) = SG [] false l)) (fun _ i _ => n - (intOf i).toNat)
  case atStart => exact ⟨0, 0, false, [], .map [], Nat.zero_le _, rfl, rfl, Nat.le_refl _, hm0, hS0, hB0, Lib.hid rfl⟩
  case round =>
    clear hm0 hB0 hS0
    obtain ⟨k, q, t, seen, D, hk, rfl, rfl, hq, hm, hSM, hB, hF⟩ := hrel
    by_cases hlt : k < n
    · obtain ⟨b, off, x, rfl, hbl, hx, c0, c1⟩ := RSd_at2 (h.below hB) hlt
      have hS := Lib.hid (hGa.out k x seen t hx)
      obtain ⟨who, time⟩ := x
      dsimp only at *
      clear hx
      have hmw := hB.size
      have hn0 := heap_alloc_new wr (.cells #[.string who, .int .i64 time] 40)
      go_wp2_with fail
      refine (isKey_c who _).mono ?_; rintro e w1 ⟨rfl, B1⟩
      have hm1 : MB w1 w.heap.size q D := (hm.alloc _).kept (row := none) (grown_of_below B1) (by simp)
      have hn1 := blk_below hn0 B1
      have hB1 := below_nextBox hB B1
      clear hn0 B1 c0 c1 hm
      cases hkb : keyB who
      · have hR := Lib.hid (show SG [] false l = 5 by rw [← hF.out, hS.out, if_pos hkb])
        clear hkb
        go_wp2
        go_ret
        exact ⟨ret_i (by rw [hE'.out, if_neg hbig, hR.out]), hB1⟩
      have hsz := hKey.out who hkb
      have hS2 := Lib.hid (show SG seen t (l.drop k) = if ¬ (0 ≤ time ∧ time ≤ 360000) then 1 else SG (who :: seen) (t || seenB who seen) (l.drop (k + 1)) by rw [hS.out, if_neg (by simp [hkb])])
      clear hS hkb
      have z0 := (blk_facts hn1).1 0
      have z1 := (blk_facts hn1).1 1
      obtain ⟨v, hrun, hat⟩ := mb_lookup hm1 who (by unfold maxLen; omega)
      rw [hSM.out.2 who] at hat
      have hv : seenB who seen = v := by injection hat with e; injection e
      have hv' := Lib.hid hv
      clear hat hv
      by_cases hT : 0 ≤ time ∧ time ≤ 360000
      rotate_left
      · have hR := Lib.hid (show SG [] false l = 1 by rw [← hF.out, hS2.out, if_pos hT])
        have hd : decide (0 ≤ time ∧ time ≤ 360000) = false := decide_eq_false hT
        clear hT
        go_wp2_with (go_at_call 60; refine (within_c _ _ _ _).mono ?_; rintro e w' ⟨rfl, rfl⟩; rw [hd])
        go_ret
        exact ⟨ret_i (by rw [hE'.out, if_neg hbig, hR.out]), hB1⟩
      · have hR := Lib.hid (show SG (who :: seen) (t || v) (l.drop (k + 1)) = SG [] false l by rw [← hF.out, hS2.out, if_neg (by simpa using hT), hv'.out])
        have hd : decide (0 ≤ time ∧ time ≤ 360000) = true := decide_eq_true hT
        have hSM2 := Lib.hid (hPut.out D seen hSM.out who)
        clear hT hF hS2 hSM
        cases t
        · go_wp2_with (first | (go_at_call 60; refine (within_c _ _ _ _).mono ?_; rintro e w' ⟨rfl, rfl⟩; rw [hd]) | (at_mapUpdate; refine wpList_mapUpdate_own _ rfl _ _ _ 137 rfl 9 4 (string_keyed Tryz.underlying9) Tryz.underlying137 _ _ q _ rfl hm1 (by unfold maxLen; omega) _ _ _ rfl rfl (keyOf_string_mk Tryz.underlying9 (by unfold maxLen; omega)) _ [] (plainElem_bool Tryz.underlying4 true) ?_; intro w2 hown2 hg2))
          have hB2 := hB1.trans (grown_below hg2 (Nat.le_refl _) hB1.size)
          clear hrun
          go_roundw
          case rel => exact ⟨k + 1, q + 1, v, who :: seen, _, by omega, by go_num, rfl, by omega, hown2, hSM2, hB2, Lib.hid (by rw [← hR.out, Bool.false_or])⟩
          case measure => simp [intOf]; omega
        · go_wp2_with (first | (go_at_call 60; refine (within_c _ _ _ _).mono ?_; rintro e w' ⟨rfl, rfl⟩; rw [hd]) | (at_mapUpdate; refine wpList_mapUpdate_own _ rfl _ _ _ 137 rfl 9 4 (string_keyed Tryz.underlying9) Tryz.underlying137 _ _ q _ rfl hm1 (by unfold maxLen; omega) _ _ _ rfl rfl (keyOf_string_mk Tryz.underlying9 (by unfold maxLen; omega)) _ [] (plainElem_bool Tryz.underlying4 true) ?_; intro w2 hown2 hg2))
          have hB2 := hB1.trans (grown_below hg2 (Nat.le_refl _) hB1.size)
          clear hrun
          go_roundw
          case rel => exact ⟨k + 1, q + 1, true, who :: seen, _, by omega, by go_num, rfl, by omega, hown2, hSM2, hB2, Lib.hid (by rw [← hR.out, Bool.true_or])⟩
          case measure => simp [intOf]; omega
    · obtain rfl : k = n := by omega
      have hR := Lib.hid (show SG [] false l = if t then 6 else 0 by rw [← hF.out, drop_end (by rw [hl'.out]; exact Nat.le_refl _), hG0.out])
      cases t
      · go_wp2
        go_ret
        exact ⟨ret_i (by rw [hE'.out, if_neg hbig, hR.out]; rfl), hB⟩
      · go_wp2
        go_ret
        exact ⟨ret_i (by rw [hE'.out, if_neg hbig, hR.out]; rfl), hB⟩
end Go.Proofs.YtnkhdofcmanipaaGreatDoor

/- The reference's once and twice; R.SeedsFault. -/
namespace Go.Proofs.YtnkhdofcmanipaaGreatDoor
open Go.RowKit Go.Lib Go.Sort
set_option linter.unusedVariables false

theorem compact_lt {S : List (List UInt8)} (hp : S.Pairwise fun a b => leB a b = true) : decide ((Lib.compact S).length < S.length) = !decide S.Nodup := by
  have hg : ∀ i (h : i < S.length), S.toArray[i]! = S[i] := fun i h => by
    rw [getElem!_pos S.toArray i (by simpa using h)]; simp
  by_cases hn : S.Nodup
  · have hk : Lib.compact S = S := Lib.compact_all S (fun j hj => by
      unfold Lib.keeps
      rw [decide_eq_true_eq]
      rcases Nat.eq_zero_or_pos j with h0 | h0
      · exact .inl h0
      · refine .inr ?_
        rw [hg j hj, hg (j - 1) (by omega)]
        exact Ne.symm (List.pairwise_iff_getElem.1 hn (j - 1) j (by omega) hj (by omega)))
    rw [hk]
    simp [hn]
  · have hlt : (Lib.compact S).length < S.length := by
      refine Classical.byContradiction fun hc => hn ?_
      have hle := Lib.compact_length_le S
      have he : ((List.range S.length).filter (Lib.keeps S.toArray)).length = (List.range S.length).length := by
        have : (Lib.compact S).length = ((List.range S.length).filter (Lib.keeps S.toArray)).length := by unfold Lib.compact Lib.compactUpTo; rw [List.length_map]
        rw [List.length_range]; omega
      have hall := List.length_filter_eq_length_iff.1 he
      refine List.pairwise_iff_getElem.2 fun i j hi hj hij heq => ?_
      have h1 := List.pairwise_iff_getElem.1 hp i (i + 1) hi (by omega) (by omega)
      have h2 : S[i + 1] ≤ S[j] := by
        rcases Nat.eq_or_lt_of_le (show i + 1 ≤ j by omega) with h3 | h3
        · subst h3; exact List.le_refl _
        · have := List.pairwise_iff_getElem.1 hp (i + 1) j (by omega) hj h3
          simpa [leB] using this
      have h4 : S[i] ≤ S[i + 1] := by simpa [leB] using h1
      have h5 : S[i + 1] = S[i] := List.le_antisymm (by rw [← heq] at h2; exact h2) h4
      have h6 := hall (i + 1) (List.mem_range.2 (by omega))
      unfold Lib.keeps at h6
      rw [decide_eq_true_eq, hg (i + 1) (by omega)] at h6
      rcases h6 with h6 | h6
      · omega
      · exact h6 (by rw [h5]; exact (hg i hi).symm)
    simp [hlt, hn]
theorem bytes_nodup (l : List ByteArray) : (l.map fun s => s.data.toList).Nodup ↔ l.Nodup := by
  unfold List.Nodup
  rw [List.pairwise_map]
  exact ⟨fun h => h.imp fun h1 h2 => h1 (by rw [h2]), fun h => h.imp fun h1 h2 => h1 (bytes_inj h2)⟩
/-- the names, sorted, each one once: how many -/
def onceN (l : List ByteArray) : Nat := (Lib.compact ((l.map fun s => s.data.toList).mergeSort fun x y => decide (x ≤ y))).length
theorem once_lt (l : List ByteArray) : decide (onceN l < l.length) = !decide l.Nodup := by
  have tr : ∀ a b c : List UInt8, leB a b = true → leB b c = true → leB a c = true := fun a b c h1 h2 => by simp only [leB, decide_eq_true_eq] at *; exact List.le_trans h1 h2
  have tt : ∀ a b : List UInt8, (leB a b || leB b a) = true := fun a b => by simp only [leB, Bool.or_eq_true, decide_eq_true_eq]; exact List.le_total a b
  have h := compact_lt (List.pairwise_mergeSort tr tt (l.map fun s => s.data.toList))
  have hl : ((l.map fun s => s.data.toList).mergeSort leB).length = l.length := by rw [List.length_mergeSort, List.length_map]
  have hn : ((l.map fun s => s.data.toList).mergeSort leB).Nodup ↔ l.Nodup := ((List.mergeSort_perm _ leB).nodup_iff).trans (bytes_nodup l)
  rw [hl] at h
  unfold onceN
  rw [show (!decide l.Nodup) = !decide ((l.map fun s => s.data.toList).mergeSort leB).Nodup by simp [hn]]
  exact h
theorem encS_map (l : List ByteArray) : (l.map fun s => s.data.toList).map encStr = l.map Value.string := by
  rw [List.map_map]
  apply List.map_congr_left
  intro s _
  simp [encStr]
theorem shelfS {e : TypeId} {w : World} {A : Option Addr} {n : Nat} {l : List ByteArray} (h : RS e w A n l) (hp : 0 < n) : ∃ b off, A = some ⟨b, off, none⟩ ∧ ∀ j, j < l.length → w.cell? ⟨b, off + j, none⟩ = some (.string (l.getD j ⟨#[]⟩)) := by
  obtain ⟨b, off, cs, fz, hA, hb, hc⟩ := h.2.2 hp
  refine ⟨b, off, hA, fun j hj => ?_⟩
  have hx : l[j]? = some (l.getD j ⟨#[]⟩) := by rw [List.getD_eq_getElem?_getD, List.getElem?_eq_getElem hj]; rfl
  rw [cell_of_row w b _ cs e fz hb]
  exact hc j _ hx
theorem cloneS_c (A : Option Addr) (n c : Nat) (l : List ByteArray) (w : World) (h : RS 9 w A n l) (hn : n ≤ 1000000) :
    Calls Tryz.prog 134 #[.slice A n c] w fun e w' => ∃ A' c', e = .returned (.slice A' n c') ∧ w'.ownsRow w.heap.size 9 1 (.slice A' n c') n (l.map Value.string) ∧ Below w.heap.size w w' := by
  have hl := h.len
  rcases A with _ | ad
  · have h0 : n = 0 := by
      rcases Nat.eq_zero_or_pos n with h0 | hp
      · exact h0
      · obtain ⟨b, off, e, _⟩ := shelfS h hp
        cases e
    subst h0
    obtain rfl : l = [] := List.eq_nil_of_length_eq_zero hl
    exact (Tryz.slices_Clone_string_nil 0 c w).mono fun _ _ ⟨he, hw⟩ => ⟨none, 0, he, by rw [hw]; exact World.ownsRow_nil _ _ _ _, by rw [hw]; exact Below.refl _ _⟩
  · rcases Nat.eq_zero_or_pos n with h0 | hp
    · subst h0
      obtain rfl : l = [] := List.eq_nil_of_length_eq_zero hl
      refine (Tryz.slices_Clone_string_zero ad c w).mono fun _ _ ⟨v, he, ho, _, hB⟩ => ?_
      obtain ⟨A', c', rfl⟩ := own_shape ho
      exact ⟨A', c', he, ho, hB⟩
    · obtain ⟨b, off, hA, hc⟩ := shelfS h hp
      injection hA with hA
      subst hA
      refine (Tryz.slices_Clone_string b off n c l w (by omega) (by omega) hc).mono fun _ _ ⟨v, he, ho, _, hB⟩ => ?_
      obtain ⟨A', c', rfl⟩ := own_shape ho
      rw [List.take_of_length_le (by omega)] at ho
      exact ⟨A', c', he, ho, hB⟩
theorem sortS_c (base : Nat) (A : Option Addr) (n c : Nat) (l : List (List UInt8)) (w : World) (h : w.ownsRow base 9 1 (.slice A n c) n (l.map encStr)) (hn : n ≤ 1000000) :
    Calls Tryz.prog 135 #[.slice A n c] w fun e w' => e = .returned (.tuple #[]) ∧ w'.ownsRow base 9 1 (.slice A n c) n ((l.mergeSort fun x y => decide (x ≤ y)).map encStr) ∧ w.grownBy w' (Value.slice A n c).ownBlock := by
  have hl : l.length = n := by have := h.1; rw [List.length_map] at this; omega
  rcases h.2 with ⟨hv, h0⟩ | ⟨g, cap, cur, hv, hb, hg, h1, h2, h3, h4⟩
  · subst h0
    injection hv with q1 q2 q3
    subst q1 q3
    obtain rfl : l = [] := List.eq_nil_of_length_eq_zero hl
    refine (Tryz.slices_Sort_string_none none 0 w).mono ?_
    rintro e w' ⟨he, rfl⟩
    exact ⟨he, by simpa using World.ownsRow_nil _ _ _ _, grown_refl _ _⟩
  · injection hv with q1 q2 q3
    subst q1 q3 hl
    rw [Nat.mul_one] at h4
    have hH := holds_of_block hg h4
    refine (Tryz.slices_Sort_string g 0 c l w hH (lt_of_heap hg) (by omega)).mono ?_
    rintro e w' ⟨he, q, os, rfl⟩
    exact ⟨he, ownsRow_sorted (ss := l) (by simp) hb hg h1 h2 h3, grownBy_sorted _⟩
theorem compactS_c (base : Nat) (A : Option Addr) (n c : Nat) (l : List (List UInt8)) (w : World) (h : w.ownsRow base 9 1 (.slice A n c) n (l.map encStr)) (hn : n ≤ 1000000) :
    Calls Tryz.prog 136 #[.slice A n c] w fun e w' => e = .returned (.slice A (Lib.compact l).length c) ∧ w.grownBy w' (Value.slice A n c).ownBlock := by
  have hl : l.length = n := by have := h.1; rw [List.length_map] at this; omega
  rcases h.2 with ⟨hv, h0⟩ | ⟨g, cap, cur, hv, hb, hg, h1, h2, h3, h4⟩
  · subst h0
    injection hv with q1 q2 q3
    subst q1 q3
    obtain rfl : l = [] := List.eq_nil_of_length_eq_zero hl
    refine (Tryz.slices_Compact_string_empty none 0 w).mono ?_
    rintro e w' ⟨he, rfl⟩
    exact ⟨he, grown_refl _ _⟩
  · injection hv with q1 q2 q3
    subst q1 q3 hl
    rw [Nat.mul_one] at h4
    have hH := holds_of_block hg h4
    refine (Tryz.slices_Compact_string g 0 c l w hH (by omega) h1).mono ?_
    rintro e w' ⟨he, q, rfl⟩
    have k2 := grownBy_sorted (w := w) (g := g) (n := q) (os := #[]) (Lib.compact l ++ List.replicate (l.length - (Lib.compact l).length) []).toArray
    rw [grow_empty] at k2
    exact ⟨he, k2⟩
set_option maxRecDepth 100000 in
theorem once_c (A : Option Addr) (n c : Nat) (l : List ByteArray) (w : World) (h : RS 9 w A n l) (hn : n ≤ 1000000) :
    Calls Tryz.prog 100 #[.slice A n c] w fun e w' => ∃ A' c', e = .returned (.slice A' (onceN l) c') ∧ Below w.heap.size w w' := by
  have hcl := Lib.hid (cloneS_c A n c l w h hn)
  have hO : onceN l = (Lib.compact ((l.map fun s => s.data.toList).mergeSort fun x y => decide (x ≤ y))).length := rfl
  rw [← encS_map] at hcl
  rw [hO]
  clear hO
  generalize (l.map fun s => s.data.toList) = L at *
  go_enter Tryz.func100, Tryz.ntmps100
  go_wp2_with fail
  refine hcl.out.mono ?_; rintro e w1 ⟨A1, c1, rfl, ho1, B1⟩
  go_wp2_with fail
  refine (sortS_c _ A1 n c1 L w1 ho1 hn).mono ?_; rintro e w2 ⟨rfl, ho2, g2⟩
  have B2 := below_own B1 ho1 g2 B1.size (Nat.le_refl _)
  go_wp2_with fail
  refine (compactS_c _ A1 n c1 _ w2 ho2 hn).mono ?_; rintro e w3 ⟨rfl, g3⟩
  have B3 := below_own B2 ho2 g3 B2.size (Nat.le_refl _)
  go_wp2
  go_ret
  exact ⟨A1, c1, rfl, B3⟩
theorem twice_c (A : Option Addr) (n c : Nat) (l : List ByteArray) (w : World) (h : RS 9 w A n l) (hn : n ≤ 1000000) :
    Calls Tryz.prog 51 #[.slice A n c] w fun e w' => e = .returned (.bool (!decide l.Nodup)) ∧ Below w.heap.size w w' := by
  have ho := Lib.hid (once_c A n c l w h hn)
  rw [← once_lt, h.len]
  generalize onceN l = m at *
  go_enter Tryz.func51, Tryz.ntmps51
  go_wp2_with fail
  refine ho.out.mono ?_; rintro e w1 ⟨A1, c1, rfl, B1⟩
  go_wp2
  go_ret
  exact ⟨by simp, B1⟩
/-! ## R.SeedsFault -/
def sdGo : List Sd → Int
  | [] => 0
  | x :: l => if keyB x.who = false then 5 else if ¬ (0 ≤ x.time ∧ x.time ≤ 360000) then 1 else sdGo l
theorem sdGo_at {l : List Sd} {k : Nat} {x : Sd} (h : l[k]? = some x) : sdGo (l.drop k) = if keyB x.who = false then 5 else if ¬ (0 ≤ x.time ∧ x.time ≤ 360000) then 1 else sdGo (l.drop (k + 1)) := by rw [drop_at h]; rfl
open Classical in
theorem seedGo_ref : ∀ (l : List Sd) (seen : List ByteArray) (tw : Bool), seedGo seen tw l = if sdGo l ≠ 0 then sdGo l else if tw = true ∨ ¬ ((l.map Sd.who).Nodup ∧ ∀ x ∈ l, x.who ∉ seen) then 6 else 0
  | [], seen, tw => by
    unfold seedGo sdGo
    cases tw <;> simp
  | x :: l, seen, tw => by
    unfold seedGo sdGo
    by_cases hk : keyB x.who = false
    · rw [if_pos hk, if_pos hk]; simp
    · rw [if_neg hk, if_neg hk]
      by_cases ht : ¬ (0 ≤ x.time ∧ x.time ≤ 360000)
      · rw [if_pos ht, if_pos ht]; simp
      · rw [if_neg ht, if_neg ht, seedGo_ref l (x.who :: seen) (tw || seenB x.who seen)]
        by_cases hg : sdGo l ≠ 0
        · rw [if_pos hg, if_pos hg]
        · rw [if_neg hg, if_neg hg]
          have hs : seenB x.who seen = true ↔ x.who ∈ seen := by
            unfold seenB
            rw [List.any_eq_true]
            constructor
            · rintro ⟨t, h1, h2⟩
              have := of_decide_eq_true h2
              subst this; exact h1
            · intro h; exact ⟨_, h, by simp⟩
          have hiff : (((tw || seenB x.who seen) = true) ∨ ¬ ((l.map Sd.who).Nodup ∧ ∀ y ∈ l, y.who ∉ x.who :: seen)) ↔ (tw = true ∨ ¬ (((x :: l).map Sd.who).Nodup ∧ ∀ y ∈ x :: l, y.who ∉ seen)) := by
            rw [Bool.or_eq_true, hs]
            simp only [List.map_cons, List.nodup_cons, List.mem_map, List.mem_cons, not_or, forall_eq_or_imp]
            constructor
            · rintro ((h | h) | h)
              · exact .inl h
              · exact .inr fun hc => hc.2.1 h
              · refine .inr fun hc => h ⟨hc.1.2, fun y hy => ⟨fun e => hc.1.1 ⟨y, hy, e⟩, hc.2.2 y hy⟩⟩
            · rintro (h | h)
              · exact .inl (.inl h)
              · by_cases hx : x.who ∈ seen
                · exact .inl (.inr hx)
                · refine .inr fun hc => h ⟨⟨?_, hc.1⟩, hx, fun y hy => (hc.2 y hy).2⟩
                  rintro ⟨y, hy, e⟩
                  exact (hc.2 y hy).1 e
          by_cases hc : ((tw || seenB x.who seen) = true) ∨ ¬ ((l.map Sd.who).Nodup ∧ ∀ y ∈ l, y.who ∉ x.who :: seen)
          · rw [if_pos hc, if_pos (hiff.1 hc)]
          · rw [if_neg hc, if_neg (fun h => hc (hiff.2 h))]
theorem seedErr_ref (l : List Sd) : seedErr l = if 300 < l.length then 2 else if sdGo l ≠ 0 then sdGo l else if (l.map Sd.who).Nodup then 0 else 6 := by
  unfold seedErr
  rw [seedGo_ref]
  split
  · rfl
  · split
    · rfl
    · by_cases hn : (l.map Sd.who).Nodup <;> simp [hn]
theorem info_strS : (Tryz.prog.info? 9).map (fun i => (i.zero, i.size, i.bytes)) = some (some (.string ⟨#[]⟩), 1, 16) := by kernel_rfl
set_option maxHeartbeats 1600000 in
set_option maxRecDepth 100000 in
theorem seedsFault_c (A : Option Addr) (n c : Nat) (l : List Sd) (w : World) (h : RSd w A n l) :
    Calls Tryz.prog 8 #[.slice A n c] w fun e w' => e = .returned (.int .i64 (seedErr l)) ∧ Below w.heap.size w w' := by
  have hl := h.len
  by_cases hbig : 300 < n
  · have hE : seedErr l = 2 := by rw [seedErr_ref, if_pos (by omega)]
    rw [hE]
    clear hE
    go_enter Tryz.func8, Tryz.ntmps8
    go_wp2
    go_ret
    exact ⟨rfl, Below.refl _ _⟩
  have hE := Lib.hid (show seedErr l = if sdGo l ≠ 0 then sdGo l else if (l.map Sd.who).Nodup then 0 else 6 by rw [seedErr_ref, if_neg (by omega)])
  have hl' := Lib.hid hl
  have hbd := Lib.hid h.bd
  have hTw := Lib.hid (fun A n c l W h hn => twice_c A n c l W h hn)
  have hAt := Lib.hid (fun k x h => sdGo_at (l := l) (k := k) (x := x) h)
  generalize seedErr l = E at *
  clear hl
  go_enter Tryz.func8, Tryz.ntmps8
  go_wp2
  go_loopw [3, 11] (fun out i wr => ∃ k : Nat, k ≤ n ∧ i = .int .i64 k ∧ wr.ownsRow w.heap.size 9 1 out k ((l.take k).map fun x => Value.string x.who) ∧ Below w.heap.size w wr ∧ Hid (sdGo (l.drop k) = sdGo l)) (fun _ i _ => n - (intOf i).toNat)
  case atStart => exact ⟨0, Nat.zero_le _, rfl, World.ownsRow_nil _ _ _ _, Below.refl _ _, Lib.hid rfl⟩
  case round =>
    obtain ⟨k, hk, rfl, hown, hB, hF⟩ := hrel
    by_cases hlt : k < n
    · obtain ⟨b, off, x, rfl, hbl, hx, c0, c1⟩ := RSd_at2 (h.below hB) hlt
      have hS := Lib.hid (hAt.out k x hx)
      have htk := Lib.hid (show (l.take (k + 1)).map (fun x => Value.string x.who) = (l.take k).map (fun x => Value.string x.who) ++ [Value.string x.who] by
        have h1 : l.take (k + 1) = l.take k ++ [x] := by rw [List.take_add_one, hx]; rfl
        rw [h1, List.map_append]; rfl)
      obtain ⟨who, time⟩ := x
      dsimp only at *
      clear hx
      have hn0 := heap_alloc_new wr (.cells #[.string who, .int .i64 time] 40)
      have hown0 := hown.alloc (.cells #[.string who, .int .i64 time] 40)
      go_wp2_with fail
      refine (key_c who _).mono ?_; rintro e w1 ⟨rfl, B1⟩
      have hn1 := blk_below hn0 B1
      have hown1 := own_below hown0 B1
      have hB1 := below_nextBox hB B1
      clear hn0 B1 c0 c1 hown hown0
      cases hkb : keyB who
      · have hR := Lib.hid (show sdGo l = 5 by rw [← hF.out, hS.out, if_pos hkb])
        clear hkb
        go_wp2
        go_ret
        exact ⟨ret_i (by rw [hE.out, hR.out]; rfl), hB1⟩
      have hS2 := Lib.hid (show sdGo (l.drop k) = if ¬ (0 ≤ time ∧ time ≤ 360000) then 1 else sdGo (l.drop (k + 1)) by rw [hS.out, if_neg (by simp [hkb])])
      clear hS hkb
      have z0 := (blk_facts hn1).1 0
      have z1 := (blk_facts hn1).1 1
      by_cases hT : 0 ≤ time ∧ time ≤ 360000
      rotate_left
      · have hR := Lib.hid (show sdGo l = 1 by rw [← hF.out, hS2.out, if_pos hT])
        have hd : decide (0 ≤ time ∧ time ≤ 360000) = false := decide_eq_false hT
        clear hT
        go_wp2_with (go_at_call 50; refine (in_c _ _ _ _).mono ?_; rintro e w' ⟨rfl, rfl⟩; rw [hd])
        go_ret
        exact ⟨ret_i (by rw [hE.out, hR.out]; rfl), hB1⟩
      · have hR := Lib.hid (show sdGo (l.drop (k + 1)) = sdGo l by rw [← hF.out, hS2.out, if_neg (by simpa using hT)])
        have hd : decide (0 ≤ time ∧ time ≤ 360000) = true := decide_eq_true hT
        have hz := hB1.size
        have hbd' := hbd.out
        clear hT hF hS2
        go_wp2_with (first | (go_at_call 50; refine (in_c _ _ _ _).mono ?_; rintro e w' ⟨rfl, rfl⟩; rw [hd]) | (at_builtin; refine wpList_app rfl (.tmp 25) (.tmp 28) 96 rfl Tryz.underlying96 info_strS rfl (by omega) (by omega) hown1 rfl rfl (by first | rfl | (simp; done)) rfl (by simp [Value.oneCell']) (by omega) hz ?_; intro v4 w4 hown4 hg4))
        have H := Lib.hid (And.intro (show w4.ownsRow w.heap.size 9 1 v4 (k + 1) ((l.take (k + 1)).map fun x => Value.string x.who) by rw [htk.out]; exact hown4) (below_own hB1 hown1 hg4 hz (Nat.le_refl _)))
        clear hown4 hg4 hown1
        go_roundw
        case rel => exact ⟨k + 1, by omega, by go_num, H.out.1, H.out.2, hR⟩
        case measure => simp [intOf]; omega
    · obtain rfl : k = n := by omega
      have hR := Lib.hid (show sdGo l = 0 by rw [← hF.out, drop_end (by rw [hl'.out]; exact Nat.le_refl _)]; rfl)
      obtain ⟨A3, c3, rfl⟩ := own_shape hown
      have hfull : l.take k = l := List.take_of_length_le (by rw [hl'.out]; exact Nat.le_refl _)
      rw [hfull] at hown
      have hrs : RS 9 wr A3 k (l.map Sd.who) := R1.of_own (by rw [List.map_map]; exact hown) (by omega)
      go_wp2_with fail
      refine (hTw.out A3 k c3 (l.map Sd.who) wr hrs (by omega)).mono ?_; rintro e w5 ⟨rfl, B5⟩
      have hB5 := below_next hB B5
      by_cases hn : (l.map Sd.who).Nodup
      · have hd : (!decide (l.map Sd.who).Nodup) = false := by simp [hn]
        rw [hd]
        have hn' := Lib.hid hn
        clear hn hd
        go_wp2
        go_ret
        exact ⟨ret_i (by rw [hE.out, hR.out, if_pos hn'.out]; rfl), hB5⟩
      · have hd : (!decide (l.map Sd.who).Nodup) = true := by simp [hn]
        rw [hd]
        have hn' := Lib.hid hn
        clear hn hd
        go_wp2
        go_ret
        exact ⟨ret_i (by rw [hE.out, hR.out, if_neg hn'.out]; rfl), hB5⟩
end Go.Proofs.YtnkhdofcmanipaaGreatDoor

/- The stream's seeds: Order, Seeds, RightSeeds. -/
namespace Go.Proofs.YtnkhdofcmanipaaGreatDoor
open Go.RowKit
set_option linter.unusedVariables false

/-- what stands in a row, all below a number -/
def AllIn (N : Nat) (l : List Int) : Prop := ∀ x ∈ l, 0 ≤ x ∧ x < N
theorem AllIn.set {N : Nat} {l : List Int} (h : AllIn N l) {i : Nat} {x : Int} (hx : 0 ≤ x ∧ x < N) : AllIn N (l.set i x) := fun y hy => by
  rcases List.mem_or_eq_of_mem_set hy with h1 | h1
  · exact h y h1
  · subst h1; exact hx
theorem own_setS {w : World} {base b n c : Nat} {L : List Int} (h : w.ownsRow base 3 1 (.slice (some ⟨b, 0, none⟩) n c) n (ints L)) (j : Nat) (x : Int) : (w.setCell ⟨b, j, none⟩ (.int .i64 x)).ownsRow base 3 1 (.slice (some ⟨b, 0, none⟩) n c) n (ints (L.set j x)) := by
  have h2 := (h.stored j (.int .i64 x)).1
  have e : (ints L).set j (.int .i64 x) = ints (L.set j x) := by unfold ints; rw [List.map_set]
  rw [e] at h2
  exact h2
/-- what Order hands back -/
def RetOrd (w : World) (g : Nat) (zs : Zs) (k N : Nat) (e : Ending) (w' : World) : Prop := ∃ A c L k', e = .returned (.slice A N c) ∧ w'.ownsRow w.heap.size 3 1 (.slice A N c) N (ints L) ∧ AllIn N L ∧ St w' g zs k' ∧ k' ≤ k + N ∧ w.grownBy w' (some g)
set_option maxHeartbeats 3200000 in
set_option maxRecDepth 100000 in
theorem order_c (g : Nat) (zs : Zs) (k N : Nat) (w : World) (h : St w g zs k) (hk : k + 1000 ≤ 1099511627776) (hN : N ≤ 300) :
    Calls Tryz.prog 43 #[.pointer (some ⟨g, 0, none⟩), .int .i64 N] w (RetOrd w g zs k N) := by
  have hglt := h.lt
  go_enter Tryz.func43, Tryz.ntmps43
  go_wp2_with fail
  go_loopw [5, 10] (fun out i wr => ∃ (j : Nat) (acc : List Int), j ≤ N ∧ i = .int .i64 j ∧ wr.ownsRow w.heap.size 3 1 out j (ints acc) ∧ Hid (AllIn N acc) ∧ St wr g zs k ∧ w.grownBy wr (some g)) (fun _ i _ => N - (intOf i).toNat)
  case atStart => exact ⟨0, [], Nat.zero_le _, rfl, World.ownsRow_nil _ _ _ _, Lib.hid (fun x hx => by cases hx), h, grown_refl _ _⟩
  case round =>
    obtain ⟨j, acc, hj, rfl, hown, hal, hst, hgr⟩ := hrel
    by_cases hlt : j < N
    · have hz := hgr.size
      have hal2 := Lib.hid (show AllIn N (acc ++ [(j : Int)]) from fun x hx => by
        rcases List.mem_append.1 hx with h1 | h1
        · exact hal.out x h1
        · rw [List.mem_singleton] at h1; subst h1; omega)
      go_wp2_with (at_builtin; refine wpList_app rfl (.tmp 13) (.tmp 15) 22 rfl Tryz.underlying22 info_int rfl (by omega) (by omega) hown rfl rfl (by first | rfl | (simp; done)) (by rfl) (by simp [Value.oneCell']) (by omega) hz ?_; intro v4 w4 hown4 hg4)
      have hgr4 := grown_own hgr hg4 (own_row_lt hown)
      have hst4 := hst.grown hg4 (fun i hi => by have := own_row_lt hown i hi; omega)
      have H := Lib.hid (And.intro (show w4.ownsRow w.heap.size 3 1 v4 (j + 1) (ints (acc ++ [(j : Int)])) by rw [ints_app]; exact hown4) (And.intro hst4 hgr4))
      clear hown4 hown hgr hst hst4 hgr4 hg4
      go_roundw
      case rel => exact ⟨j + 1, _, by omega, by go_num, H.out.1, hal2, H.out.2.1, H.out.2.2⟩
      case measure => simp [intOf]; omega
    · obtain rfl : j = N := by omega
      obtain ⟨A, c, rfl⟩ := own_shape hown
      clear h
      go_wp2_with fail
      go_loopw [7] (fun i wr => ∃ (p kk : Nat) (acc : List Int), i = .int .i64 ((p : Int) - 1) ∧ p ≤ j ∧ kk + p ≤ k + j ∧ wr.ownsRow w.heap.size 3 1 (.slice A j c) j (ints acc) ∧ Hid (AllIn j acc) ∧ St wr g zs kk ∧ w.grownBy wr (some g)) (fun i _ => (intOf i).toNat)
      case atStart => exact ⟨j, k, acc, rfl, Nat.le_refl _, by omega, hown, hal, hst, hgr⟩
      case round =>
        clear hown hal hst hgr
        rename World => wr
        obtain ⟨p, kk, acc, rfl, hp, hkk, hown, hal, hst, hgr⟩ := hrel
        by_cases hp2 : 2 ≤ p
        · have e1 : (0 : Int) < (p : Int) - 1 := by omega
          have e2 : IntKind.i64.wrap ((p : Int) - 1 + 1) = (p : Int) := by rw [IntWalk.i64_in _ (by omega)]; omega
          have e3 : IntKind.i64.wrap ((p : Int) - 1 - 1) = ((p - 1 : Nat) : Int) - 1 := by rw [IntWalk.i64_in _ (by omega)]; omega
          go_wp2_with fail
          refine (nextE_c g zs kk _ _ hst (by omega) (by omega) (by omega)).mono ?_; rintro e w5 ⟨v, rfl, hv0, hv1, s5, g5⟩
          obtain ⟨q, rfl⟩ : ∃ q : Nat, v = q := ⟨v.toNat, by omega⟩
          have hown5 := own_keep hown hglt g5
          have hgr5 := grown_trans hgr g5
          obtain ⟨b, rfl, hbb⟩ := own_someN hown5 (by omega)
          have hl5 : acc.length = j := by have := hown5.1; rw [ints_len] at this; omega
          obtain ⟨x, hx⟩ := at_of_lt (l := acc) (k := p - 1) (by omega)
          obtain ⟨y, hy⟩ := at_of_lt (l := acc) (k := q) (by omega)
          have hxb := hal.out x (List.mem_of_getElem? hx)
          have hyb := hal.out y (List.mem_of_getElem? hy)
          have cx : w5.cell? ⟨b, p - 1, none⟩ = some (.int .i64 x) := by rw [hown5.cellAt (p - 1) (by omega), ints_at, hx]; rfl
          have cy : w5.cell? ⟨b, q, none⟩ = some (.int .i64 y) := by rw [hown5.cellAt q (by omega), ints_at, hy]; rfl
          have fx := hown5.frozenAt (p - 1)
          have fy := hown5.frozenAt q
          have e4 : (0 : Int) ≤ (p : Int) - 1 := by omega
          have e5 : ((p : Int) - 1).toNat = p - 1 := by omega
          have e6 : (p : Int) - 1 < j := by omega
          have e7 : (1 : Int) ≤ (p : Int) := by omega
          have e8 : (q : Int) < j := by omega
          have hx' := Lib.hid hx
          have hy' := Lib.hid hy
          have hl5' := Lib.hid hl5
          clear hx hy hl5 hown hst hgr g5
          by_cases hq : q = p - 1
          · subst hq
            obtain rfl : x = y := by have h1 := hx'.out; rw [hy'.out] at h1; injection h1 with h1; exact h1.symm
            go_wp2
            go_region
            have H := Lib.hid (And.intro (own_below (own_setS (own_setS hown5 (p - 1) x) (p - 1) x) (below_drewN (Below.refl _ _) 1)) (And.intro ((s5.setAt (b := b) (o := p - 1) (by omega) (.int .i64 x)).setAt (b := b) (o := p - 1) (by omega) (.int .i64 x)).drew (And.intro (grown_drew (grown_setAt (grown_setAt hgr5 hbb (o := p - 1) (.int .i64 x)) hbb (o := p - 1) (.int .i64 x))) (show AllIn j ((acc.set (p - 1) x).set (p - 1) x) from (hal.out.set (by omega)).set (by omega)))))
            clear hown5 s5 hgr5 fx fy cx cy
            go_wp2
            go_roundw
            case rel => exact ⟨p - 1, kk + 1, _, by first | rfl | go_num, by omega, by omega, H.out.1, Lib.hid H.out.2.2.2, H.out.2.1, H.out.2.2.1⟩
            case measure => simp [intOf]; omega
          · go_wp2
            go_region
            have H := Lib.hid (And.intro (own_below (own_setS (own_setS hown5 (p - 1) y) (q) x) (below_drewN (Below.refl _ _) 1)) (And.intro ((s5.setAt (b := b) (o := p - 1) (by omega) (.int .i64 y)).setAt (b := b) (o := q) (by omega) (.int .i64 x)).drew (And.intro (grown_drew (grown_setAt (grown_setAt hgr5 hbb (o := p - 1) (.int .i64 y)) hbb (o := q) (.int .i64 x))) (show AllIn j ((acc.set (p - 1) y).set (q) x) from (hal.out.set (by omega)).set (by omega)))))
            clear hown5 s5 hgr5 fx fy cx cy
            go_wp2
            go_roundw
            case rel => exact ⟨p - 1, kk + 1, _, by first | rfl | go_num, by omega, by omega, H.out.1, Lib.hid H.out.2.2.2, H.out.2.1, H.out.2.2.1⟩
            case measure => simp [intOf]; omega
        · have e1 : ¬ (0 : Int) < (p : Int) - 1 := by omega
          go_wp2
          go_ret
          exact ⟨A, c, acc, kk, rfl, hown, hal.out, hst, by omega, hgr⟩
theorem sdr_set : ∀ (l : List Sd) (k : Nat) (who : ByteArray) (x : Sd), l[k]? = some x →
    (l.flatMap sdE).set (k * 2) (.string who) = (l.set k ⟨who, x.time⟩).flatMap sdE
  | [], _, _, _, h => by simp at h
  | x :: l, 0, who, t, h => by
    obtain rfl : x = t := by simpa using h
    simp [sdE]
  | x :: l, k + 1, who, t, h => by
    rw [List.set_cons_succ, List.flatMap_cons, List.flatMap_cons, ← sdr_set l k who t (by simpa using h), List.set_append_right _ _ (by show 2 ≤ _; omega)]
    congr 2
    show (k + 1) * 2 - 2 = _; omega
theorem sdr_set1 : ∀ (l : List Sd) (k : Nat) (v : Int) (x : Sd), l[k]? = some x →
    (l.flatMap sdE).set (k * 2 + 1) (.int .i64 v) = (l.set k ⟨x.who, v⟩).flatMap sdE
  | [], _, _, _, h => by simp at h
  | x :: l, 0, v, t, h => by
    obtain rfl : x = t := by simpa using h
    simp [sdE]
  | x :: l, k + 1, v, t, h => by
    rw [List.set_cons_succ, List.flatMap_cons, List.flatMap_cons, ← sdr_set1 l k v t (by simpa using h), List.set_append_right _ _ (by show 2 ≤ _; omega)]
    congr 2
    show (k + 1) * 2 + 1 - 2 = _; omega
def RetSd (w : World) (g : Nat) (zs : Zs) (k M : Nat) (e : Ending) (w' : World) : Prop := ∃ (A : Option Addr) (n c : Nat) (l : List Sd) (k' : Nat), e = .returned (.slice A n c) ∧ w'.ownsRow w.heap.size 40 2 (.slice A n c) n (l.flatMap sdE) ∧ l.length = n ∧ n ≤ M ∧ St w' g zs k' ∧ k' ≤ k + 3 * M + 10 ∧ w.grownBy w' (some g)
set_option maxHeartbeats 3200000 in
set_option maxRecDepth 100000 in
theorem seeds_c (g : Nat) (zs : Zs) (k M : Nat) (w w0 : World) (h : St w g zs k) (hk : k + 2000 ≤ 1099511627776) (hM : M ≤ 100) (hT : Tb w0) (hb0 : Below w0.heap.size w0 w) (hg0 : w0.heap.size ≤ g) :
    Calls Tryz.prog 5 #[.pointer (some ⟨g, 0, none⟩), .int .i64 M] w (RetSd w g zs k M) := by
  have hglt := h.lt
  have hTb := Lib.hid (fun wx (hg : w.grownBy wx (some g)) => hT.below (hb0.trans (grown_below hg hg0 hb0.size)))
  clear hT hb0 hg0
  go_enter Tryz.func5, Tryz.ntmps5
  go_wp2_with fail
  refine (rangeE_c g zs k 0 M _ h (by omega) (by omega) (by omega) (by omega)).mono ?_; rintro e w1 ⟨v, rfl, hv0, hv1, s1, g1⟩
  obtain ⟨N, rfl⟩ : ∃ N : Nat, v = N := ⟨v.toNat, by omega⟩
  have hNM : N ≤ M := by omega
  have hN1 : N ≤ 100 := by omega
  have hgl1 := s1.lt
  go_wp2_with fail
  refine (order_c g zs (k + 1) N _ s1 (by omega) (by omega)).mono ?_; rintro e w2 ⟨AO, cO, L, k2, rfl, hO, hal, s2, hk2, g2⟩
  have hgr2 := grown_trans g1 g2
  have hRL : RI 3 w2 AO N L := R1.of_own hO (by omega)
  have hal' := Lib.hid hal
  clear hO s1 g1 g2 h hal
  go_wp2_with fail
  go_loopw [5, 15] (fun out i wr => ∃ (j kk : Nat) (acc : List Sd), j ≤ N ∧ i = .int .i64 j ∧ Hid (acc.length = j) ∧ wr.ownsRow w.heap.size 40 2 out j (acc.flatMap sdE) ∧ RI 3 wr AO N L ∧ St wr g zs kk ∧ kk ≤ k2 + 2 * j ∧ w.grownBy wr (some g)) (fun _ i _ => N - (intOf i).toNat)
  case atStart => exact ⟨0, k2, [], Nat.zero_le _, rfl, Lib.hid rfl, World.ownsRow_nil _ _ _ _, hRL, s2, by omega, hgr2⟩
  case round =>
    clear hRL s2 hgr2
    obtain ⟨j, kk, acc, hj, rfl, hla, hown, hRL, hst, hkk, hgr⟩ := hrel
    by_cases hlt : j < N
    · obtain ⟨bO, oO, x, rfl, lO, hx, cx⟩ := hRL.at_ hlt
      have hxb := hal'.out x (List.mem_of_getElem? hx)
      clear hx
      have hx1 : 0 ≤ x := hxb.1
      have hx2 : x ≤ 100 := by have := hxb.2; omega
      have hsI := Lib.hid (itoa_c x wr (hTb.out _ hgr) (by omega) (by omega))
      have hsz : 1 + (itoaS x).size ≤ 9223372036854775807 := by
        have := Lib.itoa_length_le x (by omega) (by omega)
        show 1 + (Lib.itoa x).toArray.size ≤ _
        rw [List.size_toArray]; omega
      have hsz2 : ¬ (1 + (itoaS x).size > 9223372036854775807) := by omega
      generalize itoaS x = tx at *
      go_wp2_with fail
      refine hsI.out.mono ?_; rintro e w3 ⟨rfl, B3⟩
      have hown3 := own_below hown B3
      have hRL3 := hRL.below B3
      have s3 := hst.below B3
      have hgr3 := grown_trans hgr (grown_of_below B3)
      clear hown hRL hst hgr B3 hsI cx lO
      go_wp2_with fail
      refine (nextE_c g zs kk 300 _ s3 (by omega) (by decide) (by decide)).mono ?_; rintro e w4 ⟨v, rfl, hv0, hv1, s4, g4⟩
      have hown4 := own_keep hown3 hglt g4
      have hRL4 := hRL3.keep (T := 25) (by decide) (s3.keep g4)
      have hgr4 := grown_trans hgr3 g4
      clear hown3 hRL3 s3 hgr3 g4
      go_wp2_with fail
      refine (pickE_c g zs _ _ _ _ [0, 6000, 6000, 6010, 6018, 6100, 6000 + v] _ (s4.alloc _) (by omega) (R1.litAt _ _ _ _ (by first | rfl | (simp; done)) (by simp) (by simp)) (by simp)).mono ?_; rintro e w5 ⟨pv, rfl, hpv, s5, g5⟩
      have hown5 := own_keep (hown4.alloc (.cells #[.int .i64 0, .int .i64 6000, .int .i64 6000, .int .i64 6010, .int .i64 6018, .int .i64 6100, .int .i64 (6000 + v)] 3)) hglt g5
      have hRL5 := (hRL4.alloc (.cells #[.int .i64 0, .int .i64 6000, .int .i64 6000, .int .i64 6010, .int .i64 6018, .int .i64 6100, .int .i64 (6000 + v)] 3)).keep (T := 25) (by decide) ((s4.alloc _).keep g5)
      have hgr5 := grown_trans (grown_alloc hgr4 (.cells #[.int .i64 0, .int .i64 6000, .int .i64 6000, .int .i64 6010, .int .i64 6018, .int .i64 6100, .int .i64 (6000 + v)] 3)) g5
      have hz5 := hgr5.size
      clear hown4 hRL4 s4 hgr4 g5 hpv
      go_wp2_with (at_builtin; refine wpList_app rfl (.tmp 19) (.tmp 30) 26 rfl Tryz.underlying26 info_seed rfl (by omega) (by omega) hown5 rfl rfl (by first | rfl | (simp; done)) (by rfl) (by simp [Value.oneCell']) (by omega) hz5 ?_; intro v6 w6 hown6 hg6)
      have H := Lib.hid (And.intro (show w6.ownsRow w.heap.size 40 2 v6 (j + 1) ((acc ++ [(⟨⟨#[115]⟩ ++ tx, pv⟩ : Sd)]).flatMap sdE) by rw [← flat_snoc]; exact hown6) (And.intro (hRL5.keep (T := 40) (by decide) (keep_row hown5 hg6)) (And.intro (s5.grown hg6 (fun i hi => by have := own_row_lt hown5 i hi; omega)) (grown_own hgr5 hg6 (own_row_lt hown5)))))
      clear hown6 hg6 hown5 hRL5 s5 hgr5
      go_roundw
      case rel => exact ⟨j + 1, _, _, by omega, by go_num, Lib.hid (by rw [List.length_append, hla.out]; rfl), H.out.1, H.out.2.1, H.out.2.2.1, by omega, H.out.2.2.2⟩
      case measure => simp [intOf]; omega
    · obtain rfl : j = N := by omega
      obtain ⟨A, c, rfl⟩ := own_shape hown
      have hla' := hla.out
      clear hRL hTb hal' hla
      by_cases hj0 : j = 0
      · subst hj0
        go_wp2
        go_ret
        exact ⟨A, 0, c, acc, kk, rfl, hown, hla', by omega, hst, by omega, hgr⟩
      · have hj1 : (0 : Int) < (j : Int) := by omega
        have hj2 : 0 < j := by omega
        go_wp2_with fail
        refine (flipE_c g zs kk _ _ hst (by omega) (by omega) (by omega)).mono ?_; rintro e w7 ⟨fl, rfl, s7, g7⟩
        have hown7 := own_keep hown hglt g7
        have hgr7 := grown_trans hgr g7
        clear hown hst hgr g7
        cases fl
        · go_wp2
          go_ret
          exact ⟨A, j, c, acc, _, rfl, hown7, hla', hNM, s7, by omega, hgr7⟩
        · go_wp2_with fail
          refine (nextE_c g zs _ (j : Int) _ s7 (by omega) (by omega) (by omega)).mono ?_; rintro e w8 ⟨v, rfl, v0, v1, s8, g8⟩
          obtain ⟨q, rfl⟩ : ∃ q : Nat, v = q := ⟨v.toNat, by omega⟩
          have hown8 := own_keep hown7 hglt g8
          have hgr8 := grown_trans hgr7 g8
          obtain ⟨b, rfl, hbb⟩ := own_someN hown8 (by omega)
          obtain ⟨b', off', x, hA, hbl, hx, c0, c1⟩ := RSd_at2 (RN.of_own sdE_len hown8 hla' (by omega)) (k := q) (by omega)
          injection hA with hA
          injection hA with hA hAo
          subst hA
          subst hAo
          rw [Nat.zero_add] at c0 c1
          have hx' := Lib.hid hx
          have e8 : (q : Int) < j := by omega
          clear hown7 s7 hgr7 g8 hx
          obtain ⟨xw, xt⟩ := x
          dsimp only at c0 c1
          have f0 := hown8.frozenAt (q * 2)
          have f1 := hown8.frozenAt (q * 2 + 1)
          have hlz : w8.heap.size = w8.heap.size := rfl
          have hoS := Lib.hid (someE_c g zs (kk + 1 + 1) [xw, ⟨#[]⟩, ⟨#[115, 48]⟩] 3 3 w8.heap.size #[.string xw, .string ⟨#[]⟩, .string ⟨#[115, 48]⟩] w8 s8 (by omega) rfl rfl rfl (by decide) (by decide))
          go_wp2_with fail
          refine hoS.out.mono ?_; rintro e w9 ⟨v9, rfl, hv9, s9, g9⟩
          have hown9 := own_keep hown8 hglt g9
          have hgr9 := grown_trans hgr8 g9
          clear hoS hv9
          go_wp2_with fail
          refine (oddE_c g zs _ 0 360000 _ s9 (by omega) (by decide) (by decide) (by decide)).mono ?_; rintro e w10 ⟨v10, rfl, b0, b1, s10, g10⟩
          have hown10 := own_keep hown9 hglt g10
          have hgr10 := grown_trans hgr9 g10
          obtain ⟨b', off', x, hA, hbl', hx, y0, y1⟩ := RSd_at2 (RN.of_own sdE_len hown10 hla' (by omega)) (k := q) (by omega)
          injection hA with hA
          injection hA with hA hAo
          subst hA
          subst hAo
          rw [Nat.zero_add] at y0 y1
          clear hx
          have fx := hown10.frozenAt (q * 2)
          have fy := hown10.frozenAt (q * 2 + 1)
          clear c0 c1 f0 f1
          go_wp2
          go_ret
          have t1 := (hown10.stored (q * 2) (.string v9)).1
          rw [sdr_set _ _ _ _ hx'.out] at t1
          have t2 := (t1.stored (q * 2 + 1) (.int .i64 v10)).1
          rw [sdr_set1 _ _ _ ⟨v9, xt⟩ (by rw [List.getElem?_set_self (by omega)])] at t2
          exact ⟨_, j, c, _, _, rfl, t2, by rw [List.length_set, List.length_set]; exact hla', hNM, ((s10.setAt (b := b) (o := q * 2) (by omega) (.string v9)).setAt (b := b) (o := q * 2 + 1) (by omega) (.int .i64 v10)), by omega, grown_setAt (grown_setAt hgr10 hbb (o := q * 2) (.string v9)) hbb (o := q * 2 + 1) (.int .i64 v10)⟩
end Go.Proofs.YtnkhdofcmanipaaGreatDoor
