/- judge.checkRanked of ranks that are right. -/
import Derived.Test.YtdbfcneeiiialaaGreatDoorP23
namespace Go.Proofs.YtdbfcneeiiialaaGreatDoor
open Go.RowKit
open Go.Maps (Keyed string_keyed)
open Go.WideMaps (keyOf_string_mk)
set_option linter.unusedVariables false

def RkOk (x : Rk) : Prop := keyB x.who = true ∧ (0 ≤ x.rank ∧ x.rank ≤ 300) ∧ (0 ≤ x.time ∧ x.time ≤ 360000) ∧ (0 ≤ x.fault ∧ x.fault ≤ 8) ∧ (x.rank = 0 ∨ (x.time ≠ 0 ∧ x.fault = 0))
theorem seenB_no {s : ByteArray} {seen : List ByteArray} (h : s ∉ seen) : seenB s seen = false := by
  unfold seenB
  rw [List.any_eq_false]
  intro t ht hc
  have := of_decide_eq_true hc
  subst this; exact h ht
set_option maxRecDepth 100000 in
set_option maxHeartbeats 3200000 in
theorem checkRankedOk_c (A : Option Addr) (n c : Nat) (l : List Rk) (w : World) (h : RRk w A n l) (hn : n ≤ 300) (hok : ∀ x ∈ l, RkOk x) (hnd : (l.map Rk.who).Nodup) :
    Calls Tryz.prog 142 #[.slice A n c] w fun e w' => e = .returned (.int .i64 0) ∧ Below w.heap.size w w' := by
  have hl := h.len
  have hbd := h.bd
  have hPut := Lib.hid (fun D seen (h : SeenM D seen) s => h.put s)
  have hKey := Lib.hid (fun (s : ByteArray) (h : keyB s = true) => key_small h)
  have hok' := Lib.hid hok
  have hnw := Lib.hid (fun k (x : Rk) (hx : l[k]? = some x) => show x.who ∉ (l.take k).map Rk.who from fun hc => by
    obtain ⟨y, hy, he⟩ := List.mem_map.1 hc
    obtain ⟨j, hj⟩ := List.getElem?_of_mem hy
    have hjk : j < k := by
      rcases Nat.lt_or_ge j k with h1 | h1
      · exact h1
      · rw [List.getElem?_take_eq_none h1] at hj; cases hj
    rw [List.getElem?_take_of_lt hjk] at hj
    have hp := List.pairwise_iff_getElem.1 (show (l.map Rk.who).Pairwise (· ≠ ·) from hnd) j k (by rw [List.length_map]; exact (List.getElem?_eq_some_iff.1 hj).1) (by rw [List.length_map]; exact (List.getElem?_eq_some_iff.1 hx).1) hjk
    rw [List.getElem_map, List.getElem_map, (List.getElem?_eq_some_iff.1 hj).2, (List.getElem?_eq_some_iff.1 hx).2] at hp
    exact hp he)
  have htk := Lib.hid (fun k (x : Rk) (hx : l[k]? = some x) => show (l.take (k + 1)).map Rk.who = (l.take k).map Rk.who ++ [x.who] by
    have h1 : l.take (k + 1) = l.take k ++ [x] := by rw [List.take_add_one, hx]; rfl
    rw [h1, List.map_append]; rfl)
  clear hok hnd
  have hl' := Lib.hid hl
  clear hl
  have hbig : ¬ 300 < n := by omega
  have hmm := @run_makeMap Tryz.prog
  have hm0 := mb_new w
  have hB0 := below_new w (.map #[] 0)
  have hS0 := Lib.hid SeenM.nil
  go_enter Tryz.func142, Tryz.ntmps142
  go_wp2
  go_loopw [4, 13] (fun tw i wr => ∃ (k q : Nat) (seen : List ByteArray) (D : DataW Unit), k ≤ n ∧ i = .int .i64 k ∧ tw = .bool false ∧ q ≤ k ∧ MB wr w.heap.size q D ∧ Hid (SeenM D seen) ∧ Below w.heap.size w wr ∧ Hid (∀ s ∈ seen, s ∈ (l.take k).map Rk.who)) (fun _ i _ => n - (intOf i).toNat)
  case atStart => exact ⟨0, 0, [], .map [], Nat.zero_le _, rfl, rfl, Nat.le_refl _, hm0, hS0, hB0, Lib.hid (fun s hs => by cases hs)⟩
  case round =>
    clear hm0 hB0 hS0
    obtain ⟨k, q, seen, D, hk, rfl, rfl, hq, hm, hSM, hB, hF⟩ := hrel
    by_cases hlt : k < n
    · obtain ⟨b, off, x, rfl, hbl, hx, c0, c1, c2, c3⟩ := RRk.at4 (h.below hB) hlt
      obtain ⟨ok1, ok2, ok3, ok4, ok5⟩ := hok'.out x (List.mem_of_getElem? hx)
      have hns := hnw.out k x hx
      have htk' := Lib.hid (htk.out k x hx)
      obtain ⟨who, rank, time, fault⟩ := x
      dsimp only at *
      have hsn : seenB who seen = false := seenB_no fun hc => hns (hF.out _ hc)
      have hF2 := Lib.hid (show ∀ s ∈ who :: seen, s ∈ (l.take (k + 1)).map Rk.who from fun s hs => by
        rw [htk'.out]
        rcases List.mem_cons.1 hs with rfl | hs
        · simp
        · exact List.mem_append_left _ (hF.out s hs))
      clear hx hns hF
      have hmw := hB.size
      have hn0 := heap_alloc_new wr (.cells #[.string who, .int .i64 rank, .int .i64 time, .int .i64 fault] 48)
      go_wp2_with fail
      refine (isKey_c who _).mono ?_; rintro e w1 ⟨rfl, B1⟩
      have hm1 : MB w1 w.heap.size q D := (hm.alloc _).kept (row := none) (grown_of_below B1) (by simp)
      have hn1 := blk_below hn0 B1
      have hB1 := below_nextBox hB B1
      clear hn0 B1 c0 c1 c2 c3 hm
      have hsz := hKey.out who ok1
      rw [ok1]
      have z0 := (blk_facts hn1).1 0
      have z1 := (blk_facts hn1).1 1
      have z2 := (blk_facts hn1).1 2
      have z3 := (blk_facts hn1).1 3
      obtain ⟨v, hrun, hat⟩ := mb_lookup hm1 who (by unfold maxLen; omega)
      rw [hSM.out.2 who, hsn] at hat
      obtain rfl : false = v := by injection hat with e; injection e
      have hSM2 := Lib.hid (hPut.out D seen hSM.out who)
      have hd1 : decide (0 ≤ rank ∧ rank ≤ 300) = true := decide_eq_true ok2
      have hd2 : decide (0 ≤ time ∧ time ≤ 360000) = true := decide_eq_true ok3
      have hd3 : decide (0 ≤ fault ∧ fault ≤ 8) = true := decide_eq_true ok4
      clear hat hsn ok1 ok2 ok3 ok4 hSM
      by_cases hr : rank = 0
      · subst hr
        clear ok5
        go_wp2_with (first | (go_at_call 98; refine (within_c _ _ _ _).mono ?_; rintro e w' ⟨rfl, rfl⟩; first | rw [hd1] | rw [hd2] | rw [hd3]) | (at_mapUpdate; refine wpList_mapUpdate_own _ rfl _ _ _ 239 rfl 9 4 (string_keyed Tryz.underlying9) Tryz.underlying239 _ _ q _ rfl hm1 (by unfold maxLen; omega) _ _ _ rfl rfl (keyOf_string_mk Tryz.underlying9 (by unfold maxLen; omega)) _ [] (plainElem_bool Tryz.underlying4 true) ?_; intro w2 hown2 hg2))
        have hB2 := hB1.trans (grown_below hg2 (Nat.le_refl _) hB1.size)
        clear hrun
        go_roundw
        case rel => exact ⟨k + 1, q + 1, who :: seen, _, by omega, by go_num, rfl, by omega, hown2, hSM2, hB2, hF2⟩
        case measure => simp [intOf]; omega
      · obtain ⟨hti, rfl⟩ : time ≠ 0 ∧ fault = 0 := by
          rcases ok5 with h1 | h1
          · exact absurd h1 hr
          · exact h1
        have hrb : (rank != 0) = true := by simpa using hr
        have htb : (time == 0) = false := beq_eq_false_iff_ne.2 hti
        clear ok5 hr hti
        go_wp2_with (first | (go_at_call 98; refine (within_c _ _ _ _).mono ?_; rintro e w' ⟨rfl, rfl⟩; first | rw [hd1] | rw [hd2] | rw [hd3]) | (at_mapUpdate; refine wpList_mapUpdate_own _ rfl _ _ _ 239 rfl 9 4 (string_keyed Tryz.underlying9) Tryz.underlying239 _ _ q _ rfl hm1 (by unfold maxLen; omega) _ _ _ rfl rfl (keyOf_string_mk Tryz.underlying9 (by unfold maxLen; omega)) _ [] (plainElem_bool Tryz.underlying4 true) ?_; intro w2 hown2 hg2))
        have hB2 := hB1.trans (grown_below hg2 (Nat.le_refl _) hB1.size)
        clear hrun
        go_roundw
        case rel => exact ⟨k + 1, q + 1, who :: seen, _, by omega, by go_num, rfl, by omega, hown2, hSM2, hB2, hF2⟩
        case measure => simp [intOf]; omega
    · obtain rfl : k = n := by omega
      go_wp2
      go_ret
      exact ⟨rfl, hB⟩
end Go.Proofs.YtdbfcneeiiialaaGreatDoor
