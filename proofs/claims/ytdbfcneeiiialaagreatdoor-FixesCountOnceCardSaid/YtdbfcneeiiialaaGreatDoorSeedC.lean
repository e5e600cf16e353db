/- Seeds as data; heat.CheckSeeds. -/
import Derived.Test.YtdbfcneeiiialaaGreatDoorReady4
import Derived.Test.YtdbfcneeiiialaaGreatDoorKeys
import Derived.Maps.Views
import Derived.BigGuardPart
namespace Go.Proofs.YtdbfcneeiiialaaGreatDoor
open Go.RowKit
open Go.Maps (Keyed string_keyed)
open Go.WideMaps (keyOf_string_mk)
set_option linter.unusedVariables false

structure Sd where
  who : ByteArray
  time : Int
deriving DecidableEq
def sdE (x : Sd) : List Value := [.string x.who, .int .i64 x.time]
theorem sdE_len : ∀ x, (sdE x).length = 2 := fun _ => rfl
abbrev RSd (w : World) (A : Option Addr) (n : Nat) (l : List Sd) : Prop := RN 2 sdE 40 w A n l
theorem RSd_at2 {w : World} {A : Option Addr} {n : Nat} {l : List Sd} (h : RSd w A n l) {k : Nat} (hk : k < n) : ∃ b off x, A = some ⟨b, off, none⟩ ∧ b < w.heap.size ∧ l[k]? = some x ∧ w.cell? ⟨b, off + k * 2, none⟩ = some (.string x.who) ∧ w.cell? ⟨b, off + k * 2 + 1, none⟩ = some (.int .i64 x.time) := by
  obtain ⟨b, off, x, hA, hb, hx, hc⟩ := h.at_ hk
  exact ⟨b, off, x, hA, hb, hx, hc 0 _ rfl, hc 1 _ rfl⟩
theorem info_seed : (Tryz.prog.info? 40).map (fun i => (i.zero, i.size, i.bytes)) = some (some (.agg #[.string ⟨#[]⟩, .int .i64 0]), 2, 24) := by kernel_rfl
def seenB (s : ByteArray) (seen : List ByteArray) : Bool := seen.any fun t => decide (t = s)
/-- names, one after the other: a wrong one, a wrong time, one twice -/
def seedGo : List ByteArray → Bool → List Sd → Int
  | _, tw, [] => if tw then 6 else 0
  | seen, tw, x :: l => if keyB x.who = false then 5 else if ¬ (0 ≤ x.time ∧ x.time ≤ 360000) then 1 else seedGo (x.who :: seen) (tw || seenB x.who seen) l
def seedErr (l : List Sd) : Int := if 300 < l.length then 2 else seedGo [] false l
theorem seedGo_at {l : List Sd} {k : Nat} {x : Sd} (seen : List ByteArray) (tw : Bool) (h : l[k]? = some x) : seedGo seen tw (l.drop k) = if keyB x.who = false then 5 else if ¬ (0 ≤ x.time ∧ x.time ≤ 360000) then 1 else seedGo (x.who :: seen) (tw || seenB x.who seen) (l.drop (k + 1)) := by rw [drop_at h]; rfl
theorem key_small {s : ByteArray} (h : keyB s = true) : 1 ≤ s.size ∧ s.size ≤ 40 := by
  unfold keyB at h
  simp only [Bool.and_eq_true, decide_eq_true_eq] at h
  exact h.1.1
/-- a map of booleans that tells which names were seen -/
def SeenM (D : DataW Unit) (seen : List ByteArray) : Prop := Go.Maps.IsMap D ∧ ∀ s : ByteArray, D.atKey (.string s.data.toList) (.lit (.bool false)) = .lit (.bool (seenB s seen))
theorem SeenM.nil : SeenM (.map []) [] := ⟨Go.Maps.isMap_empty, fun s => by rw [atKey_nil]; rfl⟩
theorem bytes_inj {a b : ByteArray} (h : a.data.toList = b.data.toList) : a = b := by cases a; cases b; congr 1; exact Array.toList_inj.mp h
theorem SeenM.put {D : DataW Unit} {seen : List ByteArray} (h : SeenM D seen) (s : ByteArray) : SeenM (D.put (.string s.data.toList) (.lit (.bool true))) (s :: seen) := by
  refine ⟨h.1.put _ _, fun t => ?_⟩
  by_cases e : t = s
  · subst e
    rw [Go.Maps.atKey_put_same h.1 (by trivial)]
    simp [seenB]
  · rw [Go.Maps.atKey_put_other (by intro e2; injection e2 with e2; exact e (bytes_inj e2)), h.2 t]
    simp [seenB, Ne.symm e]
set_option maxRecDepth 100000 in
set_option maxHeartbeats 3200000 in
theorem checkSeeds_c (A : Option Addr) (n c : Nat) (l : List Sd) (w : World) (h : RSd w A n l) :
    Calls Tryz.prog 150 #[.slice A n c] w fun e w' => e = .returned (.int .i64 (seedErr l)) ∧ Below w.heap.size w w' := by
  have hl := h.len
  have hbd := h.bd
  have hE : seedErr l = if 300 < n then 2 else seedGo [] false l := by unfold seedErr; rw [hl]
  have hGa := Lib.hid (fun k x seen tw (h : l[k]? = some x) => seedGo_at seen tw h)
  have hG0 := Lib.hid (show ∀ seen tw, seedGo seen tw [] = if tw then 6 else 0 from fun _ _ => rfl)
  have hPut := Lib.hid (fun D seen (h : SeenM D seen) s => h.put s)
  have hKey := Lib.hid (fun (s : ByteArray) (h : keyB s = true) => key_small h)
  generalize seedErr l = E at *
  generalize seedGo = SG at *
  have hE' := Lib.hid hE
  have hl' := Lib.hid hl
  clear hE hl
  by_cases hbig : 300 < n
  · go_enter Tryz.func150, Tryz.ntmps150
    go_wp2
    go_ret
    exact ⟨ret_i (by rw [hE'.out, if_pos hbig]), Below.refl _ _⟩
  have hmm := @run_makeMap Tryz.prog
  have hm0 := mb_new w
  have hB0 := below_new w (.map #[] 0)
  have hS0 := Lib.hid SeenM.nil
  go_enter Tryz.func150, Tryz.ntmps150
  go_wp2
  go_loopw [4, 13] (fun tw i wr => ∃ (k q : Nat) (t : Bool) (seen : List ByteArray) (D : DataW Unit), k ≤ n ∧ i = .int .i64 k ∧ tw = .bool t ∧ q ≤ k ∧ MB wr w.heap.size q D ∧ Hid (SeenM D seen) ∧ Below w.heap.size w wr ∧ Hid (SG seen t (l.drop k) = SG [] false l)) (fun _ i _ => n - (intOf i).toNat)
  case atStart => exact ⟨0, 0, false, [], .map [], Nat.zero_le _, rfl, rfl, Nat.le_refl _, hm0, hS0, hB0, Lib.hid rfl⟩
  case round =>
    clear hm0 hB0 hS0
    obtain ⟨k, q, t, seen, D, hk, rfl, rfl, hq, hm, hSM, hB, hF⟩ := hrel
    by_cases hlt : k < n
    · obtain ⟨b, off, x, rfl, hbl, hx, c0, c1⟩ := RSd_at2 (h.below hB) hlt
      have hS := Lib.hid (hGa.out k x seen t hx)
      obtain ⟨who, time⟩ := x
      dsimp only at *
      clear hx
      have hmw := hB.size
      have hn0 := heap_alloc_new wr (.cells #[.string who, .int .i64 time] 40)
      go_wp2_with fail
      refine (isKey_c who _).mono ?_; rintro e w1 ⟨rfl, B1⟩
      have hm1 : MB w1 w.heap.size q D := (hm.alloc _).kept (row := none) (grown_of_below B1) (by simp)
      have hn1 := blk_below hn0 B1
      have hB1 := below_nextBox hB B1
      clear hn0 B1 c0 c1 hm
      cases hkb : keyB who
      · have hR := Lib.hid (show SG [] false l = 5 by rw [← hF.out, hS.out, if_pos hkb])
        clear hkb
        go_wp2
        go_ret
        exact ⟨ret_i (by rw [hE'.out, if_neg hbig, hR.out]), hB1⟩
      have hsz := hKey.out who hkb
      have hS2 := Lib.hid (show SG seen t (l.drop k) = if ¬ (0 ≤ time ∧ time ≤ 360000) then 1 else SG (who :: seen) (t || seenB who seen) (l.drop (k + 1)) by rw [hS.out, if_neg (by simp [hkb])])
      clear hS hkb
      have z0 := (blk_facts hn1).1 0
      have z1 := (blk_facts hn1).1 1
      obtain ⟨v, hrun, hat⟩ := mb_lookup hm1 who (by unfold maxLen; omega)
      rw [hSM.out.2 who] at hat
      have hv : seenB who seen = v := by injection hat with e; injection e
      have hv' := Lib.hid hv
      clear hat hv
      by_cases hT : 0 ≤ time ∧ time ≤ 360000
      rotate_left
      · have hR := Lib.hid (show SG [] false l = 1 by rw [← hF.out, hS2.out, if_pos hT])
        have hd : decide (0 ≤ time ∧ time ≤ 360000) = false := decide_eq_false hT
        clear hT
        go_wp2_with (go_at_call 98; refine (within_c _ _ _ _).mono ?_; rintro e w' ⟨rfl, rfl⟩; rw [hd])
        go_ret
        exact ⟨ret_i (by rw [hE'.out, if_neg hbig, hR.out]), hB1⟩
      · have hR := Lib.hid (show SG (who :: seen) (t || v) (l.drop (k + 1)) = SG [] false l by rw [← hF.out, hS2.out, if_neg (by simpa using hT), hv'.out])
        have hd : decide (0 ≤ time ∧ time ≤ 360000) = true := decide_eq_true hT
        have hSM2 := Lib.hid (hPut.out D seen hSM.out who)
        clear hT hF hS2 hSM
        cases t
        · go_wp2_with (first | (go_at_call 98; refine (within_c _ _ _ _).mono ?_; rintro e w' ⟨rfl, rfl⟩; rw [hd]) | (at_mapUpdate; refine wpList_mapUpdate_own _ rfl _ _ _ 239 rfl 9 4 (string_keyed Tryz.underlying9) Tryz.underlying239 _ _ q _ rfl hm1 (by unfold maxLen; omega) _ _ _ rfl rfl (keyOf_string_mk Tryz.underlying9 (by unfold maxLen; omega)) _ [] (plainElem_bool Tryz.underlying4 true) ?_; intro w2 hown2 hg2))
          have hB2 := hB1.trans (grown_below hg2 (Nat.le_refl _) hB1.size)
          clear hrun
          go_roundw
          case rel => exact ⟨k + 1, q + 1, v, who :: seen, _, by omega, by go_num, rfl, by omega, hown2, hSM2, hB2, Lib.hid (by rw [← hR.out, Bool.false_or])⟩
          case measure => simp [intOf]; omega
        · go_wp2_with (first | (go_at_call 98; refine (within_c _ _ _ _).mono ?_; rintro e w' ⟨rfl, rfl⟩; rw [hd]) | (at_mapUpdate; refine wpList_mapUpdate_own _ rfl _ _ _ 239 rfl 9 4 (string_keyed Tryz.underlying9) Tryz.underlying239 _ _ q _ rfl hm1 (by unfold maxLen; omega) _ _ _ rfl rfl (keyOf_string_mk Tryz.underlying9 (by unfold maxLen; omega)) _ [] (plainElem_bool Tryz.underlying4 true) ?_; intro w2 hown2 hg2))
          have hB2 := hB1.trans (grown_below hg2 (Nat.le_refl _) hB1.size)
          clear hrun
          go_roundw
          case rel => exact ⟨k + 1, q + 1, true, who :: seen, _, by omega, by go_num, rfl, by omega, hown2, hSM2, hB2, Lib.hid (by rw [← hR.out, Bool.true_or])⟩
          case measure => simp [intOf]; omega
    · obtain rfl : k = n := by omega
      have hR := Lib.hid (show SG [] false l = if t then 6 else 0 by rw [← hF.out, drop_end (by rw [hl'.out]; exact Nat.le_refl _), hG0.out])
      cases t
      · go_wp2
        go_ret
        exact ⟨ret_i (by rw [hE'.out, if_neg hbig, hR.out]; rfl), hB⟩
      · go_wp2
        go_ret
        exact ⟨ret_i (by rw [hE'.out, if_neg hbig, hR.out]; rfl), hB⟩
end Go.Proofs.YtdbfcneeiiialaaGreatDoor
