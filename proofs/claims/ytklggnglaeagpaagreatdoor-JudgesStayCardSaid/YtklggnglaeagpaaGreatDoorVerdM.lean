import Derived.Test.YtklggnglaeagpaaGreatDoorP23
import Derived.Test.YtklggnglaeagpaaGreatDoorSeedM
import Derived.BigGuardPart
import Derived.Test.YtklggnglaeagpaaGreatDoorDraws
/- judge.checkRanked, tumbref1.RankedFault of any ranks. Printed by wip/mkrkf.py. -/
namespace Go.Proofs.YtklggnglaeagpaaGreatDoor
open Go.RowKit Go.Lib Go.Sort
open Go.Maps (Keyed string_keyed)
open Go.WideMaps (keyOf_string_mk)
set_option linter.unusedVariables false

/-- the error of a rank alone -/
def rk1 (x : Rk) : Int := if keyB x.who = false then 5 else if ¬ ((0 ≤ x.rank ∧ x.rank ≤ 300) ∧ (0 ≤ x.time ∧ x.time ≤ 360000)) then 1 else if ¬ (0 ≤ x.fault ∧ x.fault ≤ 8) then 4 else if x.rank ≠ 0 ∧ (x.time = 0 ∨ x.fault ≠ 0) then 3 else 0
def rkSeen : List ByteArray → Bool → List Rk → Int
  | _, tw, [] => if tw then 6 else 0
  | seen, tw, x :: l => if rk1 x ≠ 0 then rk1 x else rkSeen (x.who :: seen) (tw || seenB x.who seen) l
def rkErr (l : List Rk) : Int := if 300 < l.length then 2 else rkSeen [] false l
theorem rkSeen_at {l : List Rk} {k : Nat} {x : Rk} (seen : List ByteArray) (tw : Bool) (h : l[k]? = some x) : rkSeen seen tw (l.drop k) = if rk1 x ≠ 0 then rk1 x else rkSeen (x.who :: seen) (tw || seenB x.who seen) (l.drop (k + 1)) := by rw [drop_at h]; rfl
def rkGo : List Rk → Int
  | [] => 0
  | x :: l => if rk1 x ≠ 0 then rk1 x else rkGo l
open Classical in
theorem rkSeen_ref : ∀ (l : List Rk) (seen : List ByteArray) (tw : Bool), rkSeen seen tw l = if rkGo l ≠ 0 then rkGo l else if tw = true ∨ ¬ ((l.map Rk.who).Nodup ∧ ∀ x ∈ l, x.who ∉ seen) then 6 else 0
  | [], seen, tw => by
    unfold rkSeen rkGo
    cases tw <;> simp
  | x :: l, seen, tw => by
    unfold rkSeen rkGo
    by_cases hk : rk1 x ≠ 0
    · rw [if_pos hk, if_pos hk, if_pos hk]
    · rw [if_neg hk, if_neg hk, rkSeen_ref l (x.who :: seen) (tw || seenB x.who seen)]
      by_cases hg : rkGo l ≠ 0
      · rw [if_pos hg, if_pos hg]
      · rw [if_neg hg, if_neg hg]
        have hs : seenB x.who seen = true ↔ x.who ∈ seen := by
          unfold seenB
          rw [List.any_eq_true]
          constructor
          · rintro ⟨t, h1, h2⟩
            have := of_decide_eq_true h2
            subst this; exact h1
          · intro h; exact ⟨_, h, by simp⟩
        have hiff : (((tw || seenB x.who seen) = true) ∨ ¬ ((l.map Rk.who).Nodup ∧ ∀ y ∈ l, y.who ∉ x.who :: seen)) ↔ (tw = true ∨ ¬ (((x :: l).map Rk.who).Nodup ∧ ∀ y ∈ x :: l, y.who ∉ seen)) := by
          rw [Bool.or_eq_true, hs]
          simp only [List.map_cons, List.nodup_cons, List.mem_map, List.mem_cons, not_or, forall_eq_or_imp]
          constructor
          · rintro ((h | h) | h)
            · exact .inl h
            · exact .inr fun hc => hc.2.1 h
            · refine .inr fun hc => h ⟨hc.1.2, fun y hy => ⟨fun e => hc.1.1 ⟨y, hy, e⟩, hc.2.2 y hy⟩⟩
          · rintro (h | h)
            · exact .inl (.inl h)
            · by_cases hx : x.who ∈ seen
              · exact .inl (.inr hx)
              · refine .inr fun hc => h ⟨⟨?_, hc.1⟩, hx, fun y hy => (hc.2 y hy).2⟩
                rintro ⟨y, hy, e⟩
                exact (hc.2 y hy).1 e
        by_cases hc : ((tw || seenB x.who seen) = true) ∨ ¬ ((l.map Rk.who).Nodup ∧ ∀ y ∈ l, y.who ∉ x.who :: seen)
        · rw [if_pos hc, if_pos (hiff.1 hc)]
        · rw [if_neg hc, if_neg (fun h => hc (hiff.2 h))]
theorem rkErr_ref (l : List Rk) : rkErr l = if 300 < l.length then 2 else if rkGo l ≠ 0 then rkGo l else if (l.map Rk.who).Nodup then 0 else 6 := by
  unfold rkErr
  rw [rkSeen_ref]
  split
  · rfl
  · split
    · rfl
    · by_cases hn : (l.map Rk.who).Nodup <;> simp [hn]
theorem rkErr_all {l : List Rk} (h : rkErr l = 0) : l.length ≤ 300 ∧ (∀ x ∈ l, rk1 x = 0) ∧ (l.map Rk.who).Nodup := by
  rw [rkErr_ref] at h
  split at h
  · cases h
  split at h
  · rename_i h1; exact absurd h h1
  rename_i h0 h1
  split at h
  · rename_i h2
    refine ⟨by omega, ?_, h2⟩
    have h3 : ∀ l : List Rk, rkGo l = 0 → ∀ x ∈ l, rk1 x = 0 := fun l => by
      induction l with
      | nil => intro _ x hx; cases hx
      | cons y r ih =>
        intro hr x hx
        unfold rkGo at hr
        split at hr
        · rename_i h4; exact absurd hr h4
        · rename_i h4
          rcases List.mem_cons.1 hx with rfl | hx
          · exact Decidable.not_not.1 h4
          · exact ih hr x hx
    exact h3 l (Decidable.not_not.1 h1)
  · cases h
theorem rk1_key {x : Rk} (h : keyB x.who = false) : rk1 x = 5 := if_pos h
theorem rk1_bd {x : Rk} (h : ¬ keyB x.who = false) (h1 : ¬ ((0 ≤ x.rank ∧ x.rank ≤ 300) ∧ (0 ≤ x.time ∧ x.time ≤ 360000))) : rk1 x = 1 := by unfold rk1; rw [if_neg h, if_pos h1]
theorem rk1_kd {x : Rk} (h : ¬ keyB x.who = false) (h1 : (0 ≤ x.rank ∧ x.rank ≤ 300) ∧ (0 ≤ x.time ∧ x.time ≤ 360000)) (h2 : ¬ (0 ≤ x.fault ∧ x.fault ≤ 8)) : rk1 x = 4 := by unfold rk1; rw [if_neg h, if_neg (not_not_intro h1), if_pos h2]
theorem rk1_fm {x : Rk} (h : ¬ keyB x.who = false) (h1 : (0 ≤ x.rank ∧ x.rank ≤ 300) ∧ (0 ≤ x.time ∧ x.time ≤ 360000)) (h2 : 0 ≤ x.fault ∧ x.fault ≤ 8) (h3 : x.rank ≠ 0 ∧ (x.time = 0 ∨ x.fault ≠ 0)) : rk1 x = 3 := by unfold rk1; rw [if_neg h, if_neg (not_not_intro h1), if_neg (not_not_intro h2), if_pos h3]
theorem rk1_ok {x : Rk} (h : ¬ keyB x.who = false) (h1 : (0 ≤ x.rank ∧ x.rank ≤ 300) ∧ (0 ≤ x.time ∧ x.time ≤ 360000)) (h2 : 0 ≤ x.fault ∧ x.fault ≤ 8) (h3 : ¬ (x.rank ≠ 0 ∧ (x.time = 0 ∨ x.fault ≠ 0))) : rk1 x = 0 := by unfold rk1; rw [if_neg h, if_neg (not_not_intro h1), if_neg (not_not_intro h2), if_neg h3]
set_option maxRecDepth 100000 in
set_option maxHeartbeats 12800000 in
theorem checkRankedA_c (A : Option Addr) (n c : Nat) (l : List Rk) (w : World) (h : RRk w A n l) :
    Calls Tryz.prog 154 #[.slice A n c] w fun e w' => e = .returned (.int .i64 (rkErr l)) ∧ Below w.heap.size w w' := by
  have hl := h.len
  have hbd := h.bd
  have hE : rkErr l = if 300 < n then 2 else rkSeen [] false l := by unfold rkErr; rw [hl]
  have hGa := Lib.hid (fun k x seen tw (h : l[k]? = some x) => rkSeen_at seen tw h)
  have hG0 := Lib.hid (show ∀ seen tw, rkSeen seen tw [] = if tw then 6 else 0 from fun _ _ => rfl)
  have hPut := Lib.hid (fun D seen (h : SeenM D seen) s => h.put s)
  have hKey := Lib.hid (fun (s : ByteArray) (h : keyB s = true) => key_small h)
  generalize rkErr l = E at *
  generalize rkSeen = SG at *
  have hE' := Lib.hid hE
  have hl' := Lib.hid hl
  clear hE hl
  by_cases hbig : 300 < n
  · go_enter Tryz.func154, Tryz.ntmps154
    go_wp2
    go_ret
    exact ⟨ret_i (by rw [hE'.out, if_pos hbig]), Below.refl _ _⟩
  have hmm := @run_makeMap Tryz.prog
  have hm0 := mb_new w
  have hB0 := below_new w (.map #[] 0)
  have hS0 := Lib.hid SeenM.nil
  go_enter Tryz.func154, Tryz.ntmps154
  go_wp2
  go_loopw [4, 13] (fun tw i wr => ∃ (k q : Nat) (t : Bool) (seen : List ByteArray) (D : DataW Unit), k ≤ n ∧ i = .int .i64 k ∧ tw = .bool t ∧ q ≤ k ∧ MB wr w.heap.size q D ∧ Hid (SeenM D seen) ∧ Below w.heap.size w wr ∧ Hid (SG seen t (l.drop k) = SG [] false l)) (fun _ i _ => n - (intOf i).toNat)
  case atStart => exact ⟨0, 0, false, [], .map [], Nat.zero_le _, rfl, rfl, Nat.le_refl _, hm0, hS0, hB0, Lib.hid rfl⟩
  case round =>
    clear hm0 hB0 hS0
    obtain ⟨k, q, t, seen, D, hk, rfl, rfl, hq, hm, hSM, hB, hF⟩ := hrel
    by_cases hlt : k < n
    · obtain ⟨b, off, x, rfl, hbl, hx, c0, c1, c2, c3⟩ := RRk.at4 (h.below hB) hlt
      have hS := Lib.hid (hGa.out k x seen t hx)
      obtain ⟨who, rank, time, fault⟩ := x
      dsimp only at *
      clear hx
      have hmw := hB.size
      have hn0 := heap_alloc_new wr (.cells #[.string who, .int .i64 rank, .int .i64 time, .int .i64 fault] 48)
      go_wp2_with fail
      refine (isKey_c who _).mono ?_; rintro e w1 ⟨rfl, B1⟩
      have hm1 : MB w1 w.heap.size q D := (hm.alloc _).kept (row := none) (grown_of_below B1) (by simp)
      have hn1 := blk_below hn0 B1
      have hB1 := below_nextBox hB B1
      clear hn0 B1 c0 c1 c2 c3 hm
      cases hkb : keyB who
      · have hR := Lib.hid (show SG [] false l = 5 by rw [← hF.out, hS.out, rk1_key hkb]; rfl)
        clear hkb
        go_wp2
        go_ret
        exact ⟨ret_i (by rw [hE'.out, if_neg hbig, hR.out]), hB1⟩
      have hsz := hKey.out who hkb
      have hkn : ¬ keyB (Rk.who ⟨who, rank, time, fault⟩) = false := by simp [hkb]
      clear hkb
      have z0 := (blk_facts hn1).1 0
      have z1 := (blk_facts hn1).1 1
      have z2 := (blk_facts hn1).1 2
      have z3 := (blk_facts hn1).1 3
      obtain ⟨v, hrun, hat⟩ := mb_lookup hm1 who (by unfold maxLen; omega)
      rw [hSM.out.2 who] at hat
      have hv : seenB who seen = v := by injection hat with e; injection e
      have hv' := Lib.hid hv
      clear hat hv
      by_cases hr : 0 ≤ rank ∧ rank ≤ 300
      rotate_left
      · have d1 : decide (0 ≤ rank ∧ rank ≤ 300) = false := decide_eq_false hr
        have hR := Lib.hid (show SG [] false l = 1 by rw [← hF.out, hS.out, rk1_bd hkn (fun h => hr h.1)]; rfl)
        clear hr
        go_wp2_with (go_at_call 128; refine (within_c _ _ _ _).mono ?_; rintro e w' ⟨rfl, rfl⟩; rw [d1])
        go_ret
        exact ⟨ret_i (by rw [hE'.out, if_neg hbig, hR.out]), hB1⟩
      have d1 : decide (0 ≤ rank ∧ rank ≤ 300) = true := decide_eq_true hr
      by_cases ht : 0 ≤ time ∧ time ≤ 360000
      rotate_left
      · have d2 : decide (0 ≤ time ∧ time ≤ 360000) = false := decide_eq_false ht
        have hR := Lib.hid (show SG [] false l = 1 by rw [← hF.out, hS.out, rk1_bd hkn (fun h => ht h.2)]; rfl)
        clear hr ht
        go_wp2_with (go_at_call 128; refine (within_c _ _ _ _).mono ?_; rintro e w' ⟨rfl, rfl⟩; first | rw [d1] | rw [d2])
        go_ret
        exact ⟨ret_i (by rw [hE'.out, if_neg hbig, hR.out]), hB1⟩
      have d2 : decide (0 ≤ time ∧ time ≤ 360000) = true := decide_eq_true ht
      by_cases hf : 0 ≤ fault ∧ fault ≤ 8
      rotate_left
      · have d3 : decide (0 ≤ fault ∧ fault ≤ 8) = false := decide_eq_false hf
        have hR := Lib.hid (show SG [] false l = 4 by rw [← hF.out, hS.out, rk1_kd hkn ⟨hr, ht⟩ hf]; rfl)
        clear hr ht hf
        go_wp2_with (go_at_call 128; refine (within_c _ _ _ _).mono ?_; rintro e w' ⟨rfl, rfl⟩; first | rw [d1] | rw [d2] | rw [d3])
        go_ret
        exact ⟨ret_i (by rw [hE'.out, if_neg hbig, hR.out]), hB1⟩
      have d3 : decide (0 ≤ fault ∧ fault ≤ 8) = true := decide_eq_true hf
      by_cases h0 : rank = 0
      · have g1 : (rank != 0) = false := by simp [h0]
        have g1' : decide (rank = 0) = true := decide_eq_true h0
        have hR := Lib.hid (show SG (who :: seen) (t || v) (l.drop (k + 1)) = SG [] false l by rw [← hF.out, hS.out, rk1_ok hkn ⟨hr, ht⟩ hf (fun h => h.1 h0), if_neg (by decide), hv'.out])
        have hSM2 := Lib.hid (hPut.out D seen hSM.out who)
        clear hr ht hf h0 hF hS hSM
        try clear h2 h3
        cases t
        · go_wp2_with (first | (go_at_call 128; refine (within_c _ _ _ _).mono ?_; rintro e w' ⟨rfl, rfl⟩; first | rw [d1] | rw [d2] | rw [d3]) | (at_mapUpdate; refine wpList_mapUpdate_own _ rfl _ _ _ 250 rfl 9 4 (string_keyed Tryz.underlying9) Tryz.underlying250 _ _ q _ rfl hm1 (by unfold maxLen; omega) _ _ _ rfl rfl (keyOf_string_mk Tryz.underlying9 (by unfold maxLen; omega)) _ [] (plainElem_bool Tryz.underlying4 true) ?_; intro w2 hown2 hg2))
          have hB2 := hB1.trans (grown_below hg2 (Nat.le_refl _) hB1.size)
          clear hrun
          go_roundw
          case rel => exact ⟨k + 1, q + 1, v, who :: seen, _, by omega, by go_num, rfl, by omega, hown2, hSM2, hB2, Lib.hid (by rw [← hR.out, Bool.false_or])⟩
          case measure => simp [intOf]; omega
        · go_wp2_with (first | (go_at_call 128; refine (within_c _ _ _ _).mono ?_; rintro e w' ⟨rfl, rfl⟩; first | rw [d1] | rw [d2] | rw [d3]) | (at_mapUpdate; refine wpList_mapUpdate_own _ rfl _ _ _ 250 rfl 9 4 (string_keyed Tryz.underlying9) Tryz.underlying250 _ _ q _ rfl hm1 (by unfold maxLen; omega) _ _ _ rfl rfl (keyOf_string_mk Tryz.underlying9 (by unfold maxLen; omega)) _ [] (plainElem_bool Tryz.underlying4 true) ?_; intro w2 hown2 hg2))
          have hB2 := hB1.trans (grown_below hg2 (Nat.le_refl _) hB1.size)
          clear hrun
          go_roundw
          case rel => exact ⟨k + 1, q + 1, true, who :: seen, _, by omega, by go_num, rfl, by omega, hown2, hSM2, hB2, Lib.hid (by rw [← hR.out, Bool.true_or])⟩
          case measure => simp [intOf]; omega
      have g1 : (rank != 0) = true := by simpa using h0
      have g1' : decide (rank = 0) = false := decide_eq_false h0
      by_cases h2 : time = 0
      · have g2 : (time == 0) = true := by simp [h2]
        have g2' : decide (time = 0) = true := decide_eq_true h2
        have hR := Lib.hid (show SG [] false l = 3 by rw [← hF.out, hS.out, rk1_fm hkn ⟨hr, ht⟩ hf ⟨h0, .inl h2⟩]; rfl)
        clear hr ht hf h0 h2
        go_wp2_with (go_at_call 128; refine (within_c _ _ _ _).mono ?_; rintro e w' ⟨rfl, rfl⟩; first | rw [d1] | rw [d2] | rw [d3])
        go_ret
        exact ⟨ret_i (by rw [hE'.out, if_neg hbig, hR.out]), hB1⟩
      have g2 : (time == 0) = false := by simpa using h2
      have g2' : decide (time = 0) = false := decide_eq_false h2
      by_cases h3 : fault = 0
      rotate_left
      · have g3 : (fault != 0) = true := by simpa using h3
        have g3' : decide (fault = 0) = false := decide_eq_false h3
        have hR := Lib.hid (show SG [] false l = 3 by rw [← hF.out, hS.out, rk1_fm hkn ⟨hr, ht⟩ hf ⟨h0, .inr h3⟩]; rfl)
        clear hr ht hf h0 h2 h3
        go_wp2_with (go_at_call 128; refine (within_c _ _ _ _).mono ?_; rintro e w' ⟨rfl, rfl⟩; first | rw [d1] | rw [d2] | rw [d3])
        go_ret
        exact ⟨ret_i (by rw [hE'.out, if_neg hbig, hR.out]), hB1⟩
      have g3 : (fault != 0) = false := by simp [h3]
      have g3' : decide (fault = 0) = true := decide_eq_true h3
      have hR := Lib.hid (show SG (who :: seen) (t || v) (l.drop (k + 1)) = SG [] false l by rw [← hF.out, hS.out, rk1_ok hkn ⟨hr, ht⟩ hf (fun h => h.2.elim h2 (fun q => q h3)), if_neg (by decide), hv'.out])
      have hSM2 := Lib.hid (hPut.out D seen hSM.out who)
      clear hr ht hf h0 hF hS hSM
      try clear h2 h3
      cases t
      · go_wp2_with (first | (go_at_call 128; refine (within_c _ _ _ _).mono ?_; rintro e w' ⟨rfl, rfl⟩; first | rw [d1] | rw [d2] | rw [d3]) | (at_mapUpdate; refine wpList_mapUpdate_own _ rfl _ _ _ 250 rfl 9 4 (string_keyed Tryz.underlying9) Tryz.underlying250 _ _ q _ rfl hm1 (by unfold maxLen; omega) _ _ _ rfl rfl (keyOf_string_mk Tryz.underlying9 (by unfold maxLen; omega)) _ [] (plainElem_bool Tryz.underlying4 true) ?_; intro w2 hown2 hg2))
        have hB2 := hB1.trans (grown_below hg2 (Nat.le_refl _) hB1.size)
        clear hrun
        go_roundw
        case rel => exact ⟨k + 1, q + 1, v, who :: seen, _, by omega, by go_num, rfl, by omega, hown2, hSM2, hB2, Lib.hid (by rw [← hR.out, Bool.false_or])⟩
        case measure => simp [intOf]; omega
      · go_wp2_with (first | (go_at_call 128; refine (within_c _ _ _ _).mono ?_; rintro e w' ⟨rfl, rfl⟩; first | rw [d1] | rw [d2] | rw [d3]) | (at_mapUpdate; refine wpList_mapUpdate_own _ rfl _ _ _ 250 rfl 9 4 (string_keyed Tryz.underlying9) Tryz.underlying250 _ _ q _ rfl hm1 (by unfold maxLen; omega) _ _ _ rfl rfl (keyOf_string_mk Tryz.underlying9 (by unfold maxLen; omega)) _ [] (plainElem_bool Tryz.underlying4 true) ?_; intro w2 hown2 hg2))
        have hB2 := hB1.trans (grown_below hg2 (Nat.le_refl _) hB1.size)
        clear hrun
        go_roundw
        case rel => exact ⟨k + 1, q + 1, true, who :: seen, _, by omega, by go_num, rfl, by omega, hown2, hSM2, hB2, Lib.hid (by rw [← hR.out, Bool.true_or])⟩
        case measure => simp [intOf]; omega
    · obtain rfl : k = n := by omega
      have hR := Lib.hid (show SG [] false l = if t then 6 else 0 by rw [← hF.out, drop_end (by rw [hl'.out]; exact Nat.le_refl _), hG0.out])
      cases t
      · go_wp2
        go_ret
        exact ⟨ret_i (by rw [hE'.out, if_neg hbig, hR.out]; rfl), hB⟩
      · go_wp2
        go_ret
        exact ⟨ret_i (by rw [hE'.out, if_neg hbig, hR.out]; rfl), hB⟩
end Go.Proofs.YtklggnglaeagpaaGreatDoor

/- The stream's verdicts: VerdictList. -/
namespace Go.Proofs.YtklggnglaeagpaaGreatDoor
open Go.RowKit
set_option linter.unusedVariables false

end Go.Proofs.YtklggnglaeagpaaGreatDoor
