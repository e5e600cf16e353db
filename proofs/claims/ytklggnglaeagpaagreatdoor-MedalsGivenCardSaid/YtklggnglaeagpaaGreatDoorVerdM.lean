import Derived.Test.YtklggnglaeagpaaGreatDoorP23
import Derived.Test.YtklggnglaeagpaaGreatDoorSeedM
import Derived.BigGuardPart
import Derived.Test.YtklggnglaeagpaaGreatDoorDraws
/- judge.checkRanked, tumbref1.RankedFault of any ranks. Printed by wip/mkrkf.py. -/
namespace Go.Proofs.YtklggnglaeagpaaGreatDoor
open Go.RowKit Go.Lib Go.Sort
open Go.Maps (Keyed string_keyed)
open Go.WideMaps (keyOf_string_mk)
set_option linter.unusedVariables false

/-- the error of a rank alone -/
def rk1 (x : Rk) : Int := if keyB x.who = false then 5 else if ¬ ((0 ≤ x.rank ∧ x.rank ≤ 300) ∧ (0 ≤ x.time ∧ x.time ≤ 360000)) then 1 else if ¬ (0 ≤ x.fault ∧ x.fault ≤ 8) then 4 else if x.rank ≠ 0 ∧ (x.time = 0 ∨ x.fault ≠ 0) then 3 else 0
def rkSeen : List ByteArray → Bool → List Rk → Int
  | _, tw, [] => if tw then 6 else 0
  | seen, tw, x :: l => if rk1 x ≠ 0 then rk1 x else rkSeen (x.who :: seen) (tw || seenB x.who seen) l
def rkErr (l : List Rk) : Int := if 300 < l.length then 2 else rkSeen [] false l
theorem rkSeen_at {l : List Rk} {k : Nat} {x : Rk} (seen : List ByteArray) (tw : Bool) (h : l[k]? = some x) : rkSeen seen tw (l.drop k) = if rk1 x ≠ 0 then rk1 x else rkSeen (x.who :: seen) (tw || seenB x.who seen) (l.drop (k + 1)) := by rw [drop_at h]; rfl
def rkGo : List Rk → Int
  | [] => 0
  | x :: l => if rk1 x ≠ 0 then rk1 x else rkGo l
theorem rkGo_at {l : List Rk} {k : Nat} {x : Rk} (h : l[k]? = some x) : rkGo (l.drop k) = if rk1 x ≠ 0 then rk1 x else rkGo (l.drop (k + 1)) := by rw [drop_at h]; rfl
open Classical in
theorem rkSeen_ref : ∀ (l : List Rk) (seen : List ByteArray) (tw : Bool), rkSeen seen tw l = if rkGo l ≠ 0 then rkGo l else if tw = true ∨ ¬ ((l.map Rk.who).Nodup ∧ ∀ x ∈ l, x.who ∉ seen) then 6 else 0
  | [], seen, tw => by
    unfold rkSeen rkGo
    cases tw <;> simp
  | x :: l, seen, tw => by
    unfold rkSeen rkGo
    by_cases hk : rk1 x ≠ 0
    · rw [if_pos hk, if_pos hk, if_pos hk]
    · rw [if_neg hk, if_neg hk, rkSeen_ref l (x.who :: seen) (tw || seenB x.who seen)]
      by_cases hg : rkGo l ≠ 0
      · rw [if_pos hg, if_pos hg]
      · rw [if_neg hg, if_neg hg]
        have hs : seenB x.who seen = true ↔ x.who ∈ seen := by
          unfold seenB
          rw [List.any_eq_true]
          constructor
          · rintro ⟨t, h1, h2⟩
            have := of_decide_eq_true h2
            subst this; exact h1
          · intro h; exact ⟨_, h, by simp⟩
        have hiff : (((tw || seenB x.who seen) = true) ∨ ¬ ((l.map Rk.who).Nodup ∧ ∀ y ∈ l, y.who ∉ x.who :: seen)) ↔ (tw = true ∨ ¬ (((x :: l).map Rk.who).Nodup ∧ ∀ y ∈ x :: l, y.who ∉ seen)) := by
          rw [Bool.or_eq_true, hs]
          simp only [List.map_cons, List.nodup_cons, List.mem_map, List.mem_cons, not_or, forall_eq_or_imp]
          constructor
          · rintro ((h | h) | h)
            · exact .inl h
            · exact .inr fun hc => hc.2.1 h
            · refine .inr fun hc => h ⟨hc.1.2, fun y hy => ⟨fun e => hc.1.1 ⟨y, hy, e⟩, hc.2.2 y hy⟩⟩
          · rintro (h | h)
            · exact .inl (.inl h)
            · by_cases hx : x.who ∈ seen
              · exact .inl (.inr hx)
              · refine .inr fun hc => h ⟨⟨?_, hc.1⟩, hx, fun y hy => (hc.2 y hy).2⟩
                rintro ⟨y, hy, e⟩
                exact (hc.2 y hy).1 e
        by_cases hc : ((tw || seenB x.who seen) = true) ∨ ¬ ((l.map Rk.who).Nodup ∧ ∀ y ∈ l, y.who ∉ x.who :: seen)
        · rw [if_pos hc, if_pos (hiff.1 hc)]
        · rw [if_neg hc, if_neg (fun h => hc (hiff.2 h))]
theorem rkErr_ref (l : List Rk) : rkErr l = if 300 < l.length then 2 else if rkGo l ≠ 0 then rkGo l else if (l.map Rk.who).Nodup then 0 else 6 := by
  unfold rkErr
  rw [rkSeen_ref]
  split
  · rfl
  · split
    · rfl
    · by_cases hn : (l.map Rk.who).Nodup <;> simp [hn]
theorem rkErr_all {l : List Rk} (h : rkErr l = 0) : l.length ≤ 300 ∧ (∀ x ∈ l, rk1 x = 0) ∧ (l.map Rk.who).Nodup := by
  rw [rkErr_ref] at h
  split at h
  · cases h
  split at h
  · rename_i h1; exact absurd h h1
  rename_i h0 h1
  split at h
  · rename_i h2
    refine ⟨by omega, ?_, h2⟩
    have h3 : ∀ l : List Rk, rkGo l = 0 → ∀ x ∈ l, rk1 x = 0 := fun l => by
      induction l with
      | nil => intro _ x hx; cases hx
      | cons y r ih =>
        intro hr x hx
        unfold rkGo at hr
        split at hr
        · rename_i h4; exact absurd hr h4
        · rename_i h4
          rcases List.mem_cons.1 hx with rfl | hx
          · exact Decidable.not_not.1 h4
          · exact ih hr x hx
    exact h3 l (Decidable.not_not.1 h1)
  · cases h
theorem rk1_key {x : Rk} (h : keyB x.who = false) : rk1 x = 5 := if_pos h
theorem rk1_bd {x : Rk} (h : ¬ keyB x.who = false) (h1 : ¬ ((0 ≤ x.rank ∧ x.rank ≤ 300) ∧ (0 ≤ x.time ∧ x.time ≤ 360000))) : rk1 x = 1 := by unfold rk1; rw [if_neg h, if_pos h1]
theorem rk1_kd {x : Rk} (h : ¬ keyB x.who = false) (h1 : (0 ≤ x.rank ∧ x.rank ≤ 300) ∧ (0 ≤ x.time ∧ x.time ≤ 360000)) (h2 : ¬ (0 ≤ x.fault ∧ x.fault ≤ 8)) : rk1 x = 4 := by unfold rk1; rw [if_neg h, if_neg (not_not_intro h1), if_pos h2]
theorem rk1_fm {x : Rk} (h : ¬ keyB x.who = false) (h1 : (0 ≤ x.rank ∧ x.rank ≤ 300) ∧ (0 ≤ x.time ∧ x.time ≤ 360000)) (h2 : 0 ≤ x.fault ∧ x.fault ≤ 8) (h3 : x.rank ≠ 0 ∧ (x.time = 0 ∨ x.fault ≠ 0)) : rk1 x = 3 := by unfold rk1; rw [if_neg h, if_neg (not_not_intro h1), if_neg (not_not_intro h2), if_pos h3]
theorem rk1_ok {x : Rk} (h : ¬ keyB x.who = false) (h1 : (0 ≤ x.rank ∧ x.rank ≤ 300) ∧ (0 ≤ x.time ∧ x.time ≤ 360000)) (h2 : 0 ≤ x.fault ∧ x.fault ≤ 8) (h3 : ¬ (x.rank ≠ 0 ∧ (x.time = 0 ∨ x.fault ≠ 0))) : rk1 x = 0 := by unfold rk1; rw [if_neg h, if_neg (not_not_intro h1), if_neg (not_not_intro h2), if_neg h3]
theorem rk1_all {x : Rk} (h : rk1 x = 0) : keyB x.who = true ∧ (0 ≤ x.rank ∧ x.rank ≤ 300) ∧ (0 ≤ x.time ∧ x.time ≤ 360000) ∧ (0 ≤ x.fault ∧ x.fault ≤ 8) ∧ (x.rank = 0 ∨ (x.time ≠ 0 ∧ x.fault = 0)) := by
  unfold rk1 at h
  split at h
  · cases h
  split at h
  · cases h
  split at h
  · cases h
  split at h
  · cases h
  rename_i a b c d
  have b' := Decidable.not_not.1 b
  have c' := Decidable.not_not.1 c
  exact ⟨by simpa using a, b'.1, b'.2, c', by omega⟩
set_option maxRecDepth 100000 in
set_option maxHeartbeats 12800000 in
theorem checkRankedA_c (A : Option Addr) (n c : Nat) (l : List Rk) (w : World) (h : RRk w A n l) :
    Calls Tryz.prog 154 #[.slice A n c] w fun e w' => e = .returned (.int .i64 (rkErr l)) ∧ Below w.heap.size w w' := by
  have hl := h.len
  have hbd := h.bd
  have hE : rkErr l = if 300 < n then 2 else rkSeen [] false l := by unfold rkErr; rw [hl]
  have hGa := Lib.hid (fun k x seen tw (h : l[k]? = some x) => rkSeen_at seen tw h)
  have hG0 := Lib.hid (show ∀ seen tw, rkSeen seen tw [] = if tw then 6 else 0 from fun _ _ => rfl)
  have hPut := Lib.hid (fun D seen (h : SeenM D seen) s => h.put s)
  have hKey := Lib.hid (fun (s : ByteArray) (h : keyB s = true) => key_small h)
  generalize rkErr l = E at *
  generalize rkSeen = SG at *
  have hE' := Lib.hid hE
  have hl' := Lib.hid hl
  clear hE hl
  by_cases hbig : 300 < n
  · go_enter Tryz.func154, Tryz.ntmps154
    go_wp2
    go_ret
    exact ⟨ret_i (by rw [hE'.out, if_pos hbig]), Below.refl _ _⟩
  have hmm := @run_makeMap Tryz.prog
  have hm0 := mb_new w
  have hB0 := below_new w (.map #[] 0)
  have hS0 := Lib.hid SeenM.nil
  go_enter Tryz.func154, Tryz.ntmps154
  go_wp2
  go_loopw [4, 13] (fun tw i wr => ∃ (k q : Nat) (t : Bool) (seen : List ByteArray) (D : DataW Unit), k ≤ n ∧ i = .int .i64 k ∧ tw = .bool t ∧ q ≤ k ∧ MB wr w.heap.size q D ∧ Hid (SeenM D seen) ∧ Below w.heap.size w wr ∧ Hid (SG seen t (l.drop k) = SG [] false l)) (fun _ i _ => n - (intOf i).toNat)
  case atStart => exact ⟨0, 0, false, [], .map [], Nat.zero_le _, rfl, rfl, Nat.le_refl _, hm0, hS0, hB0, Lib.hid rfl⟩
  case round =>
    clear hm0 hB0 hS0
    obtain ⟨k, q, t, seen, D, hk, rfl, rfl, hq, hm, hSM, hB, hF⟩ := hrel
    by_cases hlt : k < n
    · obtain ⟨b, off, x, rfl, hbl, hx, c0, c1, c2, c3⟩ := RRk.at4 (h.below hB) hlt
      have hS := Lib.hid (hGa.out k x seen t hx)
      obtain ⟨who, rank, time, fault⟩ := x
      dsimp only at *
      clear hx
      have hmw := hB.size
      have hn0 := heap_alloc_new wr (.cells #[.string who, .int .i64 rank, .int .i64 time, .int .i64 fault] 48)
      go_wp2_with fail
      refine (isKey_c who _).mono ?_; rintro e w1 ⟨rfl, B1⟩
      have hm1 : MB w1 w.heap.size q D := (hm.alloc _).kept (row := none) (grown_of_below B1) (by simp)
      have hn1 := blk_below hn0 B1
      have hB1 := below_nextBox hB B1
      clear hn0 B1 c0 c1 c2 c3 hm
      cases hkb : keyB who
      · have hR := Lib.hid (show SG [] false l = 5 by rw [← hF.out, hS.out, rk1_key hkb]; rfl)
        clear hkb
        go_wp2
        go_ret
        exact ⟨ret_i (by rw [hE'.out, if_neg hbig, hR.out]), hB1⟩
      have hsz := hKey.out who hkb
      have hkn : ¬ keyB (Rk.who ⟨who, rank, time, fault⟩) = false := by simp [hkb]
      clear hkb
      have z0 := (blk_facts hn1).1 0
      have z1 := (blk_facts hn1).1 1
      have z2 := (blk_facts hn1).1 2
      have z3 := (blk_facts hn1).1 3
      obtain ⟨v, hrun, hat⟩ := mb_lookup hm1 who (by unfold maxLen; omega)
      rw [hSM.out.2 who] at hat
      have hv : seenB who seen = v := by injection hat with e; injection e
      have hv' := Lib.hid hv
      clear hat hv
      by_cases hr : 0 ≤ rank ∧ rank ≤ 300
      rotate_left
      · have d1 : decide (0 ≤ rank ∧ rank ≤ 300) = false := decide_eq_false hr
        have hR := Lib.hid (show SG [] false l = 1 by rw [← hF.out, hS.out, rk1_bd hkn (fun h => hr h.1)]; rfl)
        clear hr
        go_wp2_with (go_at_call 128; refine (within_c _ _ _ _).mono ?_; rintro e w' ⟨rfl, rfl⟩; rw [d1])
        go_ret
        exact ⟨ret_i (by rw [hE'.out, if_neg hbig, hR.out]), hB1⟩
      have d1 : decide (0 ≤ rank ∧ rank ≤ 300) = true := decide_eq_true hr
      by_cases ht : 0 ≤ time ∧ time ≤ 360000
      rotate_left
      · have d2 : decide (0 ≤ time ∧ time ≤ 360000) = false := decide_eq_false ht
        have hR := Lib.hid (show SG [] false l = 1 by rw [← hF.out, hS.out, rk1_bd hkn (fun h => ht h.2)]; rfl)
        clear hr ht
        go_wp2_with (go_at_call 128; refine (within_c _ _ _ _).mono ?_; rintro e w' ⟨rfl, rfl⟩; first | rw [d1] | rw [d2])
        go_ret
        exact ⟨ret_i (by rw [hE'.out, if_neg hbig, hR.out]), hB1⟩
      have d2 : decide (0 ≤ time ∧ time ≤ 360000) = true := decide_eq_true ht
      by_cases hf : 0 ≤ fault ∧ fault ≤ 8
      rotate_left
      · have d3 : decide (0 ≤ fault ∧ fault ≤ 8) = false := decide_eq_false hf
        have hR := Lib.hid (show SG [] false l = 4 by rw [← hF.out, hS.out, rk1_kd hkn ⟨hr, ht⟩ hf]; rfl)
        clear hr ht hf
        go_wp2_with (go_at_call 128; refine (within_c _ _ _ _).mono ?_; rintro e w' ⟨rfl, rfl⟩; first | rw [d1] | rw [d2] | rw [d3])
        go_ret
        exact ⟨ret_i (by rw [hE'.out, if_neg hbig, hR.out]), hB1⟩
      have d3 : decide (0 ≤ fault ∧ fault ≤ 8) = true := decide_eq_true hf
      by_cases h0 : rank = 0
      · have g1 : (rank != 0) = false := by simp [h0]
        have g1' : decide (rank = 0) = true := decide_eq_true h0
        have hR := Lib.hid (show SG (who :: seen) (t || v) (l.drop (k + 1)) = SG [] false l by rw [← hF.out, hS.out, rk1_ok hkn ⟨hr, ht⟩ hf (fun h => h.1 h0), if_neg (by decide), hv'.out])
        have hSM2 := Lib.hid (hPut.out D seen hSM.out who)
        clear hr ht hf h0 hF hS hSM
        try clear h2 h3
        cases t
        · go_wp2_with (first | (go_at_call 128; refine (within_c _ _ _ _).mono ?_; rintro e w' ⟨rfl, rfl⟩; first | rw [d1] | rw [d2] | rw [d3]) | (at_mapUpdate; refine wpList_mapUpdate_own _ rfl _ _ _ 250 rfl 9 4 (string_keyed Tryz.underlying9) Tryz.underlying250 _ _ q _ rfl hm1 (by unfold maxLen; omega) _ _ _ rfl rfl (keyOf_string_mk Tryz.underlying9 (by unfold maxLen; omega)) _ [] (plainElem_bool Tryz.underlying4 true) ?_; intro w2 hown2 hg2))
          have hB2 := hB1.trans (grown_below hg2 (Nat.le_refl _) hB1.size)
          clear hrun
          go_roundw
          case rel => exact ⟨k + 1, q + 1, v, who :: seen, _, by omega, by go_num, rfl, by omega, hown2, hSM2, hB2, Lib.hid (by rw [← hR.out, Bool.false_or])⟩
          case measure => simp [intOf]; omega
        · go_wp2_with (first | (go_at_call 128; refine (within_c _ _ _ _).mono ?_; rintro e w' ⟨rfl, rfl⟩; first | rw [d1] | rw [d2] | rw [d3]) | (at_mapUpdate; refine wpList_mapUpdate_own _ rfl _ _ _ 250 rfl 9 4 (string_keyed Tryz.underlying9) Tryz.underlying250 _ _ q _ rfl hm1 (by unfold maxLen; omega) _ _ _ rfl rfl (keyOf_string_mk Tryz.underlying9 (by unfold maxLen; omega)) _ [] (plainElem_bool Tryz.underlying4 true) ?_; intro w2 hown2 hg2))
          have hB2 := hB1.trans (grown_below hg2 (Nat.le_refl _) hB1.size)
          clear hrun
          go_roundw
          case rel => exact ⟨k + 1, q + 1, true, who :: seen, _, by omega, by go_num, rfl, by omega, hown2, hSM2, hB2, Lib.hid (by rw [← hR.out, Bool.true_or])⟩
          case measure => simp [intOf]; omega
      have g1 : (rank != 0) = true := by simpa using h0
      have g1' : decide (rank = 0) = false := decide_eq_false h0
      by_cases h2 : time = 0
      · have g2 : (time == 0) = true := by simp [h2]
        have g2' : decide (time = 0) = true := decide_eq_true h2
        have hR := Lib.hid (show SG [] false l = 3 by rw [← hF.out, hS.out, rk1_fm hkn ⟨hr, ht⟩ hf ⟨h0, .inl h2⟩]; rfl)
        clear hr ht hf h0 h2
        go_wp2_with (go_at_call 128; refine (within_c _ _ _ _).mono ?_; rintro e w' ⟨rfl, rfl⟩; first | rw [d1] | rw [d2] | rw [d3])
        go_ret
        exact ⟨ret_i (by rw [hE'.out, if_neg hbig, hR.out]), hB1⟩
      have g2 : (time == 0) = false := by simpa using h2
      have g2' : decide (time = 0) = false := decide_eq_false h2
      by_cases h3 : fault = 0
      rotate_left
      · have g3 : (fault != 0) = true := by simpa using h3
        have g3' : decide (fault = 0) = false := decide_eq_false h3
        have hR := Lib.hid (show SG [] false l = 3 by rw [← hF.out, hS.out, rk1_fm hkn ⟨hr, ht⟩ hf ⟨h0, .inr h3⟩]; rfl)
        clear hr ht hf h0 h2 h3
        go_wp2_with (go_at_call 128; refine (within_c _ _ _ _).mono ?_; rintro e w' ⟨rfl, rfl⟩; first | rw [d1] | rw [d2] | rw [d3])
        go_ret
        exact ⟨ret_i (by rw [hE'.out, if_neg hbig, hR.out]), hB1⟩
      have g3 : (fault != 0) = false := by simp [h3]
      have g3' : decide (fault = 0) = true := decide_eq_true h3
      have hR := Lib.hid (show SG (who :: seen) (t || v) (l.drop (k + 1)) = SG [] false l by rw [← hF.out, hS.out, rk1_ok hkn ⟨hr, ht⟩ hf (fun h => h.2.elim h2 (fun q => q h3)), if_neg (by decide), hv'.out])
      have hSM2 := Lib.hid (hPut.out D seen hSM.out who)
      clear hr ht hf h0 hF hS hSM
      try clear h2 h3
      cases t
      · go_wp2_with (first | (go_at_call 128; refine (within_c _ _ _ _).mono ?_; rintro e w' ⟨rfl, rfl⟩; first | rw [d1] | rw [d2] | rw [d3]) | (at_mapUpdate; refine wpList_mapUpdate_own _ rfl _ _ _ 250 rfl 9 4 (string_keyed Tryz.underlying9) Tryz.underlying250 _ _ q _ rfl hm1 (by unfold maxLen; omega) _ _ _ rfl rfl (keyOf_string_mk Tryz.underlying9 (by unfold maxLen; omega)) _ [] (plainElem_bool Tryz.underlying4 true) ?_; intro w2 hown2 hg2))
        have hB2 := hB1.trans (grown_below hg2 (Nat.le_refl _) hB1.size)
        clear hrun
        go_roundw
        case rel => exact ⟨k + 1, q + 1, v, who :: seen, _, by omega, by go_num, rfl, by omega, hown2, hSM2, hB2, Lib.hid (by rw [← hR.out, Bool.false_or])⟩
        case measure => simp [intOf]; omega
      · go_wp2_with (first | (go_at_call 128; refine (within_c _ _ _ _).mono ?_; rintro e w' ⟨rfl, rfl⟩; first | rw [d1] | rw [d2] | rw [d3]) | (at_mapUpdate; refine wpList_mapUpdate_own _ rfl _ _ _ 250 rfl 9 4 (string_keyed Tryz.underlying9) Tryz.underlying250 _ _ q _ rfl hm1 (by unfold maxLen; omega) _ _ _ rfl rfl (keyOf_string_mk Tryz.underlying9 (by unfold maxLen; omega)) _ [] (plainElem_bool Tryz.underlying4 true) ?_; intro w2 hown2 hg2))
        have hB2 := hB1.trans (grown_below hg2 (Nat.le_refl _) hB1.size)
        clear hrun
        go_roundw
        case rel => exact ⟨k + 1, q + 1, true, who :: seen, _, by omega, by go_num, rfl, by omega, hown2, hSM2, hB2, Lib.hid (by rw [← hR.out, Bool.true_or])⟩
        case measure => simp [intOf]; omega
    · obtain rfl : k = n := by omega
      have hR := Lib.hid (show SG [] false l = if t then 6 else 0 by rw [← hF.out, drop_end (by rw [hl'.out]; exact Nat.le_refl _), hG0.out])
      cases t
      · go_wp2
        go_ret
        exact ⟨ret_i (by rw [hE'.out, if_neg hbig, hR.out]; rfl), hB⟩
      · go_wp2
        go_ret
        exact ⟨ret_i (by rw [hE'.out, if_neg hbig, hR.out]; rfl), hB⟩
set_option maxHeartbeats 12800000 in
set_option maxRecDepth 100000 in
theorem rankedFaultA_c (A : Option Addr) (n c : Nat) (l : List Rk) (w : World) (h : RRk w A n l) :
    Calls Tryz.prog 96 #[.slice A n c] w fun e w' => e = .returned (.int .i64 (rkErr l)) ∧ Below w.heap.size w w' := by
  have hl := h.len
  by_cases hbig : 300 < n
  · have hE : rkErr l = 2 := by rw [rkErr_ref, if_pos (by omega)]
    rw [hE]
    clear hE
    go_enter Tryz.func96, Tryz.ntmps96
    go_wp2
    go_ret
    exact ⟨rfl, Below.refl _ _⟩
  have hE := Lib.hid (show rkErr l = if rkGo l ≠ 0 then rkGo l else if (l.map Rk.who).Nodup then 0 else 6 by rw [rkErr_ref, if_neg (by omega)])
  have hl' := Lib.hid hl
  have hbd := Lib.hid h.bd
  have hTw := Lib.hid (fun A n c l W h hn => twice_c A n c l W h hn)
  have hAt := Lib.hid (fun k x h => rkGo_at (l := l) (k := k) (x := x) h)
  generalize rkErr l = E at *
  clear hl
  go_enter Tryz.func96, Tryz.ntmps96
  go_wp2
  go_loopw [3, 11] (fun out i wr => ∃ k : Nat, k ≤ n ∧ i = .int .i64 k ∧ wr.ownsRow w.heap.size 9 1 out k ((l.take k).map fun x => Value.string x.who) ∧ Below w.heap.size w wr ∧ Hid (rkGo (l.drop k) = rkGo l)) (fun _ i _ => n - (intOf i).toNat)
  case atStart => exact ⟨0, Nat.zero_le _, rfl, World.ownsRow_nil _ _ _ _, Below.refl _ _, Lib.hid rfl⟩
  case round =>
    obtain ⟨k, hk, rfl, hown, hB, hF⟩ := hrel
    by_cases hlt : k < n
    · obtain ⟨b, off, x, rfl, hbl, hx, c0, c1, c2, c3⟩ := RRk.at4 (h.below hB) hlt
      have hS := Lib.hid (hAt.out k x hx)
      have htk := Lib.hid (show (l.take (k + 1)).map (fun x => Value.string x.who) = (l.take k).map (fun x => Value.string x.who) ++ [Value.string x.who] by
        have h1 : l.take (k + 1) = l.take k ++ [x] := by rw [List.take_add_one, hx]; rfl
        rw [h1, List.map_append]; rfl)
      obtain ⟨who, rank, time, fault⟩ := x
      dsimp only at *
      clear hx
      have hn0 := heap_alloc_new wr (.cells #[.string who, .int .i64 rank, .int .i64 time, .int .i64 fault] 48)
      have hown0 := hown.alloc (.cells #[.string who, .int .i64 rank, .int .i64 time, .int .i64 fault] 48)
      go_wp2_with fail
      refine (key_c who _).mono ?_; rintro e w1 ⟨rfl, B1⟩
      have hn1 := blk_below hn0 B1
      have hown1 := own_below hown0 B1
      have hB1 := below_nextBox hB B1
      clear hn0 B1 c0 c1 c2 c3 hown hown0
      cases hkb : keyB who
      · have hR := Lib.hid (show rkGo l = 5 by rw [← hF.out, hS.out, rk1_key hkb]; rfl)
        clear hkb
        go_wp2
        go_ret
        exact ⟨ret_i (by rw [hE.out, hR.out]; rfl), hB1⟩
      have hkn : ¬ keyB (Rk.who ⟨who, rank, time, fault⟩) = false := by simp [hkb]
      clear hkb
      have z0 := (blk_facts hn1).1 0
      have z1 := (blk_facts hn1).1 1
      have z2 := (blk_facts hn1).1 2
      have z3 := (blk_facts hn1).1 3
      by_cases hr : 0 ≤ rank ∧ rank ≤ 300
      rotate_left
      · have d1 : decide (0 ≤ rank ∧ rank ≤ 300) = false := decide_eq_false hr
        have hR := Lib.hid (show rkGo l = 1 by rw [← hF.out, hS.out, rk1_bd hkn (fun h => hr h.1)]; rfl)
        clear hr
        go_wp2_with (go_at_call 115; refine (in_c _ _ _ _).mono ?_; rintro e w' ⟨rfl, rfl⟩; rw [d1])
        go_ret
        exact ⟨ret_i (by rw [hE.out, hR.out]; rfl), hB1⟩
      have d1 : decide (0 ≤ rank ∧ rank ≤ 300) = true := decide_eq_true hr
      by_cases ht : 0 ≤ time ∧ time ≤ 360000
      rotate_left
      · have d2 : decide (0 ≤ time ∧ time ≤ 360000) = false := decide_eq_false ht
        have hR := Lib.hid (show rkGo l = 1 by rw [← hF.out, hS.out, rk1_bd hkn (fun h => ht h.2)]; rfl)
        clear hr ht
        go_wp2_with (go_at_call 115; refine (in_c _ _ _ _).mono ?_; rintro e w' ⟨rfl, rfl⟩; first | rw [d1] | rw [d2])
        go_ret
        exact ⟨ret_i (by rw [hE.out, hR.out]; rfl), hB1⟩
      have d2 : decide (0 ≤ time ∧ time ≤ 360000) = true := decide_eq_true ht
      by_cases hf : 0 ≤ fault ∧ fault ≤ 8
      rotate_left
      · have d3 : decide (0 ≤ fault ∧ fault ≤ 8) = false := decide_eq_false hf
        have hR := Lib.hid (show rkGo l = 4 by rw [← hF.out, hS.out, rk1_kd hkn ⟨hr, ht⟩ hf]; rfl)
        clear hr ht hf
        go_wp2_with (go_at_call 115; refine (in_c _ _ _ _).mono ?_; rintro e w' ⟨rfl, rfl⟩; first | rw [d1] | rw [d2] | rw [d3])
        go_ret
        exact ⟨ret_i (by rw [hE.out, hR.out]; rfl), hB1⟩
      have d3 : decide (0 ≤ fault ∧ fault ≤ 8) = true := decide_eq_true hf
      by_cases h0 : rank = 0
      · have g1 : (rank != 0) = false := by simp [h0]
        have g1' : decide (rank = 0) = true := decide_eq_true h0
        have hR := Lib.hid (show rkGo (l.drop (k + 1)) = rkGo l by rw [← hF.out, hS.out, rk1_ok hkn ⟨hr, ht⟩ hf (fun h => h.1 h0), if_neg (by decide)])
        have hz := hB1.size
        have hbd' := hbd.out
        clear hr ht hf h0 hF hS
        try clear h2 h3
        go_wp2_with (first | (go_at_call 115; refine (in_c _ _ _ _).mono ?_; rintro e w' ⟨rfl, rfl⟩; first | rw [d1] | rw [d2] | rw [d3]) | (at_builtin; refine wpList_app rfl (.tmp 50) (.tmp 53) 97 rfl Tryz.underlying97 info_strS rfl (by omega) (by omega) hown1 rfl rfl (by first | rfl | (simp; done)) rfl (by simp [Value.oneCell']) (by omega) hz ?_; intro v4 w4 hown4 hg4))
        have H := Lib.hid (And.intro (show w4.ownsRow w.heap.size 9 1 v4 (k + 1) ((l.take (k + 1)).map fun x => Value.string x.who) by rw [htk.out]; exact hown4) (below_own hB1 hown1 hg4 hz (Nat.le_refl _)))
        clear hown4 hg4 hown1
        go_roundw
        case rel => exact ⟨k + 1, by omega, by go_num, H.out.1, H.out.2, hR⟩
        case measure => simp [intOf]; omega
      have g1 : (rank != 0) = true := by simpa using h0
      have g1' : decide (rank = 0) = false := decide_eq_false h0
      by_cases h2 : time = 0
      · have g2 : (time == 0) = true := by simp [h2]
        have g2' : decide (time = 0) = true := decide_eq_true h2
        have hR := Lib.hid (show rkGo l = 3 by rw [← hF.out, hS.out, rk1_fm hkn ⟨hr, ht⟩ hf ⟨h0, .inl h2⟩]; rfl)
        clear hr ht hf h0 h2
        go_wp2_with (go_at_call 115; refine (in_c _ _ _ _).mono ?_; rintro e w' ⟨rfl, rfl⟩; first | rw [d1] | rw [d2] | rw [d3])
        go_ret
        exact ⟨ret_i (by rw [hE.out, hR.out]; rfl), hB1⟩
      have g2 : (time == 0) = false := by simpa using h2
      have g2' : decide (time = 0) = false := decide_eq_false h2
      by_cases h3 : fault = 0
      rotate_left
      · have g3 : (fault != 0) = true := by simpa using h3
        have g3' : decide (fault = 0) = false := decide_eq_false h3
        have hR := Lib.hid (show rkGo l = 3 by rw [← hF.out, hS.out, rk1_fm hkn ⟨hr, ht⟩ hf ⟨h0, .inr h3⟩]; rfl)
        clear hr ht hf h0 h2 h3
        go_wp2_with (go_at_call 115; refine (in_c _ _ _ _).mono ?_; rintro e w' ⟨rfl, rfl⟩; first | rw [d1] | rw [d2] | rw [d3])
        go_ret
        exact ⟨ret_i (by rw [hE.out, hR.out]; rfl), hB1⟩
      have g3 : (fault != 0) = false := by simp [h3]
      have g3' : decide (fault = 0) = true := decide_eq_true h3
      have hR := Lib.hid (show rkGo (l.drop (k + 1)) = rkGo l by rw [← hF.out, hS.out, rk1_ok hkn ⟨hr, ht⟩ hf (fun h => h.2.elim h2 (fun q => q h3)), if_neg (by decide)])
      have hz := hB1.size
      have hbd' := hbd.out
      clear hr ht hf h0 hF hS
      try clear h2 h3
      go_wp2_with (first | (go_at_call 115; refine (in_c _ _ _ _).mono ?_; rintro e w' ⟨rfl, rfl⟩; first | rw [d1] | rw [d2] | rw [d3]) | (at_builtin; refine wpList_app rfl (.tmp 50) (.tmp 53) 97 rfl Tryz.underlying97 info_strS rfl (by omega) (by omega) hown1 rfl rfl (by first | rfl | (simp; done)) rfl (by simp [Value.oneCell']) (by omega) hz ?_; intro v4 w4 hown4 hg4))
      have H := Lib.hid (And.intro (show w4.ownsRow w.heap.size 9 1 v4 (k + 1) ((l.take (k + 1)).map fun x => Value.string x.who) by rw [htk.out]; exact hown4) (below_own hB1 hown1 hg4 hz (Nat.le_refl _)))
      clear hown4 hg4 hown1
      go_roundw
      case rel => exact ⟨k + 1, by omega, by go_num, H.out.1, H.out.2, hR⟩
      case measure => simp [intOf]; omega
    · obtain rfl : k = n := by omega
      have hR := Lib.hid (show rkGo l = 0 by rw [← hF.out, drop_end (by rw [hl'.out]; exact Nat.le_refl _)]; rfl)
      obtain ⟨A3, c3, rfl⟩ := own_shape hown
      have hfull : l.take k = l := List.take_of_length_le (by rw [hl'.out]; exact Nat.le_refl _)
      rw [hfull] at hown
      have hrs : RS 9 wr A3 k (l.map Rk.who) := R1.of_own (by rw [List.map_map]; exact hown) (by omega)
      go_wp2_with fail
      refine (hTw.out A3 k c3 (l.map Rk.who) wr hrs (by omega)).mono ?_; rintro e w5 ⟨rfl, B5⟩
      have hB5 := below_next hB B5
      by_cases hn : (l.map Rk.who).Nodup
      · have hd : (!decide (l.map Rk.who).Nodup) = false := by simp [hn]
        rw [hd]
        have hn' := Lib.hid hn
        clear hn hd
        go_wp2
        go_ret
        exact ⟨ret_i (by rw [hE.out, hR.out, if_pos hn'.out]; rfl), hB5⟩
      · have hd : (!decide (l.map Rk.who).Nodup) = true := by simp [hn]
        rw [hd]
        have hn' := Lib.hid hn
        clear hn hd
        go_wp2
        go_ret
        exact ⟨ret_i (by rw [hE.out, hR.out, if_neg hn'.out]; rfl), hB5⟩
end Go.Proofs.YtklggnglaeagpaaGreatDoor

/- The stream's verdicts: VerdictList. -/
namespace Go.Proofs.YtklggnglaeagpaaGreatDoor
open Go.RowKit
set_option linter.unusedVariables false

theorem info_verd : (Tryz.prog.info? 99).map (fun i => (i.zero, i.size, i.bytes)) = some (some (.agg #[.string ⟨#[]⟩, .int .i64 0, .slice none 0 0]), 3, 48) := by kernel_rfl
theorem vdr_set : ∀ (l : List Vd) (k : Nat) (who : ByteArray) (x : Vd), l[k]? = some x →
    (l.flatMap vdE).set (k * 3) (.string who) = (l.set k { x with who := who }).flatMap vdE
  | [], _, _, _, h => by simp at h
  | x :: l, 0, who, t, h => by
    obtain rfl : x = t := by simpa using h
    simp [vdE]
  | x :: l, k + 1, who, t, h => by
    rw [List.set_cons_succ, List.flatMap_cons, List.flatMap_cons, ← vdr_set l k who t (by simpa using h), List.set_append_right _ _ (by show 3 ≤ _; omega)]
    congr 2
    show (k + 1) * 3 - 3 = _; omega
theorem vdr_set1 : ∀ (l : List Vd) (k : Nat) (v : Int) (x : Vd), l[k]? = some x →
    (l.flatMap vdE).set (k * 3 + 1) (.int .i64 v) = (l.set k { x with fault := v }).flatMap vdE
  | [], _, _, _, h => by simp at h
  | x :: l, 0, v, t, h => by
    obtain rfl : x = t := by simpa using h
    simp [vdE]
  | x :: l, k + 1, v, t, h => by
    rw [List.set_cons_succ, List.flatMap_cons, List.flatMap_cons, ← vdr_set1 l k v t (by simpa using h), List.set_append_right _ _ (by show 3 ≤ _; omega)]
    congr 2
    show (k + 1) * 3 + 1 - 3 = _; omega
def RetVdL (w : World) (g : Nat) (zs : Zs) (k : Nat) (e : Ending) (w' : World) : Prop := ∃ (A : Option Addr) (n c : Nat) (l : List Vd) (k' : Nat), e = .returned (.slice A n c) ∧ w'.ownsRow w.heap.size 99 3 (.slice A n c) n (l.flatMap vdE) ∧ l.length = n ∧ n ≤ 5 ∧ St w' g zs k' ∧ k' ≤ k + 20 ∧ w.grownBy w' (some g)
set_option maxHeartbeats 3200000 in
set_option maxRecDepth 100000 in
theorem verdictList_c (g : Nat) (zs : Zs) (k : Nat) (w : World) (h : St w g zs k) (hk : k + 2000 ≤ 1099511627776) :
    Calls Tryz.prog 11 #[.pointer (some ⟨g, 0, none⟩)] w (RetVdL w g zs k) := by
  have hglt := h.lt
  have hL0 : RS 9 (w.alloc (.cells #[.string ⟨#[115, 48]⟩, .string ⟨#[115, 49]⟩, .string ⟨#[115, 50]⟩, .string ⟨#[115, 51]⟩, .string ⟨#[115, 57]⟩] 9)) (some ⟨w.heap.size, 0, none⟩) 5 ([⟨#[115, 48]⟩, ⟨#[115, 49]⟩, ⟨#[115, 50]⟩, ⟨#[115, 51]⟩, ⟨#[115, 57]⟩] : List ByteArray) := R1.litAt _ _ _ ([⟨#[115, 48]⟩, ⟨#[115, 49]⟩, ⟨#[115, 50]⟩, ⟨#[115, 51]⟩, ⟨#[115, 57]⟩] : List ByteArray) rfl rfl (by decide)
  have s0 := h.alloc (.cells #[.string ⟨#[115, 48]⟩, .string ⟨#[115, 49]⟩, .string ⟨#[115, 50]⟩, .string ⟨#[115, 51]⟩, .string ⟨#[115, 57]⟩] 9)
  have gr0 := grown_alloc (grown_refl w (some g)) (.cells #[.string ⟨#[115, 48]⟩, .string ⟨#[115, 49]⟩, .string ⟨#[115, 50]⟩, .string ⟨#[115, 51]⟩, .string ⟨#[115, 57]⟩] 9)
  generalize hNM : ([⟨#[115, 48]⟩, ⟨#[115, 49]⟩, ⟨#[115, 50]⟩, ⟨#[115, 51]⟩, ⟨#[115, 57]⟩] : List ByteArray) = NM at hL0
  clear hNM
  go_enter Tryz.func11, Tryz.ntmps11
  go_wp2_with fail
  go_loopw [3, 9] (fun out i wr => ∃ (j m kk : Nat) (acc : List Vd), j ≤ 5 ∧ m ≤ j ∧ i = .int .i64 j ∧ Hid (acc.length = m) ∧ wr.ownsRow w.heap.size 99 3 out m (acc.flatMap vdE) ∧ RS 9 wr (some ⟨w.heap.size, 0, none⟩) 5 NM ∧ St wr g zs kk ∧ kk ≤ k + 2 * j ∧ w.grownBy wr (some g)) (fun _ i _ => 5 - (intOf i).toNat)
  case atStart => exact ⟨0, 0, k, [], by omega, by omega, rfl, Lib.hid rfl, World.ownsRow_nil _ _ _ _, hL0, s0, by omega, gr0⟩
  case round =>
    clear hL0 s0 gr0 h
    obtain ⟨j, m, kk, acc, hj, hm, rfl, hla, hown, hRL, hst, hkk, hgr⟩ := hrel
    by_cases hlt : j < 5
    · obtain ⟨bO, oO, x, hA0, lO, hx, cx⟩ := hRL.at_ hlt
      injection hA0 with hA0
      injection hA0 with hA0 hA1
      subst hA0
      subst hA1
      rw [Nat.zero_add] at cx
      have hji : (j : Int) < 5 := by omega
      clear hx
      go_wp2_with fail
      refine (flipE_c g zs kk _ _ hst (by omega) (by omega) (by omega)).mono ?_; rintro e w2 ⟨fl, rfl, s2, g2⟩
      have hown2 := own_keep hown hglt g2
      have hRL2 := hRL.keep (T := 25) (by decide) (hst.keep g2)
      have hgr2 := grown_trans hgr g2
      clear hown hRL hst hgr g2 cx
      cases fl
      · go_wp2
        go_roundw
        case rel => exact ⟨j + 1, m, kk + 1, acc, by omega, by omega, by go_num, hla, hown2, hRL2, s2, by omega, hgr2⟩
        case measure => simp [intOf]; omega
      · go_wp2_with fail
        refine (pickE_c g zs _ _ _ _ [0, 1, 3, 8] _ (s2.alloc _) (by omega) (R1.litAt _ _ _ _ (by first | rfl | (simp; done)) (by simp) (by simp)) (by simp)).mono ?_; rintro e w5 ⟨pv, rfl, hpv, s5, g5⟩
        have hown5 := own_keep (hown2.alloc (.cells #[.int .i64 0, .int .i64 1, .int .i64 3, .int .i64 8] 3)) hglt g5
        have hRL5 := (hRL2.alloc (.cells #[.int .i64 0, .int .i64 1, .int .i64 3, .int .i64 8] 3)).keep (T := 25) (by decide) ((s2.alloc _).keep g5)
        have hgr5 := grown_trans (grown_alloc hgr2 (.cells #[.int .i64 0, .int .i64 1, .int .i64 3, .int .i64 8] 3)) g5
        have hown6 := hown5.alloc (.cells #[.string ⟨#[97, 110, 121]⟩] 9)
        have hRL6 := hRL5.alloc (.cells #[.string ⟨#[97, 110, 121]⟩] 9)
        have hgr6 := grown_alloc hgr5 (.cells #[.string ⟨#[97, 110, 121]⟩] 9)
        have s6 := s5.alloc (.cells #[.string ⟨#[97, 110, 121]⟩] 9)
        have hz6 := hgr6.size
        clear hown2 hRL2 s2 hgr2 g5 hpv hown5 hRL5 hgr5 s5
        go_wp2_with (at_builtin; refine wpList_app rfl (.tmp 15) (.tmp 22) 28 rfl Tryz.underlying28 info_verd rfl (by omega) (by omega) hown6 rfl rfl (by first | rfl | (simp; done)) (by rfl) (by simp [Value.oneCell']) (by omega) hz6 ?_; intro v7 w7 hown7 hg7)
        have H := Lib.hid (And.intro (show w7.ownsRow w.heap.size 99 3 v7 (m + 1) ((acc ++ [(⟨x, pv, some ⟨w5.heap.size, 0, none⟩, 1, 1⟩ : Vd)]).flatMap vdE) by rw [← flat_snoc]; exact hown7) (And.intro (hRL6.keep (T := 99) (by decide) (keep_row hown6 hg7)) (And.intro (s6.grown hg7 (fun i hi => by have := own_row_lt hown6 i hi; omega)) (grown_own hgr6 hg7 (own_row_lt hown6)))))
        clear hown7 hg7 hown6 hRL6 s6 hgr6
        go_roundw
        case rel => exact ⟨j + 1, m + 1, _, _, by omega, by omega, by go_num, Lib.hid (by rw [List.length_append, hla.out]; rfl), H.out.1, H.out.2.1, H.out.2.2.1, by omega, H.out.2.2.2⟩
        case measure => simp [intOf]; omega
    · obtain rfl : j = 5 := by omega
      obtain ⟨A, c, rfl⟩ := own_shape hown
      have hla' := hla.out
      clear hRL hla
      by_cases hj0 : m = 0
      · subst hj0
        go_wp2
        go_ret
        exact ⟨A, 0, c, acc, kk, rfl, hown, hla', by omega, hst, by omega, hgr⟩
      · have hj1 : (0 : Int) < (m : Int) := by omega
        have hj2 : 0 < m := by omega
        go_wp2_with fail
        refine (flipE_c g zs kk _ _ hst (by omega) (by omega) (by omega)).mono ?_; rintro e w7 ⟨fl, rfl, s7, g7⟩
        have hown7 := own_keep hown hglt g7
        have hgr7 := grown_trans hgr g7
        clear hown hst hgr g7
        cases fl
        · go_wp2
          go_ret
          exact ⟨A, m, c, acc, _, rfl, hown7, hla', by omega, s7, by omega, hgr7⟩
        · go_wp2_with fail
          refine (nextE_c g zs _ (m : Int) _ s7 (by omega) (by omega) (by omega)).mono ?_; rintro e w8 ⟨v, rfl, v0, v1, s8, g8⟩
          obtain ⟨q, rfl⟩ : ∃ q : Nat, v = q := ⟨v.toNat, by omega⟩
          have hown8 := own_keep hown7 hglt g8
          have hgr8 := grown_trans hgr7 g8
          obtain ⟨b, rfl, hbb⟩ := own_someN hown8 (by omega)
          obtain ⟨b', off', x, hA, hbl, hx, c0, c1, c2⟩ := RVd_at3 (RN.of_own vdE_len hown8 hla' (by omega)) (k := q) (by omega)
          injection hA with hA
          injection hA with hA hAo
          subst hA
          subst hAo
          rw [Nat.zero_add] at c0 c1
          have hx' := Lib.hid hx
          have e8 : (q : Int) < m := by omega
          clear hown7 s7 hgr7 g8 hx c2
          obtain ⟨xw, xf, xA, xn, xc⟩ := x
          dsimp only at c0 c1
          have f0 := hown8.frozenAt (q * 3)
          have f1 := hown8.frozenAt (q * 3 + 1)
          have hoS := Lib.hid (someE_c g zs (kk + 1 + 1) [xw, ⟨#[]⟩, ⟨#[115, 49]⟩] 3 3 w8.heap.size #[.string xw, .string ⟨#[]⟩, .string ⟨#[115, 49]⟩] w8 s8 (by omega) rfl rfl rfl (by decide) (by decide))
          go_wp2_with fail
          refine hoS.out.mono ?_; rintro e w9 ⟨v9, rfl, hv9, s9, g9⟩
          have hown9 := own_keep hown8 hglt g9
          have hgr9 := grown_trans hgr8 g9
          clear hoS hv9
          go_wp2_with fail
          refine (oddE_c g zs _ 0 8 _ s9 (by omega) (by decide) (by decide) (by decide)).mono ?_; rintro e w10 ⟨v10, rfl, b0, b1, s10, g10⟩
          have hown10 := own_keep hown9 hglt g10
          have hgr10 := grown_trans hgr9 g10
          obtain ⟨b', off', x, hA, hbl', hx, y0, y1, y2⟩ := RVd_at3 (RN.of_own vdE_len hown10 hla' (by omega)) (k := q) (by omega)
          injection hA with hA
          injection hA with hA hAo
          subst hA
          subst hAo
          rw [Nat.zero_add] at y0 y1
          clear hx y2
          have fx := hown10.frozenAt (q * 3)
          have fy := hown10.frozenAt (q * 3 + 1)
          clear c0 c1 f0 f1
          go_wp2
          go_ret
          have t1 := (hown10.stored (q * 3) (.string v9)).1
          rw [vdr_set _ _ _ _ hx'.out] at t1
          have t2 := (t1.stored (q * 3 + 1) (.int .i64 v10)).1
          rw [vdr_set1 _ _ _ ⟨v9, xf, xA, xn, xc⟩ (by rw [List.getElem?_set_self (by omega)])] at t2
          exact ⟨_, m, c, _, _, rfl, t2, by rw [List.length_set, List.length_set]; exact hla', by omega, ((s10.setAt (b := b) (o := q * 3) (by omega) (.string v9)).setAt (b := b) (o := q * 3 + 1) (by omega) (.int .i64 v10)), by omega, grown_setAt (grown_setAt hgr10 hbb (o := q * 3) (.string v9)) hbb (o := q * 3 + 1) (.int .i64 v10)⟩
set_option maxHeartbeats 6400000 in
set_option maxRecDepth 100000 in
theorem verdictsFault_c (A : Option Addr) (n c : Nat) (l : List Vd) (w : World) (h : RVd w A n l) :
    Calls Tryz.prog 14 #[.slice A n c] w fun e w' => e = .returned (.int .i64 (verdErr l)) ∧ Below w.heap.size w w' := by
  have hl := h.len
  have hbd := h.bd
  have hE : verdErr l = if 300 < n then 2 else verdGo none l := by unfold verdErr; rw [hl]
  have hGa := Lib.hid (fun k x p (h : l[k]? = some x) => verdGo_at p h)
  have hG0 := Lib.hid (show ∀ p, verdGo p [] = 0 from fun p => rfl)
  generalize verdErr l = E at *
  generalize verdGo = FG at *
  have hE' := Lib.hid hE
  have hl' := Lib.hid hl
  clear hE hl
  by_cases hbig : 300 < n
  · go_enter Tryz.func14, Tryz.ntmps14
    go_wp2
    go_ret
    exact ⟨ret_i (by rw [hE'.out, if_pos hbig]), Below.refl _ _⟩
  go_enter Tryz.func14, Tryz.ntmps14
  go_wp2
  go_loopw [10] (fun i wr => ∃ k : Nat, k ≤ n ∧ i = .int .i64 k ∧ Below w.heap.size w wr ∧ Hid (FG (prevV l k) (l.drop k) = FG none l)) (fun i _ => n - (intOf i).toNat)
  case atStart => exact ⟨0, Nat.zero_le _, rfl, Below.refl _ _, Lib.hid rfl⟩
  case round =>
    obtain ⟨k, hk, rfl, hB, hF⟩ := hrel
    by_cases hlt : k < n
    · obtain ⟨b, off, x, rfl, hbl, hx, c0, c1, c2⟩ := RVd_at3 (h.below hB) hlt
      have hS := Lib.hid (hGa.out k x (prevV l k) hx)
      have hP := Lib.hid (prevV_succ hx)
      obtain ⟨who, fault, xA, xn, xc⟩ := x
      dsimp only at *
      clear hx
      go_wp2_with fail
      refine (key_c who _).mono ?_; rintro e w2 ⟨rfl, B2⟩
      have hbox := blk_below (heap_alloc_new wr _) B2
      have hB2 := below_nextBox hB B2
      clear c0 c1 c2
      cases hkb : keyB who
      · have hR := Lib.hid (show FG none l = 5 by rw [← hF.out, hS.out, if_pos hkb])
        clear hkb
        go_wp2
        go_ret
        exact ⟨ret_i (by rw [hE'.out, if_neg hbig, hR.out]), hB2⟩
      have hS2 := Lib.hid (show FG (prevV l k) (l.drop k) = if ¬ (0 ≤ fault ∧ fault ≤ 8) then 4 else if leO who (prevV l k) = true then 7 else FG (some who) (l.drop (k + 1)) by rw [hS.out, if_neg (by simp [hkb])])
      clear hS hkb
      have zx := (blk_facts hbox).1 0
      have zy := (blk_facts hbox).1 1
      have hlt2 := lt_of_heap hbox
      by_cases hT : 0 ≤ fault ∧ fault ≤ 8
      rotate_left
      · have hR := Lib.hid (show FG none l = 4 by rw [← hF.out, hS2.out, if_pos hT])
        have hd : decide (0 ≤ fault ∧ fault ≤ 8) = false := decide_eq_false hT
        clear hT
        go_wp2_with (go_at_call 115; refine (in_c _ _ _ _).mono ?_; rintro e w' ⟨rfl, rfl⟩; rw [hd])
        go_ret
        exact ⟨ret_i (by rw [hE'.out, if_neg hbig, hR.out]), hB2⟩
      have hS2' := Lib.hid (show FG (prevV l k) (l.drop k) = if leO who (prevV l k) = true then 7 else FG (some who) (l.drop (k + 1)) by rw [hS2.out, if_neg (by simpa using hT)])
      have hd : decide (0 ≤ fault ∧ fault ≤ 8) = true := decide_eq_true hT
      clear hS2 hT
      by_cases hk0 : k = 0
      · subst hk0
        have hR := Lib.hid (show FG none l = FG (some who) (l.drop (0 + 1)) by rw [← hF.out, hS2'.out]; rfl)
        clear hF hS2'
        go_wp2_with (go_at_call 115; refine (in_c _ _ _ _).mono ?_; rintro e w' ⟨rfl, rfl⟩; rw [hd])
        go_quiet (fail)
        go_wp2
        go_roundw
        case rel => exact ⟨0 + 1, by omega, by go_num, below_drewN hB2 _, Lib.hid (by rw [hP.out, hR.out])⟩
        case measure => simp [intOf]; omega
      · obtain ⟨b', off', y, hA', hbl', hy, d0, _, _⟩ := RVd_at3 (h.below hB2) (k := k - 1) (by omega)
        injection hA' with hA'
        injection hA' with e1 e2
        subst e1 e2
        have hPk : prevV l k = some y.who := by unfold prevV; rw [if_neg hk0, hy]; rfl
        have hS3 := Lib.hid (show FG none l = if leS who y.who = true then 7 else FG (some who) (l.drop (k + 1)) by rw [← hF.out, hS2'.out, hPk]; rfl)
        have hL := Lib.hid (show leS who y.who = (Op.bytesLess who.toList y.who.toList || (who.toList == y.who.toList)) from rfl)
        clear hF hS2' hy hPk
        generalize y.who = yw at *
        have e2 : (0 : Int) ≤ (k : Int) - 1 := by omega
        have e4 : (k : Int) - 1 < n := by omega
        have e1 : IntKind.i64.wrap ((k : Int) - 1) = (k : Int) - 1 := IntWalk.i64_in _ (by omega)
        have e3 : ((k : Int) - 1).toNat = k - 1 := by omega
        have e6 : 0 < k := by omega
        have e9 : (1 : Int) ≤ (k : Int) := by omega
        have e10 : (k : Int) ≤ n := by omega
        have e11 : (k : Int) < n := by omega
        have e7 : decide (0 < k) = true := decide_eq_true e6
        have e8 : decide ((0 : Int) < (k : Int)) = true := decide_eq_true (by omega)
        go_wp2_with (go_at_call 115; refine (in_c _ _ _ _).mono ?_; rintro e w' ⟨rfl, rfl⟩; rw [hd])
        go_quiet (fail)
        rw [← hL.out]
        clear e1 e2 e3 e4 e6 e7 e8 e9 e10 e11
        generalize leS who yw = q at *
        cases q
        · have hR := Lib.hid (show FG none l = FG (some who) (l.drop (k + 1)) by rw [hS3.out]; rfl)
          clear hL hS3
          go_wp2
          go_roundw
          case rel => exact ⟨k + 1, by omega, by go_num, below_drewN hB2 _, Lib.hid (by rw [hP.out, hR.out])⟩
          case measure => simp [intOf]; omega
        · have hR := Lib.hid (show FG none l = 7 by rw [hS3.out]; rfl)
          clear hL hS3
          go_wp2
          go_ret
          exact ⟨ret_i (by rw [hE'.out, if_neg hbig, hR.out]), below_drewN hB2 _⟩
    · obtain rfl : k = n := by omega
      have hR := Lib.hid (show FG none l = 0 by rw [← hF.out, drop_end (by rw [hl'.out]; exact Nat.le_refl _), hG0.out])
      go_wp2
      go_ret
      exact ⟨ret_i (by rw [hE'.out, if_neg hbig, hR.out]), hB⟩
end Go.Proofs.YtklggnglaeagpaaGreatDoor
