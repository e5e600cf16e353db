/- race.Turns, timing.Halves, race.Fade. -/
import Derived.Test.YtjfppcejcbfngaaDoorTurns
namespace Go.Proofs.YtjfppcejcbfngaaDoor
open Go.RowKit
set_option linter.unusedVariables false

set_option maxRecDepth 100000 in
set_option maxHeartbeats 1600000 in
theorem turns_c (r : Race) (A : Option Addr) (n c : Nat) (l : List Int) (w : World) (h : RI 3 w A n l) (h0 : wholeErr r l = 0) :
    Calls Tryd.prog 34 #[r.val, .slice A n c] w fun e w' => e = .returned (.tuple #[.int .i64 ((turnsP (lapsL l)).1 + 1 : Nat), .int .i64 ((turnsP (lapsL l)).2 + 1 : Nat), .int .i64 0]) ∧ Below w.heap.size w w' := by
  have Hs := fun W h => checkWhole_c r A n c l W h
  rw [h0] at Hs
  obtain ⟨hc, _⟩ := wholeErr_ok h0
  obtain ⟨hn1, hn, hbd⟩ := splits_bd hc
  rw [h.len] at hn hn1
  have hL := fun W h => laps_c r A n c l W h hc
  have hll : (lapsL l).length = n := by rw [lapsL_len, h.len]
  have hT : turnsP (lapsL l) = tGo (lapsL l) ((lapsL l).drop 0) 0 0 0 := by rw [List.drop_zero]; rfl
  generalize lapsL l = L at *
  generalize turnsP L = P at *
  have hT' := Lib.hid hT
  have Hs' := Lib.hid Hs
  have hL' := Lib.hid hL
  clear hT hbd Hs hL h0 hc
  obtain ⟨key, metres, stroke, course, legs, sex, young, old⟩ := r
  dsimp only [Race.val, Race.cells] at *
  go_enter Tryd.func34, Tryd.ntmps34
  go_wp2_with fail
  refine (Hs'.out _ (h.alloc _)).mono ?_; rintro e w0 ⟨rfl, hb0⟩; have hB0 := below_box hb0
  have hcl := (blk_facts (blk_below (heap_alloc_new w (.cells #[.string key, .int .i64 metres, .int .i64 stroke, .int .i64 course, .int .i64 legs, .int .i64 sex, .int .i64 young, .int .i64 old] 27)) hb0)).1
  go_wp2_with fail
  refine (hL'.out _ (h.below hB0)).mono ?_; rintro e w1 ⟨A', c', rfl, hown, hB1⟩
  have hr : RI 3 w1 A' n L := R1.of_own hown (by omega)
  have hB := below_next hB0 hB1
  clear hown hL' hcl hB0 hB1 hb0
  go_wp2_with fail
  go_loop [10, 11, 28] (fun f s i => ∃ k f' s' : Nat, k ≤ n ∧ i = .int .i64 k ∧ f = .int .i64 f' ∧ s = .int .i64 s' ∧ f' < n ∧ s' < n ∧ Hid (tGo L (L.drop k) k f' s' = P)) (fun _ _ i => n - (intOf i).toNat)
  case atStart => exact ⟨0, 0, 0, Nat.zero_le _, rfl, rfl, rfl, by omega, by omega, Lib.hid hT'.out.symm⟩
  case round =>
    obtain ⟨k, f, s, hk, rfl, rfl, rfl, hf, hs, hK⟩ := hrel
    by_cases hlt : k < n
    · obtain ⟨b, off, x, rfl, _, hx, hcx⟩ := hr.at_ hlt
      obtain ⟨b', off', y, e, _, hy, hcy⟩ := hr.at_ hf
      obtain ⟨rfl, rfl⟩ : b = b' ∧ off = off' := by injection e with e; injection e with e1 e2; exact ⟨e1, e2⟩
      obtain ⟨b', off', z, e, _, hz, hcz⟩ := hr.at_ hs
      obtain ⟨rfl, rfl⟩ : b = b' ∧ off = off' := by injection e with e; injection e with e1 e2; exact ⟨e1, e2⟩
      have hS := Lib.hid (hK.out.symm.trans (tGo_at hx hy hz))
      clear hx hy hz hr e hT' h
      by_cases c1 : x < y <;> by_cases c2 : z < x
      · go_wp2
        go_round
        case rel => exact ⟨k + 1, k, k, by omega, by go_num, rfl, rfl, hlt, hlt, Lib.hid (by rw [hS.out, if_pos c1, if_pos c2])⟩
        case measure => simp [intOf]; omega
      · go_wp2
        go_round
        case rel => exact ⟨k + 1, k, s, by omega, by go_num, rfl, rfl, hlt, hs, Lib.hid (by rw [hS.out, if_pos c1, if_neg c2])⟩
        case measure => simp [intOf]; omega
      · go_wp2
        go_round
        case rel => exact ⟨k + 1, f, k, by omega, by go_num, rfl, rfl, hf, hlt, Lib.hid (by rw [hS.out, if_neg c1, if_pos c2])⟩
        case measure => simp [intOf]; omega
      · go_wp2
        go_round
        case rel => exact ⟨k + 1, f, s, by omega, by go_num, rfl, rfl, hf, hs, Lib.hid (by rw [hS.out, if_neg c1, if_neg c2])⟩
        case measure => simp [intOf]; omega
    · have hL := hK.out
      rw [drop_end (by omega)] at hL
      simp only [tGo] at hL
      subst hL
      clear hr hT' hK h
      go_wp2
      refine bodyPost_ret (v := .tuple #[.int .i64 (f + 1 : Nat), .int .i64 (s + 1 : Nat), .int .i64 0]) (by simp [results, Tryd.results34, go_sem]) rfl ⟨rfl, hB⟩
theorem turns_err (r : Race) (A : Option Addr) (n c : Nat) (l : List Int) (w : World) (h : RI 3 w A n l) (h0 : wholeErr r l ≠ 0) :
    Calls Tryd.prog 34 #[r.val, .slice A n c] w fun e w' => e = .returned (.tuple #[.int .i64 0, .int .i64 0, .int .i64 (wholeErr r l)]) ∧ Below w.heap.size w w' := by
  have Hs := fun W h => checkWhole_c r A n c l W h
  have hn : (wholeErr r l != 0) = true := by simpa using h0
  generalize wholeErr r l = x at *
  have Hs' := Lib.hid Hs
  clear h0 Hs
  obtain ⟨key, metres, stroke, course, legs, sex, young, old⟩ := r
  dsimp only [Race.val, Race.cells] at *
  go_enter Tryd.func34, Tryd.ntmps34
  go_wp2_with fail
  refine (Hs'.out _ (h.alloc _)).mono ?_; rintro e w0 ⟨rfl, hb0⟩; have hB0 := below_box hb0
  go_wp2
  refine bodyPost_ret (v := .tuple #[.int .i64 0, .int .i64 0, .int .i64 x]) (by simp [results, Tryd.results34, go_sem]) rfl ⟨rfl, hB0⟩

theorem halves_c (r : Race) (A : Option Addr) (n c : Nat) (l : List Int) (w : World) (h : RI 3 w A n l) (h0 : checkSp r l = 0) :
    Calls Tryd.prog 64 #[r.val, .slice A n c] w fun e w' => e = .returned (halfV l) ∧ Below w.heap.size w w' := by
  have hlen := h.len
  obtain ⟨hn1, hn, hbd⟩ := splits_bd h0
  rw [h.len] at hn hn1
  have Hs := fun W h => checkSplits_c r A n c l W h
  rw [h0] at Hs
  have Hs' := Lib.hid Hs
  clear Hs h0
  obtain ⟨key, metres, stroke, course, legs, sex, young, old⟩ := r
  dsimp only [Race.val, Race.cells] at *
  by_cases hodd : n % 2 = 1
  · have E := Lib.hid (half_odd hlen hodd)
    clear hlen hbd
    go_enter Tryd.func64, Tryd.ntmps64
    go_wp2_with fail
    refine (Hs'.out _ (h.alloc _)).mono ?_; rintro e w0 ⟨rfl, hb0⟩; have hB0 := below_box hb0
    clear h
    go_wp2
    refine bodyPost_ret (v := .tuple #[.int .i64 0, .int .i64 0, .int .i64 3]) (by simp [results, Tryd.results64, go_sem]) rfl ⟨by rw [E.out], hB0⟩
  · go_enter Tryd.func64, Tryd.ntmps64
    go_wp2_with fail
    refine (Hs'.out _ (h.alloc _)).mono ?_; rintro e w0 ⟨rfl, hb0⟩; have hB0 := below_box hb0
    have h' := h.below hB0
    clear h
    obtain ⟨b, off, x, rfl, _, hx, hcx⟩ := h'.at_ (k := n / 2 - 1) (by omega)
    obtain ⟨b', off', y, e, _, hy, hcy⟩ := h'.at_ (k := n - 1) (by omega)
    obtain ⟨rfl, rfl⟩ : b = b' ∧ off = off' := by injection e with e; injection e with e1 e2; exact ⟨e1, e2⟩
    have hxb := hbd x (mem_of_at hx)
    have hyb := hbd y (mem_of_at hy)
    have E1 := Lib.hid (half_none hlen (by omega) hx)
    have E2 := Lib.hid (half_ok hlen (by omega) hx hy)
    have e1 : (((n / 2 - 1 : Nat)) : Int) = (n : Int) / 2 - 1 := by omega
    have hnp : 2 ≤ n := by omega
    clear h' hlen hbd hx hy e
    by_cases h0 : x = 0
    · have E := Lib.hid (E1.out h0)
      subst h0
      clear E1 E2
      go_wp2
      refine bodyPost_ret (v := .tuple #[.int .i64 0, .int .i64 0, .int .i64 8]) (by simp [results, Tryd.results64, go_sem]) rfl ⟨by rw [E.out], hB0⟩
    · have E := Lib.hid (E2.out h0 (by omega))
      clear E1 E2
      go_wp2
      go_quiet (fail)
      go_wp2
      refine bodyPost_ret (v := .tuple #[.int .i64 x, .int .i64 (y - x), .int .i64 0]) (by simp [results, Tryd.results64, go_sem]) rfl ⟨by rw [E.out], below_drewN hB0 _⟩
end Go.Proofs.YtjfppcejcbfngaaDoor
