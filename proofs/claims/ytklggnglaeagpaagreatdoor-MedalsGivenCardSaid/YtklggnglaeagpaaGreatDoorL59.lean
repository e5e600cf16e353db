import Derived.Test.YtklggnglaeagpaaGreatDoorHtsB
import Derived.Test.YtklggnglaeagpaaGreatDoorVerdM
import Derived.Test.YtklggnglaeagpaaGreatDoorLens
import Derived.Test.YtklggnglaeagpaaGreatDoorRkS
import Derived.Test.YtklggnglaeagpaaGreatDoorRkR
import Derived.Test.YtklggnglaeagpaaGreatDoorMvO
import Derived.Test.YtklggnglaeagpaaGreatDoorOffC
import Derived.Test.YtklggnglaeagpaaGreatDoorJudged
import Derived.Deep.DeepCutAuto
/- judge.Medals and tumbref1.MedalsOf. Printed by wip/mkmed.py. -/
namespace Go.Proofs.YtklggnglaeagpaaGreatDoor
open Go.RowKit Go.Lib
set_option linter.unusedVariables false

/-- who has which medal -/
def medGo : List Rk → List (List ByteArray) → List (List ByteArray)
  | [], H => H
  | x :: r, H => medGo r (if 1 ≤ x.rank ∧ x.rank ≤ 3 then pushH (x.rank - 1).toNat x.who H else H)
def medL (l : List Rk) : List (List ByteArray) := medGo l [[], [], []]
theorem medGo_at {l : List Rk} {k : Nat} {x : Rk} (H : List (List ByteArray)) (h : l[k]? = some x) : medGo (l.drop k) H = medGo (l.drop (k + 1)) (if 1 ≤ x.rank ∧ x.rank ≤ 3 then pushH (x.rank - 1).toNat x.who H else H) := by rw [drop_at h]; rfl
theorem medGo_nil (H : List (List ByteArray)) : medGo [] H = H := rfl
/-- the medals as they lie -/
def RMed (w : World) (base : Nat) (A : Option Addr) (ML : List (List ByteArray)) : Prop := ∃ (b : Nat) (L : List Hb), A = some ⟨b, 0, none⟩ ∧ base ≤ b ∧ Hts base b L w ∧ L.map Hb.l = ML ∧ L.length = 3 ∧ ∀ y ∈ L, y.l.length ≤ 300
theorem medPush_len {L : List Hb} {i k : Nat} {y z : Hb} (hy : L[i]? = some y) (h : ∀ y ∈ L, y.l.length ≤ k) (hz : z.l.length = y.l.length + 1) : ∀ u ∈ L.set i z, u.l.length ≤ k + 1 := fun u hu => by
  rcases List.mem_or_eq_of_mem_set hu with h9 | rfl
  · have := h u h9; omega
  · have := h y (List.mem_of_getElem? hy); omega
set_option maxHeartbeats 6400000 in
set_option maxRecDepth 100000 in
theorem medalsOf_c (A : Option Addr) (n c : Nat) (l : List Rk) (w : World) (h : RRk w A n l) (hn : n ≤ 300) :
    Calls Tryz.prog 98 #[.slice A n c] w fun e w' => ∃ A', e = .returned (.slice A' 3 3) ∧ RMed w' w.heap.size A' (medL l) ∧ Below w.heap.size w w' := by
  have hll := Lib.hid h.len
  have hmk := Lib.hid (fun W => show (Instr.makeSlice 100 (.int .i64 3) (.int .i64 3)).run Tryz.prog W = .ok (.slice (some ⟨W.heap.size, 0, none⟩) 3 3) (W.alloc (.cells (Array.replicate 3 (.slice none 0 0)) 97)) from mk_rowsH 3 (by omega) W)
  have hM0 : Hid (medGo (l.drop 0) ((List.replicate 3 (⟨none, 0, []⟩ : Hb)).map Hb.l) = medL l) := Lib.hid rfl
  generalize medL l = ML at *
  have hmk1 := hmk.out w
  have hts0 : Hts w.heap.size w.heap.size (List.replicate 3 ⟨none, 0, []⟩) (w.alloc (.cells (Array.replicate 3 (.slice none 0 0)) 97)) := Hts.start 3 (heap_alloc_new _ _)
  have K0 : Dr w w.heap.size (fun _ => True) (List.replicate 3 ⟨none, 0, []⟩) (w.alloc (.cells (Array.replicate 3 (.slice none 0 0)) 97)) := ⟨hts0, trivial, fun _ _ _ _ => trivial, (Below.refl w.heap.size w).alloc (Below.refl w.heap.size w).size _, (Below.refl w.heap.size w).size⟩
  clear hts0 hmk
  go_enter Tryz.func98, Tryz.ntmps98
  go_wp2_with fail
  generalize w.alloc (.cells (Array.replicate 3 (.slice none 0 0)) 97) = w3 at *
  generalize w.heap.size = b at *
  go_loopw [9] (fun i wr => ∃ (k : Nat) (L : List Hb), k ≤ n ∧ i = .int .i64 k ∧ Dr w b (fun _ => True) L wr ∧ L.length = 3 ∧ (∀ y ∈ L, y.l.length ≤ k) ∧ Hid (medGo (l.drop k) (L.map Hb.l) = ML)) (fun i _ => n - (intOf i).toNat)
  case atStart => exact ⟨0, _, Nat.zero_le _, rfl, K0, rfl, (fun y hy => by obtain ⟨_, rfl⟩ := List.mem_replicate.1 hy; exact Nat.le_refl _), hM0⟩
  case round =>
    clear K0 hM0
    rename World => wr
    obtain ⟨k, L, hk, rfl, K, hL3, hLk, hM⟩ := hrel
    by_cases hlt : k < n
    · obtain ⟨b1, off1, x, rfl, hbl1, hx, c0, c1, c2, c3⟩ := RRk.at4 (h.below K.bel) hlt
      have hMa := Lib.hid (medGo_at (L.map Hb.l) hx)
      obtain ⟨who, rank, time, fault⟩ := x
      dsimp only at *
      clear hx
      have hbx := heap_alloc_new wr (.cells #[.string who, .int .i64 rank, .int .i64 time, .int .i64 fault] 48)
      have K5 := K.below (below_new wr (.cells #[.string who, .int .i64 rank, .int .i64 time, .int .i64 fault] 48))
      have z1 := (blk_facts hbx).1 1
      have hn9 : wr.heap.size ≠ b := by have := lt_of_heap K.hts.row; omega
      clear K
      by_cases hr : 1 ≤ rank ∧ rank ≤ 3
      rotate_left
      · have hd : decide (1 ≤ rank ∧ rank ≤ 3) = false := decide_eq_false hr
        have hM2 := Lib.hid (show medGo (l.drop (k + 1)) (L.map Hb.l) = ML by rw [← hM.out, hMa.out, if_neg hr])
        clear hM hMa hr
        go_wp2_with fail
        refine (in_c _ _ _ _).mono ?_; rintro e w6 ⟨rfl, rfl⟩
        rw [hd]
        clear hd z1 c0 c1 c2 c3
        go_wp2
        go_roundw
        case rel => exact ⟨k + 1, L, by omega, by go_num, K5, hL3, (fun y hy => by have := hLk y hy; omega), hM2⟩
        case measure => simp [intOf]; omega
      · have hd : decide (1 ≤ rank ∧ rank ≤ 3) = true := decide_eq_true hr
        have hM2 := Lib.hid (show medGo (l.drop (k + 1)) (pushH (rank - 1).toNat who (L.map Hb.l)) = ML by rw [← hM.out, hMa.out, if_pos hr])
        go_wp2_with fail
        refine (in_c _ _ _ _).mono ?_; rintro e w6 ⟨rfl, rfl⟩
        rw [hd]
        obtain ⟨p, rfl⟩ : ∃ p : Nat, rank = (p : Int) + 1 := ⟨(rank - 1).toNat, by omega⟩
        rw [show ((p : Int) + 1 - 1).toNat = p by omega] at hM2
        clear hd z1 c0 c1 c2 c3 hM hMa
        have i0 : (0 : Int) ≤ (p : Int) := by omega
        have i1 : (p : Int) < 3 := by omega
        have k8 : IntKind.i64.wrap (p : Int) = (p : Int) := IntWalk.i64_in _ (by omega)
        have k9 : IntKind.i64.wrap ((p : Int) + 1 - 1) = (p : Int) := by rw [show (p : Int) + 1 - 1 = (p : Int) by omega]; exact k8
        obtain ⟨y, hy⟩ := at_of_lt (l := L) (k := p) (by omega)
        have hyl : y.l.length ≤ 1000 := by have := hLk y (List.mem_of_getElem? hy); omega
        have hLk' := Lib.hid (fun z (hz : z.l.length = y.l.length + 1) => medPush_len (z := z) hy hLk hz)
        have hy' := Lib.hid hy
        obtain ⟨yA, yc, yl⟩ := y
        dsimp only at hyl hLk'
        clear hy hLk
        generalize wr.alloc (.cells #[.string who, .int .i64 ((p : Int) + 1), .int .i64 time, .int .i64 fault] 48) = wA at *
        generalize wr.heap.size = b7 at *
        go_wp2_with fail
        have K9 := K5.below (below_drewN (Below.refl _ _) 1)
        have hbx9 : wA.drew.heap[b7]? = some (.cells #[.string who, .int .i64 ((p : Int) + 1), .int .i64 time, .int .i64 fault] 48 (0, 0)) := hbx
        have cy9 := K9.hts.cell hy'.out
        dsimp only [hbE] at cy9
        have lb9 := lt_of_heap K9.hts.row
        have hz9' := K9.bel.size
        obtain ⟨i0_, hi0, hz0, hz1, hz2⟩ := info_parts info_strH
        refine wp_region_inv (by kernel_rfl) (fun listed a w' => ∃ xs : Nat → Value, a = { tmps := #[.slice (some ⟨b1, off1, none⟩) n c, undef, .slice none 0 0, .slice (some ⟨b, 0, none⟩) 3 3, undef, .pointer (some ⟨b7, 0, none⟩), .slice (some ⟨b, 0, none⟩) 3 3, .slice (some ⟨b1, off1, none⟩) n c, .int .i64 ↑n, .int .i64 ↑k, .bool true, .pointer (some ⟨b1, off1 + k * 4, none⟩), .agg #[.string who, .int .i64 (↑p + 1), .int .i64 time, .int .i64 fault], .pointer (some ⟨b7, 1, none⟩), .int .i64 (↑p + 1), .bool true, xs 0, xs 1, xs 2, xs 3, xs 4, xs 5, xs 6, xs 7, xs 8, xs 9, xs 10, xs 11, xs 12, xs 13, xs 14, u31, undef], defers := [] } ∧ (∀ j, listed.getD j false = true → CV [some (.slice (some ⟨b, 0, none⟩) 3 3), some (.pointer (some ⟨b7, 1, none⟩)), some (.int .i64 (↑p + 1)), some (.int .i64 ↑p), some (.slice (some ⟨b, 0, none⟩) 3 3), some (.pointer (some ⟨b7, 1, none⟩)), some (.int .i64 (↑p + 1)), some (.int .i64 ↑p), some (.pointer (some ⟨b, p, none⟩)), some (.slice yA yl.length yc), some (.pointer (some ⟨b7, 0, none⟩)), some (.string who), none, none, some (.pointer (some ⟨b, p, none⟩)), none] j w' (xs j)) ∧ ApSt (w.heap.size) 9 1 (yl.length) (strsH yl) ([.string who]) (wA.drew) 9 12 13 15 ⟨b, p, none⟩ listed xs w') ?h0 (AllOps.of ?hs) ?he
        case h0 => exact ⟨fun j => match j with | 0 => u16 | 1 => u17 | 2 => u18 | 3 => u19 | 4 => u20 | 5 => u21 | 6 => u22 | 7 => u23 | 8 => u24 | 9 => u25 | 10 => u26 | 11 => u27 | 12 => u28 | 13 => u29 | 14 => u30 | _ => undef, rfl, (fun j hj => by rw [rep_falseA] at hj; cases hj), ApSt.start⟩
        case hs =>
          refine ⟨?_, ?_, ?_, ?_, ?_, ?_, ?_, ?_, ?_, ?_, ?_, ?_, ?_, ?_, ?_, ?_, trivial⟩
          · intro listed a w' hs hI h0 hd K2 hK
            obtain ⟨xs, rfl, hC, hW⟩ := hI
            have hK2 := Lib.hid hK
            have hC2 := Lib.hid hC
            clear hd hK hC h0
            go_simp
            exact hK2.out _ _ ⟨updV xs 0 (.slice (some ⟨b, 0, none⟩) 3 3), by simp [updV], cond_set hC2.out (fun _ _ h => h) (CV.of rfl rfl), hW.keep (by decide) (by decide) (by decide) (by decide)⟩
          · intro listed a w' hs hI h0 hd K2 hK
            obtain ⟨xs, rfl, hC, hW⟩ := hI
            have hK2 := Lib.hid hK
            have hC2 := Lib.hid hC
            clear hd hK hC h0
            go_simp
            exact hK2.out _ _ ⟨updV xs 1 (.pointer (some ⟨b7, 1, none⟩)), by simp [updV], cond_set hC2.out (fun _ _ h => h) (CV.of rfl rfl), hW.keep (by decide) (by decide) (by decide) (by decide)⟩
          · intro listed a w' hs hI h0 hd K2 hK
            obtain ⟨xs, rfl, hC, hW⟩ := hI
            have e1 : xs 1 = .pointer (some ⟨b7, 1, none⟩) := (hC 1 (hd ⟨1, .data⟩ (by simp) rfl)) _ rfl
            have hK2 := Lib.hid hK
            have hC2 := Lib.hid hC
            have q9 := hW.blkTyp hbx9 (by decide) hn9
            have c9 := (blk_facts q9).1 1
            clear hd hK hC h0
            go_simp
            exact hK2.out _ _ ⟨updV xs 2 (.int .i64 (↑p + 1)), by simp [updV, e1], cond_set hC2.out (fun _ _ h => h) (CV.of rfl rfl), hW.keep (by decide) (by decide) (by decide) (by decide)⟩
          · intro listed a w' hs hI h0 hd K2 hK
            obtain ⟨xs, rfl, hC, hW⟩ := hI
            have e2 : xs 2 = .int .i64 (↑p + 1) := (hC 2 (hd ⟨2, .data⟩ (by simp) rfl)) _ rfl
            have hK2 := Lib.hid hK
            have hC2 := Lib.hid hC
            clear hd hK hC h0
            go_simp
            exact hK2.out _ _ ⟨updV xs 3 (.int .i64 ↑p), by simp [updV, e2], cond_set hC2.out (fun _ _ h => h) (CV.of rfl rfl), hW.keep (by decide) (by decide) (by decide) (by decide)⟩
          · intro listed a w' hs hI h0 hd K2 hK
            obtain ⟨xs, rfl, hC, hW⟩ := hI
            have hK2 := Lib.hid hK
            have hC2 := Lib.hid hC
            clear hd hK hC h0
            go_simp
            exact hK2.out _ _ ⟨updV xs 4 (.slice (some ⟨b, 0, none⟩) 3 3), by simp [updV], cond_set hC2.out (fun _ _ h => h) (CV.of rfl rfl), hW.keep (by decide) (by decide) (by decide) (by decide)⟩
          · intro listed a w' hs hI h0 hd K2 hK
            obtain ⟨xs, rfl, hC, hW⟩ := hI
            have hK2 := Lib.hid hK
            have hC2 := Lib.hid hC
            clear hd hK hC h0
            go_simp
            exact hK2.out _ _ ⟨updV xs 5 (.pointer (some ⟨b7, 1, none⟩)), by simp [updV], cond_set hC2.out (fun _ _ h => h) (CV.of rfl rfl), hW.keep (by decide) (by decide) (by decide) (by decide)⟩
          · intro listed a w' hs hI h0 hd K2 hK
            obtain ⟨xs, rfl, hC, hW⟩ := hI
            have e5 : xs 5 = .pointer (some ⟨b7, 1, none⟩) := (hC 5 (hd ⟨5, .data⟩ (by simp) rfl)) _ rfl
            have hK2 := Lib.hid hK
            have hC2 := Lib.hid hC
            have q9 := hW.blkTyp hbx9 (by decide) hn9
            have c9 := (blk_facts q9).1 1
            clear hd hK hC h0
            go_simp
            exact hK2.out _ _ ⟨updV xs 6 (.int .i64 (↑p + 1)), by simp [updV, e5], cond_set hC2.out (fun _ _ h => h) (CV.of rfl rfl), hW.keep (by decide) (by decide) (by decide) (by decide)⟩
          · intro listed a w' hs hI h0 hd K2 hK
            obtain ⟨xs, rfl, hC, hW⟩ := hI
            have e6 : xs 6 = .int .i64 (↑p + 1) := (hC 6 (hd ⟨6, .data⟩ (by simp) rfl)) _ rfl
            have hK2 := Lib.hid hK
            have hC2 := Lib.hid hC
            clear hd hK hC h0
            go_simp
            exact hK2.out _ _ ⟨updV xs 7 (.int .i64 ↑p), by simp [updV, e6], cond_set hC2.out (fun _ _ h => h) (CV.of rfl rfl), hW.keep (by decide) (by decide) (by decide) (by decide)⟩
          · intro listed a w' hs hI h0 hd K2 hK
            obtain ⟨xs, rfl, hC, hW⟩ := hI
            have e4 : xs 4 = .slice (some ⟨b, 0, none⟩) 3 3 := (hC 4 (hd ⟨4, .data⟩ (by simp) rfl)) _ rfl
            have e7 : xs 7 = .int .i64 ↑p := (hC 7 (hd ⟨7, .data⟩ (by simp) rfl)) _ rfl
            have hK2 := Lib.hid hK
            have hC2 := Lib.hid hC
            clear hd hK hC h0
            go_simp
            exact hK2.out _ _ ⟨updV xs 8 (.pointer (some ⟨b, p, none⟩)), by simp [updV, e4, e7], cond_set hC2.out (fun _ _ h => h) (CV.of rfl rfl), hW.keep (by decide) (by decide) (by decide) (by decide)⟩
          · intro listed a w' hs hI h0 hd K2 hK
            obtain ⟨xs, rfl, hC, hW⟩ := hI
            have e8 : xs 8 = .pointer (some ⟨b, p, none⟩) := (hC 8 (hd ⟨8, .data⟩ (by simp) rfl)) _ rfl
            have hK2 := Lib.hid hK
            have hC2 := Lib.hid hC
            have B9 := hW.below h0
            have c9 : w'.cell? ⟨b, p, none⟩ = some (.slice yA yl.length yc) := (B9.cell (p := ⟨b, p, none⟩) lb9).trans cy9
            have hU9 := Lib.hid (hW.row h0 (Below.refl _ _) (v := .slice yA yl.length yc) (own_below (K9.hts.own p _ hy'.out) B9) (by decide) (by decide) (by decide))
            clear hd hK hC h0
            go_simp
            exact hK2.out _ _ ⟨updV xs 9 (.slice yA yl.length yc), by simp [updV, e8], cond_set hC2.out (fun _ _ h => h) (CV.of rfl rfl), hU9.out⟩
          · intro listed a w' hs hI h0 hd K2 hK
            obtain ⟨xs, rfl, hC, hW⟩ := hI
            have hK2 := Lib.hid hK
            have hC2 := Lib.hid hC
            clear hd hK hC h0
            go_simp
            exact hK2.out _ _ ⟨updV xs 10 (.pointer (some ⟨b7, 0, none⟩)), by simp [updV], cond_set hC2.out (fun _ _ h => h) (CV.of rfl rfl), hW.keep (by decide) (by decide) (by decide) (by decide)⟩
          · intro listed a w' hs hI h0 hd K2 hK
            obtain ⟨xs, rfl, hC, hW⟩ := hI
            have e10 : xs 10 = .pointer (some ⟨b7, 0, none⟩) := (hC 10 (hd ⟨10, .data⟩ (by simp) rfl)) _ rfl
            have hK2 := Lib.hid hK
            have hC2 := Lib.hid hC
            have q9 := hW.blkTyp hbx9 (by decide) hn9
            have c9 := (blk_facts q9).1 0
            clear hd hK hC h0
            go_simp
            exact hK2.out _ _ ⟨updV xs 11 (.string who), by simp [updV, e10], cond_set hC2.out (fun _ _ h => h) (CV.of rfl rfl), hW.keep (by decide) (by decide) (by decide) (by decide)⟩
          · intro listed a w' hs hI h0 hd K2 hK
            obtain ⟨xs, rfl, hC, hW⟩ := hI
            have e11 : xs 11 = .string who := (hC 11 (hd ⟨11, .data⟩ (by simp) rfl)) _ rfl
            have hK2 := Lib.hid hK
            have hC2 := Lib.hid hC
            have hL9 := Lib.hid (hW.lay h0 (by decide) (by decide) (by decide))
            clear hd hK hC h0
            go_simp
            exact hK2.out _ _ ⟨updV xs 12 (.slice (some ⟨w'.heap.size, 0, none⟩) 1 1), by simp [updV, e11], cond_set hC2.out (fun _ _ h => h) (CV.free rfl), hL9.out⟩
          · intro listed a w' hs hI h0 hd K2 hK
            obtain ⟨xs, rfl, hC, hW⟩ := hI
            have e9 : xs 9 = .slice yA yl.length yc := (hC 9 (hd ⟨9, .data⟩ (by simp) rfl)) _ rfl
            have hK2 := Lib.hid hK
            have hC2 := Lib.hid hC
            obtain ⟨o9, B9, z9, q9, hz9, hnx⟩ := hW.app h0 (hd ⟨9, .data⟩ (by simp) rfl) (hd ⟨12, .data⟩ (by simp) rfl) (by decide) (by decide) (by decide)
            rw [e9] at o9 hnx
            have hnx' := Lib.hid hnx
            clear hd hK hC hnx
            refine step_append_lies _ rfl (.tmp 25) (.tmp 28) 97 (by rfl) _ 9 i0_ _ 1 16 Tryz.underlying97 hi0 hz0 hz1 hz2 (by rfl) (by omega) _ _ _ (by show xs 9 = _; exact e9) o9 _ 1 1 ([.string who]) (by show xs 12 = _; exact q9) rfl (World.news_of_block hz9) (by simp [Value.oneCell']) (by omega) (by unfold maxLen; omega) (by omega) (Nat.le_trans hz9' B9.size) _ rfl ?_
            intro g cap w2 ho hg hat hlt
            clear h0
            exact hK2.out _ _ ⟨updV xs 13 (.slice (some ⟨g, 0, none⟩) ((yl.length) + 1) cap), by first | rfl | simp [updV, Act.put], cond_set hC2.out (fun _ _ h => h) (CV.free rfl), hnx'.out g cap w2 ho hg hat⟩
          · intro listed a w' hs hI h0 hd K2 hK
            obtain ⟨xs, rfl, hC, hW⟩ := hI
            have e0 : xs 0 = .slice (some ⟨b, 0, none⟩) 3 3 := (hC 0 (hd ⟨0, .data⟩ (by simp) rfl)) _ rfl
            have e3 : xs 3 = .int .i64 ↑p := (hC 3 (hd ⟨3, .data⟩ (by simp) rfl)) _ rfl
            have hK2 := Lib.hid hK
            have hC2 := Lib.hid hC
            clear hd hK hC h0
            go_simp
            exact hK2.out _ _ ⟨updV xs 14 (.pointer (some ⟨b, p, none⟩)), by simp [updV, e0, e3], cond_set hC2.out (fun _ _ h => h) (CV.of rfl rfl), hW.keep (by decide) (by decide) (by decide) (by decide)⟩
          · intro listed a w' hs hI h0 hd K2 hK
            obtain ⟨xs, rfl, hC, hW⟩ := hI
            have e14 : xs 14 = .pointer (some ⟨b, p, none⟩) := (hC 14 (hd ⟨14, .data⟩ (by simp) rfl)) _ rfl
            have hK2 := Lib.hid hK
            have hC2 := Lib.hid hC
            obtain ⟨w1, g, cap, b1, b2, b3, b4, hnx⟩ := hW.store h0 (hd ⟨13, .data⟩ (by simp) rfl) (by decide) (by decide) (by decide)
            have K1 := K9.below b1
            have r9 := blk_grown K1.hts.row b3 (fun e => own_neH b2 K1.hts.row (by decide) e.symm)
            have f9 := (blk_facts r9).2 p
            have c9 : w'.cell? ⟨b, p, none⟩ = some (.slice yA yl.length yc) := by rw [(blk_facts r9).1 p]; simp [hy'.out, hbE]
            clear r9 K1
            have hnx' := Lib.hid hnx
            clear hd hK hC h0
            go_simp
            exact hK2.out _ _ ⟨updV xs 15 (undef), by simp [updV, e14, b4], cond_set hC2.out (fun _ _ h => h) (CV.free rfl), hnx'.out _⟩
        case he =>
          intro listed a w' hs hI hr
          obtain ⟨xs, rfl, hC, hW⟩ := hI
          have hal := all_listed hs hr ⟨rfl, rfl, rfl, rfl, rfl, rfl, rfl, rfl, rfl, rfl, rfl, rfl, rfl, rfl, rfl, rfl, trivial⟩
          have e0 : xs 0 = .slice (some ⟨b, 0, none⟩) 3 3 := (hC 0 (hal 0 (by simp))) _ rfl
          have e1 : xs 1 = .pointer (some ⟨b7, 1, none⟩) := (hC 1 (hal 1 (by simp))) _ rfl
          have e2 : xs 2 = .int .i64 (↑p + 1) := (hC 2 (hal 2 (by simp))) _ rfl
          have e3 : xs 3 = .int .i64 ↑p := (hC 3 (hal 3 (by simp))) _ rfl
          have e4 : xs 4 = .slice (some ⟨b, 0, none⟩) 3 3 := (hC 4 (hal 4 (by simp))) _ rfl
          have e5 : xs 5 = .pointer (some ⟨b7, 1, none⟩) := (hC 5 (hal 5 (by simp))) _ rfl
          have e6 : xs 6 = .int .i64 (↑p + 1) := (hC 6 (hal 6 (by simp))) _ rfl
          have e7 : xs 7 = .int .i64 ↑p := (hC 7 (hal 7 (by simp))) _ rfl
          have e8 : xs 8 = .pointer (some ⟨b, p, none⟩) := (hC 8 (hal 8 (by simp))) _ rfl
          have e9 : xs 9 = .slice yA yl.length yc := (hC 9 (hal 9 (by simp))) _ rfl
          have e10 : xs 10 = .pointer (some ⟨b7, 0, none⟩) := (hC 10 (hal 10 (by simp))) _ rfl
          have e11 : xs 11 = .string who := (hC 11 (hal 11 (by simp))) _ rfl
          have e14 : xs 14 = .pointer (some ⟨b, p, none⟩) := (hC 14 (hal 14 (by simp))) _ rfl
          obtain ⟨w1, w2, g, cap, b1, b2, b3, b4, b5, b6, b7⟩ := hW.done (hal 13 (by simp)) (hal 15 (by simp))
          clear hC hs hr hal hW
          rw [e9] at b5 b6
          have K1 := (K9.below b1).app (s := who) hy'.out b4 b5 b6
          subst b7
          try dsimp only
          have hmp := map_push (s := who) hy'.out (some ⟨g, 0, none⟩) cap
          have hL9 := hLk'.out ⟨some ⟨g, 0, none⟩, cap, yl ++ [who]⟩ (by simp)
          rw [← hmp] at hM2
          clear b1 b2 b3 b4 b5 b6 hmp K9 cy9 lb9 hbx9 hi0 hz0 hz1 hz2 hLk' hy'
          generalize w2.setCell ⟨b, p, none⟩ (.slice (some ⟨g, 0, none⟩) (yl.length + 1) cap) = w8 at *
          go_wp2
          go_roundw
          case rel => exact ⟨k + 1, _, by omega, by go_num, K1, by rw [List.length_set]; exact hL3, hL9, hM2⟩
          case measure => simp [intOf]; omega
    · obtain rfl : k = n := by omega
      have hMf : L.map Hb.l = ML := by
        have h9 := hM.out
        rw [drop_end (by rw [hll.out]; exact Nat.le_refl _), medGo_nil] at h9
        exact h9
      go_wp2
      go_ret
      exact ⟨_, rfl, ⟨b, L, rfl, K.zb, K.hts, hMf, hL3, fun y hy => by have := hLk y hy; omega⟩, K.bel⟩
set_option maxHeartbeats 6400000 in
set_option maxRecDepth 100000 in
theorem medals_c (A : Option Addr) (n c : Nat) (l : List Rk) (w : World) (h : RRk w A n l) :
    Calls Tryz.prog 43 #[.slice A n c] w fun e w' => (rkErr l ≠ 0 ∧ e = .returned (.tuple #[.slice none 0 0, .int .i64 (rkErr l)]) ∧ Below w.heap.size w w') ∨ (rkErr l = 0 ∧ ∃ A', e = .returned (.tuple #[.slice A' 3 3, .int .i64 0]) ∧ RMed w' w.heap.size A' (medL l) ∧ Below w.heap.size w w') := by
  have hll := Lib.hid h.len
  have hmk := Lib.hid (fun W => show (Instr.makeSlice 100 (.int .i64 3) (.int .i64 3)).run Tryz.prog W = .ok (.slice (some ⟨W.heap.size, 0, none⟩) 3 3) (W.alloc (.cells (Array.replicate 3 (.slice none 0 0)) 97)) from mk_rowsH 3 (by omega) W)
  have hM0 : Hid (medGo (l.drop 0) ((List.replicate 3 (⟨none, 0, []⟩ : Hb)).map Hb.l) = medL l) := Lib.hid rfl
  generalize medL l = ML at *
  have hCF := Lib.hid (checkRankedA_c A n c l w h)
  by_cases h0 : rkErr l = 0
  rotate_left
  · have hd : (rkErr l != 0) = true := by simpa using h0
    have hg := Lib.hid h0
    generalize rkErr l = E at *
    clear h0 h hll hmk
    go_enter Tryz.func43, Tryz.ntmps43
    go_wp2_with fail
    refine hCF.out.mono ?_; rintro e w2 ⟨rfl, B2⟩
    go_wp2
    go_ret2
    exact .inl ⟨hg.out, rfl, B2⟩
  have hn : n ≤ 300 := by have := (rkErr_all h0).1; have := h.len; omega
  have h0' := Lib.hid h0
  rw [h0] at hCF
  clear h0
  go_enter Tryz.func43, Tryz.ntmps43
  go_wp2_with fail
  refine hCF.out.mono ?_; rintro e w2 ⟨rfl, B2⟩
  clear hCF
  have hmk1 := hmk.out w2
  have hts0 : Hts w.heap.size w2.heap.size (List.replicate 3 ⟨none, 0, []⟩) (w2.alloc (.cells (Array.replicate 3 (.slice none 0 0)) 97)) := Hts.start 3 (heap_alloc_new _ _)
  have K0 : Dr w w2.heap.size (fun _ => True) (List.replicate 3 ⟨none, 0, []⟩) (w2.alloc (.cells (Array.replicate 3 (.slice none 0 0)) 97)) := ⟨hts0, trivial, fun _ _ _ _ => trivial, B2.alloc B2.size _, B2.size⟩
  clear hts0 hmk
  go_wp2_with fail
  generalize w2.alloc (.cells (Array.replicate 3 (.slice none 0 0)) 97) = w3 at *
  generalize w2.heap.size = b at *
  go_loopw [16] (fun i wr => ∃ (k : Nat) (L : List Hb), k ≤ n ∧ i = .int .i64 k ∧ Dr w b (fun _ => True) L wr ∧ L.length = 3 ∧ (∀ y ∈ L, y.l.length ≤ k) ∧ Hid (medGo (l.drop k) (L.map Hb.l) = ML)) (fun i _ => n - (intOf i).toNat)
  case atStart => exact ⟨0, _, Nat.zero_le _, rfl, K0, rfl, (fun y hy => by obtain ⟨_, rfl⟩ := List.mem_replicate.1 hy; exact Nat.le_refl _), hM0⟩
  case round =>
    clear K0 hM0
    rename World => wr
    obtain ⟨k, L, hk, rfl, K, hL3, hLk, hM⟩ := hrel
    by_cases hlt : k < n
    · obtain ⟨b1, off1, x, rfl, hbl1, hx, c0, c1, c2, c3⟩ := RRk.at4 (h.below K.bel) hlt
      have hMa := Lib.hid (medGo_at (L.map Hb.l) hx)
      obtain ⟨who, rank, time, fault⟩ := x
      dsimp only at *
      clear hx
      have hbx := heap_alloc_new wr (.cells #[.string who, .int .i64 rank, .int .i64 time, .int .i64 fault] 48)
      have K5 := K.below (below_new wr (.cells #[.string who, .int .i64 rank, .int .i64 time, .int .i64 fault] 48))
      have z1 := (blk_facts hbx).1 1
      have hn9 : wr.heap.size ≠ b := by have := lt_of_heap K.hts.row; omega
      clear K
      by_cases hr : 1 ≤ rank ∧ rank ≤ 3
      rotate_left
      · have hd : decide (1 ≤ rank ∧ rank ≤ 3) = false := decide_eq_false hr
        have hM2 := Lib.hid (show medGo (l.drop (k + 1)) (L.map Hb.l) = ML by rw [← hM.out, hMa.out, if_neg hr])
        clear hM hMa hr
        go_wp2_with fail
        refine (within_c _ _ _ _).mono ?_; rintro e w6 ⟨rfl, rfl⟩
        rw [hd]
        clear hd z1 c0 c1 c2 c3
        go_wp2
        go_roundw
        case rel => exact ⟨k + 1, L, by omega, by go_num, K5, hL3, (fun y hy => by have := hLk y hy; omega), hM2⟩
        case measure => simp [intOf]; omega
      · have hd : decide (1 ≤ rank ∧ rank ≤ 3) = true := decide_eq_true hr
        have hM2 := Lib.hid (show medGo (l.drop (k + 1)) (pushH (rank - 1).toNat who (L.map Hb.l)) = ML by rw [← hM.out, hMa.out, if_pos hr])
        go_wp2_with fail
        refine (within_c _ _ _ _).mono ?_; rintro e w6 ⟨rfl, rfl⟩
        rw [hd]
        obtain ⟨p, rfl⟩ : ∃ p : Nat, rank = (p : Int) + 1 := ⟨(rank - 1).toNat, by omega⟩
        rw [show ((p : Int) + 1 - 1).toNat = p by omega] at hM2
        clear hd z1 c0 c1 c2 c3 hM hMa
        have i0 : (0 : Int) ≤ (p : Int) := by omega
        have i1 : (p : Int) < 3 := by omega
        have k8 : IntKind.i64.wrap (p : Int) = (p : Int) := IntWalk.i64_in _ (by omega)
        have k9 : IntKind.i64.wrap ((p : Int) + 1 - 1) = (p : Int) := by rw [show (p : Int) + 1 - 1 = (p : Int) by omega]; exact k8
        obtain ⟨y, hy⟩ := at_of_lt (l := L) (k := p) (by omega)
        have hyl : y.l.length ≤ 1000 := by have := hLk y (List.mem_of_getElem? hy); omega
        have hLk' := Lib.hid (fun z (hz : z.l.length = y.l.length + 1) => medPush_len (z := z) hy hLk hz)
        have hy' := Lib.hid hy
        obtain ⟨yA, yc, yl⟩ := y
        dsimp only at hyl hLk'
        clear hy hLk
        generalize wr.alloc (.cells #[.string who, .int .i64 ((p : Int) + 1), .int .i64 time, .int .i64 fault] 48) = wA at *
        generalize wr.heap.size = b7 at *
        go_wp2_with fail
        have K9 := K5.below (below_drewN (Below.refl _ _) 1)
        have hbx9 : wA.drew.heap[b7]? = some (.cells #[.string who, .int .i64 ((p : Int) + 1), .int .i64 time, .int .i64 fault] 48 (0, 0)) := hbx
        have cy9 := K9.hts.cell hy'.out
        dsimp only [hbE] at cy9
        have lb9 := lt_of_heap K9.hts.row
        have hz9' := K9.bel.size
        obtain ⟨i0_, hi0, hz0, hz1, hz2⟩ := info_parts info_strH
        refine wp_region_inv (by kernel_rfl) (fun listed a w' => ∃ xs : Nat → Value, a = { tmps := #[.slice (some ⟨b1, off1, none⟩) n c, undef, .slice none 0 0, .int .i64 0, .int .i64 0, .slice (some ⟨b, 0, none⟩) 3 3, undef, .pointer (some ⟨b7, 0, none⟩), .slice (some ⟨b1, off1, none⟩) n c, .int .i64 0, .int .i64 0, .bool false, undef, .slice (some ⟨b, 0, none⟩) 3 3, .slice (some ⟨b1, off1, none⟩) n c, .int .i64 ↑n, .int .i64 ↑k, .bool true, .pointer (some ⟨b1, off1 + k * 4, none⟩), .agg #[.string who, .int .i64 (↑p + 1), .int .i64 time, .int .i64 fault], .pointer (some ⟨b7, 1, none⟩), .int .i64 (↑p + 1), .bool true, xs 0, xs 1, xs 2, xs 3, xs 4, xs 5, xs 6, xs 7, xs 8, xs 9, xs 10, xs 11, xs 12, xs 13, xs 14, u38, undef], defers := [] } ∧ (∀ j, listed.getD j false = true → CV [some (.slice (some ⟨b, 0, none⟩) 3 3), some (.pointer (some ⟨b7, 1, none⟩)), some (.int .i64 (↑p + 1)), some (.int .i64 ↑p), some (.slice (some ⟨b, 0, none⟩) 3 3), some (.pointer (some ⟨b7, 1, none⟩)), some (.int .i64 (↑p + 1)), some (.int .i64 ↑p), some (.pointer (some ⟨b, p, none⟩)), some (.slice yA yl.length yc), some (.pointer (some ⟨b7, 0, none⟩)), some (.string who), none, none, some (.pointer (some ⟨b, p, none⟩)), none] j w' (xs j)) ∧ ApSt (w.heap.size) 9 1 (yl.length) (strsH yl) ([.string who]) (wA.drew) 9 12 13 15 ⟨b, p, none⟩ listed xs w') ?h0 (AllOps.of ?hs) ?he
        case h0 => exact ⟨fun j => match j with | 0 => u23 | 1 => u24 | 2 => u25 | 3 => u26 | 4 => u27 | 5 => u28 | 6 => u29 | 7 => u30 | 8 => u31 | 9 => u32 | 10 => u33 | 11 => u34 | 12 => u35 | 13 => u36 | 14 => u37 | _ => undef, rfl, (fun j hj => by rw [rep_falseA] at hj; cases hj), ApSt.start⟩
        case hs =>
          refine ⟨?_, ?_, ?_, ?_, ?_, ?_, ?_, ?_, ?_, ?_, ?_, ?_, ?_, ?_, ?_, ?_, trivial⟩
          · intro listed a w' hs hI h0 hd K2 hK
            obtain ⟨xs, rfl, hC, hW⟩ := hI
            have hK2 := Lib.hid hK
            have hC2 := Lib.hid hC
            clear hd hK hC h0
            go_simp
            exact hK2.out _ _ ⟨updV xs 0 (.slice (some ⟨b, 0, none⟩) 3 3), by simp [updV], cond_set hC2.out (fun _ _ h => h) (CV.of rfl rfl), hW.keep (by decide) (by decide) (by decide) (by decide)⟩
          · intro listed a w' hs hI h0 hd K2 hK
            obtain ⟨xs, rfl, hC, hW⟩ := hI
            have hK2 := Lib.hid hK
            have hC2 := Lib.hid hC
            clear hd hK hC h0
            go_simp
            exact hK2.out _ _ ⟨updV xs 1 (.pointer (some ⟨b7, 1, none⟩)), by simp [updV], cond_set hC2.out (fun _ _ h => h) (CV.of rfl rfl), hW.keep (by decide) (by decide) (by decide) (by decide)⟩
          · intro listed a w' hs hI h0 hd K2 hK
            obtain ⟨xs, rfl, hC, hW⟩ := hI
            have e1 : xs 1 = .pointer (some ⟨b7, 1, none⟩) := (hC 1 (hd ⟨1, .data⟩ (by simp) rfl)) _ rfl
            have hK2 := Lib.hid hK
            have hC2 := Lib.hid hC
            have q9 := hW.blkTyp hbx9 (by decide) hn9
            have c9 := (blk_facts q9).1 1
            clear hd hK hC h0
            go_simp
            exact hK2.out _ _ ⟨updV xs 2 (.int .i64 (↑p + 1)), by simp [updV, e1], cond_set hC2.out (fun _ _ h => h) (CV.of rfl rfl), hW.keep (by decide) (by decide) (by decide) (by decide)⟩
          · intro listed a w' hs hI h0 hd K2 hK
            obtain ⟨xs, rfl, hC, hW⟩ := hI
            have e2 : xs 2 = .int .i64 (↑p + 1) := (hC 2 (hd ⟨2, .data⟩ (by simp) rfl)) _ rfl
            have hK2 := Lib.hid hK
            have hC2 := Lib.hid hC
            clear hd hK hC h0
            go_simp
            exact hK2.out _ _ ⟨updV xs 3 (.int .i64 ↑p), by simp [updV, e2], cond_set hC2.out (fun _ _ h => h) (CV.of rfl rfl), hW.keep (by decide) (by decide) (by decide) (by decide)⟩
          · intro listed a w' hs hI h0 hd K2 hK
            obtain ⟨xs, rfl, hC, hW⟩ := hI
            have hK2 := Lib.hid hK
            have hC2 := Lib.hid hC
            clear hd hK hC h0
            go_simp
            exact hK2.out _ _ ⟨updV xs 4 (.slice (some ⟨b, 0, none⟩) 3 3), by simp [updV], cond_set hC2.out (fun _ _ h => h) (CV.of rfl rfl), hW.keep (by decide) (by decide) (by decide) (by decide)⟩
          · intro listed a w' hs hI h0 hd K2 hK
            obtain ⟨xs, rfl, hC, hW⟩ := hI
            have hK2 := Lib.hid hK
            have hC2 := Lib.hid hC
            clear hd hK hC h0
            go_simp
            exact hK2.out _ _ ⟨updV xs 5 (.pointer (some ⟨b7, 1, none⟩)), by simp [updV], cond_set hC2.out (fun _ _ h => h) (CV.of rfl rfl), hW.keep (by decide) (by decide) (by decide) (by decide)⟩
          · intro listed a w' hs hI h0 hd K2 hK
            obtain ⟨xs, rfl, hC, hW⟩ := hI
            have e5 : xs 5 = .pointer (some ⟨b7, 1, none⟩) := (hC 5 (hd ⟨5, .data⟩ (by simp) rfl)) _ rfl
            have hK2 := Lib.hid hK
            have hC2 := Lib.hid hC
            have q9 := hW.blkTyp hbx9 (by decide) hn9
            have c9 := (blk_facts q9).1 1
            clear hd hK hC h0
            go_simp
            exact hK2.out _ _ ⟨updV xs 6 (.int .i64 (↑p + 1)), by simp [updV, e5], cond_set hC2.out (fun _ _ h => h) (CV.of rfl rfl), hW.keep (by decide) (by decide) (by decide) (by decide)⟩
          · intro listed a w' hs hI h0 hd K2 hK
            obtain ⟨xs, rfl, hC, hW⟩ := hI
            have e6 : xs 6 = .int .i64 (↑p + 1) := (hC 6 (hd ⟨6, .data⟩ (by simp) rfl)) _ rfl
            have hK2 := Lib.hid hK
            have hC2 := Lib.hid hC
            clear hd hK hC h0
            go_simp
            exact hK2.out _ _ ⟨updV xs 7 (.int .i64 ↑p), by simp [updV, e6], cond_set hC2.out (fun _ _ h => h) (CV.of rfl rfl), hW.keep (by decide) (by decide) (by decide) (by decide)⟩
          · intro listed a w' hs hI h0 hd K2 hK
            obtain ⟨xs, rfl, hC, hW⟩ := hI
            have e4 : xs 4 = .slice (some ⟨b, 0, none⟩) 3 3 := (hC 4 (hd ⟨4, .data⟩ (by simp) rfl)) _ rfl
            have e7 : xs 7 = .int .i64 ↑p := (hC 7 (hd ⟨7, .data⟩ (by simp) rfl)) _ rfl
            have hK2 := Lib.hid hK
            have hC2 := Lib.hid hC
            clear hd hK hC h0
            go_simp
            exact hK2.out _ _ ⟨updV xs 8 (.pointer (some ⟨b, p, none⟩)), by simp [updV, e4, e7], cond_set hC2.out (fun _ _ h => h) (CV.of rfl rfl), hW.keep (by decide) (by decide) (by decide) (by decide)⟩
          · intro listed a w' hs hI h0 hd K2 hK
            obtain ⟨xs, rfl, hC, hW⟩ := hI
            have e8 : xs 8 = .pointer (some ⟨b, p, none⟩) := (hC 8 (hd ⟨8, .data⟩ (by simp) rfl)) _ rfl
            have hK2 := Lib.hid hK
            have hC2 := Lib.hid hC
            have B9 := hW.below h0
            have c9 : w'.cell? ⟨b, p, none⟩ = some (.slice yA yl.length yc) := (B9.cell (p := ⟨b, p, none⟩) lb9).trans cy9
            have hU9 := Lib.hid (hW.row h0 (Below.refl _ _) (v := .slice yA yl.length yc) (own_below (K9.hts.own p _ hy'.out) B9) (by decide) (by decide) (by decide))
            clear hd hK hC h0
            go_simp
            exact hK2.out _ _ ⟨updV xs 9 (.slice yA yl.length yc), by simp [updV, e8], cond_set hC2.out (fun _ _ h => h) (CV.of rfl rfl), hU9.out⟩
          · intro listed a w' hs hI h0 hd K2 hK
            obtain ⟨xs, rfl, hC, hW⟩ := hI
            have hK2 := Lib.hid hK
            have hC2 := Lib.hid hC
            clear hd hK hC h0
            go_simp
            exact hK2.out _ _ ⟨updV xs 10 (.pointer (some ⟨b7, 0, none⟩)), by simp [updV], cond_set hC2.out (fun _ _ h => h) (CV.of rfl rfl), hW.keep (by decide) (by decide) (by decide) (by decide)⟩
          · intro listed a w' hs hI h0 hd K2 hK
            obtain ⟨xs, rfl, hC, hW⟩ := hI
            have e10 : xs 10 = .pointer (some ⟨b7, 0, none⟩) := (hC 10 (hd ⟨10, .data⟩ (by simp) rfl)) _ rfl
            have hK2 := Lib.hid hK
            have hC2 := Lib.hid hC
            have q9 := hW.blkTyp hbx9 (by decide) hn9
            have c9 := (blk_facts q9).1 0
            clear hd hK hC h0
            go_simp
            exact hK2.out _ _ ⟨updV xs 11 (.string who), by simp [updV, e10], cond_set hC2.out (fun _ _ h => h) (CV.of rfl rfl), hW.keep (by decide) (by decide) (by decide) (by decide)⟩
          · intro listed a w' hs hI h0 hd K2 hK
            obtain ⟨xs, rfl, hC, hW⟩ := hI
            have e11 : xs 11 = .string who := (hC 11 (hd ⟨11, .data⟩ (by simp) rfl)) _ rfl
            have hK2 := Lib.hid hK
            have hC2 := Lib.hid hC
            have hL9 := Lib.hid (hW.lay h0 (by decide) (by decide) (by decide))
            clear hd hK hC h0
            go_simp
            exact hK2.out _ _ ⟨updV xs 12 (.slice (some ⟨w'.heap.size, 0, none⟩) 1 1), by simp [updV, e11], cond_set hC2.out (fun _ _ h => h) (CV.free rfl), hL9.out⟩
          · intro listed a w' hs hI h0 hd K2 hK
            obtain ⟨xs, rfl, hC, hW⟩ := hI
            have e9 : xs 9 = .slice yA yl.length yc := (hC 9 (hd ⟨9, .data⟩ (by simp) rfl)) _ rfl
            have hK2 := Lib.hid hK
            have hC2 := Lib.hid hC
            obtain ⟨o9, B9, z9, q9, hz9, hnx⟩ := hW.app h0 (hd ⟨9, .data⟩ (by simp) rfl) (hd ⟨12, .data⟩ (by simp) rfl) (by decide) (by decide) (by decide)
            rw [e9] at o9 hnx
            have hnx' := Lib.hid hnx
            clear hd hK hC hnx
            refine step_append_lies _ rfl (.tmp 32) (.tmp 35) 97 (by rfl) _ 9 i0_ _ 1 16 Tryz.underlying97 hi0 hz0 hz1 hz2 (by rfl) (by omega) _ _ _ (by show xs 9 = _; exact e9) o9 _ 1 1 ([.string who]) (by show xs 12 = _; exact q9) rfl (World.news_of_block hz9) (by simp [Value.oneCell']) (by omega) (by unfold maxLen; omega) (by omega) (Nat.le_trans hz9' B9.size) _ rfl ?_
            intro g cap w2 ho hg hat hlt
            clear h0
            exact hK2.out _ _ ⟨updV xs 13 (.slice (some ⟨g, 0, none⟩) ((yl.length) + 1) cap), by first | rfl | simp [updV, Act.put], cond_set hC2.out (fun _ _ h => h) (CV.free rfl), hnx'.out g cap w2 ho hg hat⟩
          · intro listed a w' hs hI h0 hd K2 hK
            obtain ⟨xs, rfl, hC, hW⟩ := hI
            have e0 : xs 0 = .slice (some ⟨b, 0, none⟩) 3 3 := (hC 0 (hd ⟨0, .data⟩ (by simp) rfl)) _ rfl
            have e3 : xs 3 = .int .i64 ↑p := (hC 3 (hd ⟨3, .data⟩ (by simp) rfl)) _ rfl
            have hK2 := Lib.hid hK
            have hC2 := Lib.hid hC
            clear hd hK hC h0
            go_simp
            exact hK2.out _ _ ⟨updV xs 14 (.pointer (some ⟨b, p, none⟩)), by simp [updV, e0, e3], cond_set hC2.out (fun _ _ h => h) (CV.of rfl rfl), hW.keep (by decide) (by decide) (by decide) (by decide)⟩
          · intro listed a w' hs hI h0 hd K2 hK
            obtain ⟨xs, rfl, hC, hW⟩ := hI
            have e14 : xs 14 = .pointer (some ⟨b, p, none⟩) := (hC 14 (hd ⟨14, .data⟩ (by simp) rfl)) _ rfl
            have hK2 := Lib.hid hK
            have hC2 := Lib.hid hC
            obtain ⟨w1, g, cap, b1, b2, b3, b4, hnx⟩ := hW.store h0 (hd ⟨13, .data⟩ (by simp) rfl) (by decide) (by decide) (by decide)
            have K1 := K9.below b1
            have r9 := blk_grown K1.hts.row b3 (fun e => own_neH b2 K1.hts.row (by decide) e.symm)
            have f9 := (blk_facts r9).2 p
            have c9 : w'.cell? ⟨b, p, none⟩ = some (.slice yA yl.length yc) := by rw [(blk_facts r9).1 p]; simp [hy'.out, hbE]
            clear r9 K1
            have hnx' := Lib.hid hnx
            clear hd hK hC h0
            go_simp
            exact hK2.out _ _ ⟨updV xs 15 (undef), by simp [updV, e14, b4], cond_set hC2.out (fun _ _ h => h) (CV.free rfl), hnx'.out _⟩
        case he =>
          intro listed a w' hs hI hr
          obtain ⟨xs, rfl, hC, hW⟩ := hI
          have hal := all_listed hs hr ⟨rfl, rfl, rfl, rfl, rfl, rfl, rfl, rfl, rfl, rfl, rfl, rfl, rfl, rfl, rfl, rfl, trivial⟩
          have e0 : xs 0 = .slice (some ⟨b, 0, none⟩) 3 3 := (hC 0 (hal 0 (by simp))) _ rfl
          have e1 : xs 1 = .pointer (some ⟨b7, 1, none⟩) := (hC 1 (hal 1 (by simp))) _ rfl
          have e2 : xs 2 = .int .i64 (↑p + 1) := (hC 2 (hal 2 (by simp))) _ rfl
          have e3 : xs 3 = .int .i64 ↑p := (hC 3 (hal 3 (by simp))) _ rfl
          have e4 : xs 4 = .slice (some ⟨b, 0, none⟩) 3 3 := (hC 4 (hal 4 (by simp))) _ rfl
          have e5 : xs 5 = .pointer (some ⟨b7, 1, none⟩) := (hC 5 (hal 5 (by simp))) _ rfl
          have e6 : xs 6 = .int .i64 (↑p + 1) := (hC 6 (hal 6 (by simp))) _ rfl
          have e7 : xs 7 = .int .i64 ↑p := (hC 7 (hal 7 (by simp))) _ rfl
          have e8 : xs 8 = .pointer (some ⟨b, p, none⟩) := (hC 8 (hal 8 (by simp))) _ rfl
          have e9 : xs 9 = .slice yA yl.length yc := (hC 9 (hal 9 (by simp))) _ rfl
          have e10 : xs 10 = .pointer (some ⟨b7, 0, none⟩) := (hC 10 (hal 10 (by simp))) _ rfl
          have e11 : xs 11 = .string who := (hC 11 (hal 11 (by simp))) _ rfl
          have e14 : xs 14 = .pointer (some ⟨b, p, none⟩) := (hC 14 (hal 14 (by simp))) _ rfl
          obtain ⟨w1, w2, g, cap, b1, b2, b3, b4, b5, b6, b7⟩ := hW.done (hal 13 (by simp)) (hal 15 (by simp))
          clear hC hs hr hal hW
          rw [e9] at b5 b6
          have K1 := (K9.below b1).app (s := who) hy'.out b4 b5 b6
          subst b7
          try dsimp only
          have hmp := map_push (s := who) hy'.out (some ⟨g, 0, none⟩) cap
          have hL9 := hLk'.out ⟨some ⟨g, 0, none⟩, cap, yl ++ [who]⟩ (by simp)
          rw [← hmp] at hM2
          clear b1 b2 b3 b4 b5 b6 hmp K9 cy9 lb9 hbx9 hi0 hz0 hz1 hz2 hLk' hy'
          generalize w2.setCell ⟨b, p, none⟩ (.slice (some ⟨g, 0, none⟩) (yl.length + 1) cap) = w8 at *
          go_wp2
          go_roundw
          case rel => exact ⟨k + 1, _, by omega, by go_num, K1, by rw [List.length_set]; exact hL3, hL9, hM2⟩
          case measure => simp [intOf]; omega
    · obtain rfl : k = n := by omega
      have hMf : L.map Hb.l = ML := by
        have h9 := hM.out
        rw [drop_end (by rw [hll.out]; exact Nat.le_refl _), medGo_nil] at h9
        exact h9
      go_wp2
      go_ret2
      exact .inr ⟨h0'.out, _, rfl, ⟨b, L, rfl, K.zb, K.hts, hMf, hL3, fun y hy => by have := hLk y hy; omega⟩, K.bel⟩
end Go.Proofs.YtklggnglaeagpaaGreatDoor

/- MedalsGiven: Medals, Moved, Text and Read of ranks answer as the reference says: the walk. -/
namespace Go.Proofs.YtklggnglaeagpaaGreatDoor
open Go.RowKit Go.Lib
set_option linter.unusedVariables false

theorem mx_of_shape {W : World} (h : W.ShapedOpen Tryz.prog) : Mx W := Tryz.laysM145.s1_3 W h
theorem RMed.nx {w : World} {base : Nat} {A : Option Addr} {ML : List (List ByteArray)} (h : RMed w base A ML) : ∃ N : List Nx, RNx w A 3 N ∧ N.map Nx.ids = ML := by
  obtain ⟨b, L, rfl, hb, hts, hm, hl, hk⟩ := h
  refine ⟨L.map fun x => ⟨x.A, x.c, x.l⟩, ⟨⟨by rw [List.length_map]; exact hl, by omega, fun hp => ⟨b, 0, _, _, rfl, hts.row, fun k x hx i u hu => ?_⟩⟩, fun x hx => ?_⟩, by rw [List.map_map]; exact hm⟩
  · rw [List.getElem?_map] at hx
    cases hy : L[k]? with
    | none => rw [hy] at hx; cases hx
    | some y =>
      rw [hy] at hx
      obtain rfl := Option.some.inj hx
      cases i with
      | zero =>
        obtain rfl : (.slice y.A y.l.length y.c : Value) = u := by simpa [nxE] using hu
        simp [hy, hbE]
      | succ i => simp [nxE] at hu
  · obtain ⟨y, hy, rfl⟩ := List.mem_map.1 hx
    obtain ⟨i, hi⟩ := List.mem_iff_getElem?.1 hy
    have hyl := hk y hy
    refine ⟨hts.rs hi (by omega), fun hA => ?_⟩
    have ho := hts.own i y hi
    dsimp only at hA
    rcases ho.2 with ⟨h9, _⟩ | ⟨g9, cap, cur, hv9, _⟩
    · unfold hbE at h9; injection h9
    · unfold hbE at hv9; injection hv9 with hv9; rw [hA] at hv9; cases hv9
/-- judge.Text of any ranks -/
theorem textAny_c (A : Option Addr) (n c : Nat) (l : List Rk) (w : World) (h : RRk w A n l) (hT : Tb w) : Calls Tryz.prog 103 #[.slice A n c] w fun e w' => e = .returned (.tuple #[.string (if rkErr l = 0 then ⟨(rkText l).toArray⟩ else ⟨#[]⟩), .int .i64 (rkErr l)]) ∧ Below w.heap.size w w' := by
  by_cases h0 : rkErr l = 0
  · rw [if_pos h0, h0]
    obtain ⟨h1, h2, _⟩ := rkErr_all h0
    have := rkText_len l h2
    exact rkTextR_c A n c l w h hT (by omega) (fun x hx => rk1_wr (h2 x hx)) h0
  · rw [if_neg h0]
    have hCF := Lib.hid (checkRankedA_c A n c l w h)
    have hd : (rkErr l != 0) = true := by simpa using h0
    generalize rkErr l = E at *
    clear h0 h hT
    go_enter Tryz.func103, Tryz.ntmps103
    go_wp2_with fail
    refine hCF.out.mono ?_; rintro e w2 ⟨rfl, B2⟩
    go_wp2
    go_ret2
    exact ⟨rfl, B2⟩
structure K59 (w : World) (zs : Zs) (k : Nat) (A : Option Addr) (n : Nat) (l1 : List Rk) (B : Option Addr) (m : Nat) (l2 : List Rk) (wx : World) : Prop where
  r1 : RRk wx A n l1
  r2 : RRk wx B m l2
  st : St wx w.heap.size zs k
  bel : Below w.heap.size w wx
theorem K59.below {w wx w' : World} {zs : Zs} {k n m : Nat} {A B : Option Addr} {l1 l2 : List Rk} (h : K59 w zs k A n l1 B m l2 wx) (hb : Below wx.heap.size wx w') : K59 w zs k A n l1 B m l2 w' := ⟨h.r1.below hb, h.r2.below hb, h.st.below hb, below_next h.bel hb⟩
theorem RRk.nil0 (v : World) : RRk v none 0 [] := ⟨rfl, by omega, fun hp => absurd hp (by omega)⟩
set_option maxHeartbeats 12800000 in
set_option maxRecDepth 100000 in
theorem medalsGiven_walk (a0 : Option Addr) (len0 cap0 : Nat) (z0 : List Int) (w : World) (w0 : IsRow .i64 w a0 len0 cap0 z0) (hmx : Mx w) (htab : Tb w) (hex : Ex w) (her : Er w) :
    Calls Tryz.prog 9 #[.slice a0 len0 cap0] w fun e w' => e = .returned (.bool true) ∧ Below w.heap.size w w' := by
  have hs := law_start w0
  clear w0
  generalize Zs.mk (z0.take len0) w.heap.size = zs at *
  have hB1 := below_new w (.cells #[.slice a0 len0 cap0, .int .i64 0] 25)
  have hSS := Lib.hid (fun k (W : World) (h : St W w.heap.size zs k) (hk : k + 30000 ≤ 1099511627776) (hb : Below w.heap.size w W) => rankString_c w.heap.size zs k W w h hk htab hb (Nat.le_refl _))
  have hRL := Lib.hid (fun k (W : World) (h : St W w.heap.size zs k) (hk : k + 20000 ≤ 1099511627776) (hb : Below w.heap.size w W) => rankedList_c w.heap.size zs k W w h hk htab hb (Nat.le_refl _))
  have hTb := Lib.hid (fun W (B : Below w.heap.size w W) => htab.below B)
  have hEx := Lib.hid (fun W (B : Below w.heap.size w W) => hex.below B)
  have hEr := Lib.hid (fun W (B : Below w.heap.size w W) => her.below B)
  have hMx := Lib.hid (fun W (B : Below w.heap.size w W) => hmx.below B)
  clear hmx htab hex her
  go_enter Tryz.func9, Tryz.ntmps9
  go_wp2_with fail
  refine (hRL.out 0 _ hs (by omega) hB1).mono ?_; rintro e w1 ⟨A, n, c, l1, k1, rfl, ho1, hl1, hn, s1, hk1, g1⟩
  have hB1' := hB1.trans (grown_below g1 (Nat.le_refl _) hB1.size)
  have rs1 : RRk w1 A n l1 := RN.of_own rkE_len ho1 hl1 (by omega)
  have hAn := Lib.hid (show A = none → c = 0 from fun e => by
    rcases own_cap ho1 rfl with ⟨_, _, h⟩ | ⟨b, h, _⟩
    · exact h
    · rw [e] at h; cases h)
  clear ho1 hl1 hs hB1 g1
  go_wp2_with fail
  refine (hRL.out k1 _ s1 (by omega) hB1').mono ?_; rintro e w2 ⟨B, m, d, l2, k2, rfl, ho2, hl2, hm, s2, hk2, g2⟩
  have hB2 := hB1'.trans (grown_below g2 (Nat.le_refl _) hB1'.size)
  have rs2 : RRk w2 B m l2 := RN.of_own rkE_len ho2 hl2 (by omega)
  have hBn := Lib.hid (show B = none → d = 0 from fun e => by
    rcases own_cap ho2 rfl with ⟨_, _, h⟩ | ⟨b, h, _⟩
    · exact h
    · rw [e] at h; cases h)
  have K2 : K59 w zs k2 A n l1 B m l2 w2 := ⟨rs1.keep (T := 25) (by decide) (s1.keep g2), rs2, s2, hB2⟩
  clear ho2 hl2 rs1 rs2 s1 s2 g2 hB1' hB2 hRL
  have hF1 := Lib.hid (fun W (K : K59 w zs k2 A n l1 B m l2 W) => rankedFaultA_c A n c l1 W K.r1)
  have hF2 := Lib.hid (fun W (K : K59 w zs k2 A n l1 B m l2 W) => rankedFaultA_c B m d l2 W K.r2)
  have hMe := Lib.hid (fun W (K : K59 w zs k2 A n l1 B m l2 W) => medals_c A n c l1 W K.r1)
  have hMo := Lib.hid (fun W (K : K59 w zs k2 A n l1 B m l2 W) => medalsOf_c A n c l1 W K.r1 (by omega))
  have hMv := Lib.hid (fun W (K : K59 w zs k2 A n l1 B m l2 W) => movedA_c A B n c m d l1 l2 W K.r1 K.r2 hAn.out hBn.out (hTb.out _ K.bel))
  have hMr := Lib.hid (fun W (K : K59 w zs k2 A n l1 B m l2 W) h1 h2 => movedOf_c A B n c m d l1 l2 W K.r1 K.r2 hAn.out hBn.out (hTb.out _ K.bel) h1 h2)
  have hTx := Lib.hid (fun W (K : K59 w zs k2 A n l1 B m l2 W) => textAny_c A n c l1 W K.r1 (hTb.out _ K.bel))
  have hLn := Lib.hid (fun W (K : K59 w zs k2 A n l1 B m l2 W) (h0 : rkErr l1 = 0) => rankLines_c A n c l1 W K.r1 (hTb.out _ K.bel) (by have := rkText_len l1 (rkErr_all h0).2.1; have := K.r1.len; omega) (fun x hx => rk1_wr ((rkErr_all h0).2.1 x hx)))
  have hSame := Lib.hid (fun (h1 : rkErr l1 = 0) (h2 : rkErr l2 = 0) o1 o2 (p1 : PrSorted (mvP (lastK (l1 ++ l2)) l1 l2) o1) (p2 : PrSorted (mvR (lastK (l1 ++ l2)) l1 l2) o2) => mv_same (rkErr_all h1).2.2 (rkErr_all h2).2.2 (fun x hx => ⟨(rk1_all ((rkErr_all h1).2.1 x hx)).2.1.1, (lastF_ge (l1 ++ l2) 1).2 x (List.mem_append_left _ hx)⟩) (fun x hx => ⟨(rk1_all ((rkErr_all h2).2.1 x hx)).2.1.1, (lastF_ge (l1 ++ l2) 1).2 x (List.mem_append_right _ hx)⟩) p1 p2)
  unfold RetMv at hMv
  have hKb : ∀ wx w', K59 w zs k2 A n l1 B m l2 wx → Below wx.heap.size wx w' → K59 w zs k2 A n l1 B m l2 w' := fun _ _ h hb => h.below hb
  have hKB : ∀ wx, K59 w zs k2 A n l1 B m l2 wx → Below w.heap.size w wx := fun _ h => h.bel
  have hKs : ∀ wx, K59 w zs k2 A n l1 B m l2 wx → St wx w.heap.size zs k2 := fun _ h => h.st
  generalize K59 w zs k2 A n l1 B m l2 = KK at *
  generalize lastK (l1 ++ l2) = TL at *
  clear hAn hBn
  go_wp2_with fail
  refine (hF1.out _ K2).mono ?_; rintro e w3 ⟨rfl, B3⟩
  have K3 := hKb _ _ K2 B3
  clear K2 B3 hF1
  --WAYS
  by_cases h1 : rkErr l1 = 0
  rotate_left
  · have b0 : (rkErr l1 != rkErr l1) = false := by simp
    have b1 : (rkErr l1 == 0) = false := beq_eq_false_iff_ne.2 h1
    have b2 : (rkErr l1 != 0) = true := by simpa using h1
    have h1' := Lib.hid h1
    have hTx1 := Lib.hid (fun W K => hTx.out W K)
    rw [if_neg h1] at hTx1
    clear hTx hLn hSame hMo hMr
    generalize rkErr l1 = E1 at *
    generalize rkErr l2 = E2 at *
    clear h1
    go_wp2_with fail
    refine (hMe.out _ K3).mono ?_; rintro e w4 (⟨_, rfl, B4⟩ | ⟨h, _⟩)
    rotate_left
    · exact absurd h h1'.out
    have K4 := hKb _ _ K3 B4
    clear K3 B4 hMe
    go_wp2_with fail
    refine (hMv.out _ K4).mono ?_; rintro e w5 ⟨B5, ⟨_, rfl⟩ | ⟨h, _⟩ | ⟨h, _⟩⟩
    rotate_left
    · exact absurd h h1'.out
    · exact absurd h h1'.out
    have K5 := hKb _ _ K4 B5
    clear K4 B5 hMv
    go_wp2_with fail
    refine (hF2.out _ K5).mono ?_; rintro e w6 ⟨rfl, B6⟩
    have K6 := hKb _ _ K5 B6
    clear K5 B6 hF2
    go_wp2_with fail
    refine (orE_c _ _ _ [E1, E2] _ (R1.litAt _ _ _ [_, _] (by first | rfl | simp) rfl (by simp))).mono ?_; rintro e wN ⟨rfl, rfl⟩
    rw [orV_two, if_pos h1'.out]
    have K7 := hKb _ _ K6 (below_new w6 (.cells #[.int .i64 E1, .int .i64 E2] 30))
    clear K6
    go_wp2_with fail
    refine (hTx1.out _ K7).mono ?_; rintro e w8 ⟨rfl, B8⟩
    have K8 := hKb _ _ K7 B8
    clear K7 B8 hTx1
    have hSS9 := Lib.hid (hSS.out k2 _ (hKs _ K8) (by omega) (hKB _ K8))
    unfold RetSt at hSS9
    have hB9 := hKB _ K8
    clear K8
    go_wp2_with fail
    refine hSS9.out.mono ?_; rintro e w10 ⟨t, k10, rfl, ht, s10, _, g10⟩
    have hB10 := hB9.trans (grown_below g10 (Nat.le_refl _) hB9.size)
    have hRd := Lib.hid (readRkT_c t w10 (by omega) (hMx.out _ hB10))
    clear hSS9 s10 g10 hB9 hSS
    go_wp2_with fail
    refine hRd.out.mono ?_; rintro e w11 hrd
    obtain ⟨A9, n9, c9, i9, E9, l9, rfl, _, B11, _⟩ := rf_one RRk.nil0 hrd
    have hrd' := Lib.hid hrd
    have hB11 := below_next hB10 B11
    have hRd2 := Lib.hid (refReadRk_c t w11 (by omega) (hMx.out _ hB11) (hTb.out _ hB11) (hEx.out _ hB11) (hEr.out _ hB11))
    clear hRd hB10 B11 hrd
    go_wp2_with fail
    refine hRd2.out.mono ?_; rintro e w12 hrd2
    obtain ⟨A8, n8, c8, l8, rfl, q1, q2, B12⟩ := rf_two RRk.nil0 hrd'.out hrd2
    have hB12 := below_next hB11 B12
    have hEq := Lib.hid (equalRk_c A9 A8 n9 c9 n8 c8 l8 l8 w12 (q1.below B12) q2)
    rw [decide_eq_true (rfl : l8 = l8)] at hEq
    have b8 : (E9 == E9) = true := by simp
    have b9 : (i9 == i9) = true := by simp
    clear hRd2 hrd' hrd2 q1 q2 B12 hB11
    go_wp2_with fail
    refine hEq.out.mono ?_; rintro e w13 ⟨rfl, q13, rfl⟩
    have hB13 := below_drewN hB12 q13
    clear hEq hB12
    go_wp2_with fail
    refine (judged_c _).mono ?_; rintro e wM ⟨rfl, BM⟩
    have hB := below_next hB13 BM
    go_wp2
    go_ret
    exact ⟨rfl, hB⟩
  rw [h1] at hMe hMv hTx
  simp only [if_pos] at hTx
  have hMo1 := Lib.hid (fun W K => hMo.out W K)
  have hLn1 := Lib.hid (fun W K => hLn.out W K h1)
  have bT : ((⟨(rkText l1).toArray⟩ : ByteArray).toList == (⟨(rkText l1).toArray⟩ : ByteArray).toList) = true := beq_self_eq_true _
  clear hMo hLn
  rw [h1]
  generalize (⟨(rkText l1).toArray⟩ : ByteArray) = T1 at *
  go_wp2_with fail
  refine (hMe.out _ K3).mono ?_; rintro e w4 (⟨h, _⟩ | ⟨_, AM, rfl, hm1, B4⟩)
  · exact absurd rfl h
  have K4 := hKb _ _ K3 B4
  clear K3 B4 hMe
  go_wp2_with fail
  refine (hMo1.out _ K4).mono ?_; rintro e w4b ⟨AO, rfl, hm2, B4b⟩
  obtain ⟨N1, hx1, hi1⟩ := hm1.nx
  obtain ⟨N2, hx2, hi2⟩ := hm2.nx
  have hEf := Lib.hid (equalNx_c AM AO 3 3 3 3 N1 N2 w4b (hx1.below B4b) hx2 (hi1.trans hi2.symm))
  have K4b := hKb _ _ K4 B4b
  clear K4 B4b hMo1 hm1 hm2 hx1 hx2 hi1 hi2
  go_wp2_with fail
  refine hEf.out.mono ?_; rintro e w4c ⟨rfl, B4c⟩
  have K4c := hKb _ _ K4b B4c
  clear K4b B4c hEf

  by_cases h2 : rkErr l2 = 0
  rotate_left
  · have b0 : (rkErr l2 != rkErr l2) = false := by simp
    have b1 : (rkErr l2 == 0) = false := beq_eq_false_iff_ne.2 h2
    have b2 : (rkErr l2 != 0) = true := by simpa using h2
    have h2' := Lib.hid h2
    clear hSame hMr
    generalize rkErr l2 = E2 at *
    clear h2
    go_wp2_with fail
    refine (hMv.out _ K4c).mono ?_; rintro e w5 ⟨B5, ⟨h, _⟩ | ⟨_, _, rfl⟩ | ⟨_, h, _⟩⟩
    · exact absurd rfl h
    rotate_left
    · exact absurd h h2'.out
    have K5 := hKb _ _ K4c B5
    clear K4c B5 hMv
    go_wp2_with fail
    refine (hF2.out _ K5).mono ?_; rintro e w6 ⟨rfl, B6⟩
    have K6 := hKb _ _ K5 B6
    clear K5 B6 hF2
    go_wp2_with fail
    refine (orE_c _ _ _ [0, E2] _ (R1.litAt _ _ _ [_, _] (by first | rfl | simp) rfl (by simp))).mono ?_; rintro e wN ⟨rfl, rfl⟩
    rw [orV_two, if_neg (by simp)]
    have K7 := hKb _ _ K6 (below_new w6 (.cells #[.int .i64 0, .int .i64 E2] 30))
    clear K6
    go_wp2_with fail
    refine (hTx.out _ K7).mono ?_; rintro e w8 ⟨rfl, B8⟩
    have K8 := hKb _ _ K7 B8
    clear K7 B8 hTx
    go_wp2_with fail
    refine (hLn1.out _ K8).mono ?_; rintro e w9 ⟨rfl, B9⟩
    have K9 := hKb _ _ K8 B9
    clear K8 B9 hLn1
    have hSS9 := Lib.hid (hSS.out k2 _ (hKs _ K9) (by omega) (hKB _ K9))
    unfold RetSt at hSS9
    have hB9 := hKB _ K9
    clear K9
    go_wp2_with fail
    refine hSS9.out.mono ?_; rintro e w10 ⟨t, k10, rfl, ht, s10, _, g10⟩
    have hB10 := hB9.trans (grown_below g10 (Nat.le_refl _) hB9.size)
    have hRd := Lib.hid (readRkT_c t w10 (by omega) (hMx.out _ hB10))
    clear hSS9 s10 g10 hB9 hSS
    go_wp2_with fail
    refine hRd.out.mono ?_; rintro e w11 hrd
    obtain ⟨A9, n9, c9, i9, E9, l9, rfl, _, B11, _⟩ := rf_one RRk.nil0 hrd
    have hrd' := Lib.hid hrd
    have hB11 := below_next hB10 B11
    have hRd2 := Lib.hid (refReadRk_c t w11 (by omega) (hMx.out _ hB11) (hTb.out _ hB11) (hEx.out _ hB11) (hEr.out _ hB11))
    clear hRd hB10 B11 hrd
    go_wp2_with fail
    refine hRd2.out.mono ?_; rintro e w12 hrd2
    obtain ⟨A8, n8, c8, l8, rfl, q1, q2, B12⟩ := rf_two RRk.nil0 hrd'.out hrd2
    have hB12 := below_next hB11 B12
    have hEq := Lib.hid (equalRk_c A9 A8 n9 c9 n8 c8 l8 l8 w12 (q1.below B12) q2)
    rw [decide_eq_true (rfl : l8 = l8)] at hEq
    have b8 : (E9 == E9) = true := by simp
    have b9 : (i9 == i9) = true := by simp
    clear hRd2 hrd' hrd2 q1 q2 B12 hB11
    go_wp2_with fail
    refine hEq.out.mono ?_; rintro e w13 ⟨rfl, q13, rfl⟩
    have hB13 := below_drewN hB12 q13
    clear hEq hB12
    go_wp2_with fail
    refine (judged_c _).mono ?_; rintro e wM ⟨rfl, BM⟩
    have hB := below_next hB13 BM
    go_wp2
    go_ret
    exact ⟨rfl, hB⟩
  · rw [h2] at hMv hF2
    have hMr1 := Lib.hid (fun W K => hMr.out W K h1 h2)
    have hSame1 := Lib.hid (fun o1 o2 p1 p2 => hSame.out h1 h2 o1 o2 p1 p2)
    clear hSame hMr
    go_wp2_with fail
    refine (hMv.out _ K4c).mono ?_; rintro e w5 ⟨B5, ⟨h, _⟩ | ⟨_, h, _⟩ | ⟨_, _, A5, n5, c5, o1, rfl, hp1, hs1⟩⟩
    · exact absurd rfl h
    · exact absurd rfl h
    have K5 := hKb _ _ K4c B5
    clear K4c B5 hMv
    go_wp2_with fail
    refine (hF2.out _ K5).mono ?_; rintro e w6 ⟨rfl, B6⟩
    have K6 := hKb _ _ K5 B6
    have hp6 := hp1.below B6
    clear K5 B6 hF2 hp1
    go_wp2_with fail
    refine (orE_c _ _ _ [0, 0] _ (R1.litAt _ _ _ [_, _] (by first | rfl | simp) rfl (by simp))).mono ?_; rintro e wN ⟨rfl, rfl⟩
    rw [orV_two, if_neg (by simp)]
    have K7 := hKb _ _ K6 (below_new w6 (.cells #[.int .i64 0, .int .i64 0] 30))
    have hp7 := hp6.below (below_new w6 (.cells #[.int .i64 0, .int .i64 0] 30))
    clear K6 hp6
    go_wp2_with fail
    refine (hMr1.out _ K7).mono ?_; rintro e w7 ⟨A6, n6, c6, o2, rfl, hp2, hs2, B7⟩
    obtain rfl := hSame1.out o1 o2 hs1 hs2
    have hEp := Lib.hid (equalPr_c A5 A6 n5 c5 n6 c6 o1 o1 w7 (hp7.below B7) hp2)
    rw [decide_eq_true (rfl : o1 = o1)] at hEp
    have K7b := hKb _ _ K7 B7
    clear K7 B7 hMr1 hSame1 hp7 hp2 hs1 hs2
    go_wp2_with fail
    refine hEp.out.mono ?_; rintro e w7c ⟨rfl, q7, rfl⟩
    have K7c := hKb _ _ K7b (below_drewN (Below.refl _ _) q7)
    clear K7b hEp
    go_wp2_with fail
    refine (hTx.out _ K7c).mono ?_; rintro e w8 ⟨rfl, B8⟩
    have K8 := hKb _ _ K7c B8
    clear K7c B8 hTx
    go_wp2_with fail
    refine (hLn1.out _ K8).mono ?_; rintro e w9 ⟨rfl, B9⟩
    have K9 := hKb _ _ K8 B9
    clear K8 B9 hLn1
    have hSS9 := Lib.hid (hSS.out k2 _ (hKs _ K9) (by omega) (hKB _ K9))
    unfold RetSt at hSS9
    have hB9 := hKB _ K9
    clear K9
    go_wp2_with fail
    refine hSS9.out.mono ?_; rintro e w10 ⟨t, k10, rfl, ht, s10, _, g10⟩
    have hB10 := hB9.trans (grown_below g10 (Nat.le_refl _) hB9.size)
    have hRd := Lib.hid (readRkT_c t w10 (by omega) (hMx.out _ hB10))
    clear hSS9 s10 g10 hB9 hSS
    go_wp2_with fail
    refine hRd.out.mono ?_; rintro e w11 hrd
    obtain ⟨A9, n9, c9, i9, E9, l9, rfl, _, B11, _⟩ := rf_one RRk.nil0 hrd
    have hrd' := Lib.hid hrd
    have hB11 := below_next hB10 B11
    have hRd2 := Lib.hid (refReadRk_c t w11 (by omega) (hMx.out _ hB11) (hTb.out _ hB11) (hEx.out _ hB11) (hEr.out _ hB11))
    clear hRd hB10 B11 hrd
    go_wp2_with fail
    refine hRd2.out.mono ?_; rintro e w12 hrd2
    obtain ⟨A8, n8, c8, l8, rfl, q1, q2, B12⟩ := rf_two RRk.nil0 hrd'.out hrd2
    have hB12 := below_next hB11 B12
    have hEq := Lib.hid (equalRk_c A9 A8 n9 c9 n8 c8 l8 l8 w12 (q1.below B12) q2)
    rw [decide_eq_true (rfl : l8 = l8)] at hEq
    have b8 : (E9 == E9) = true := by simp
    have b9 : (i9 == i9) = true := by simp
    clear hRd2 hrd' hrd2 q1 q2 B12 hB11
    go_wp2_with fail
    refine hEq.out.mono ?_; rintro e w13 ⟨rfl, q13, rfl⟩
    have hB13 := below_drewN hB12 q13
    clear hEq hB12
    go_wp2_with fail
    refine (judged_c _).mono ?_; rintro e wM ⟨rfl, BM⟩
    have hB := below_next hB13 BM
    go_wp2
    go_ret
    exact ⟨rfl, hB⟩
end Go.Proofs.YtklggnglaeagpaaGreatDoor
