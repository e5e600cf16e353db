import Derived.Test.YtklggnglaeagpaaGreatDoorHtsB
import Derived.Test.YtklggnglaeagpaaGreatDoorVerdM
import Derived.Test.YtklggnglaeagpaaGreatDoorLens
import Derived.Deep.DeepCutAuto
/- judge.Medals and tumbref1.MedalsOf. Out of L59 (never in one closure with it). -/
namespace Go.Proofs.YtklggnglaeagpaaGreatDoor
open Go.RowKit Go.Lib
set_option linter.unusedVariables false

/-- who has which medal -/
def medGo : List Rk → List (List ByteArray) → List (List ByteArray)
  | [], H => H
  | x :: r, H => medGo r (if 1 ≤ x.rank ∧ x.rank ≤ 3 then pushH (x.rank - 1).toNat x.who H else H)
def medL (l : List Rk) : List (List ByteArray) := medGo l [[], [], []]
theorem medGo_at {l : List Rk} {k : Nat} {x : Rk} (H : List (List ByteArray)) (h : l[k]? = some x) : medGo (l.drop k) H = medGo (l.drop (k + 1)) (if 1 ≤ x.rank ∧ x.rank ≤ 3 then pushH (x.rank - 1).toNat x.who H else H) := by rw [drop_at h]; rfl
theorem medGo_nil (H : List (List ByteArray)) : medGo [] H = H := rfl
/-- the medals as they lie -/
def RMed (w : World) (base : Nat) (A : Option Addr) (ML : List (List ByteArray)) : Prop := ∃ (b : Nat) (L : List Hb), A = some ⟨b, 0, none⟩ ∧ base ≤ b ∧ Hts base b L w ∧ L.map Hb.l = ML ∧ L.length = 3 ∧ ∀ y ∈ L, y.l.length ≤ 300
theorem medPush_len {L : List Hb} {i k : Nat} {y z : Hb} (hy : L[i]? = some y) (h : ∀ y ∈ L, y.l.length ≤ k) (hz : z.l.length = y.l.length + 1) : ∀ u ∈ L.set i z, u.l.length ≤ k + 1 := fun u hu => by
  rcases List.mem_or_eq_of_mem_set hu with h9 | rfl
  · have := h u h9; omega
  · have := h y (List.mem_of_getElem? hy); omega
set_option maxHeartbeats 6400000 in
set_option maxRecDepth 100000 in
theorem medals_c (A : Option Addr) (n c : Nat) (l : List Rk) (w : World) (h : RRk w A n l) :
    Calls Tryz.prog 43 #[.slice A n c] w fun e w' => (rkErr l ≠ 0 ∧ e = .returned (.tuple #[.slice none 0 0, .int .i64 (rkErr l)]) ∧ Below w.heap.size w w') ∨ (rkErr l = 0 ∧ ∃ A', e = .returned (.tuple #[.slice A' 3 3, .int .i64 0]) ∧ RMed w' w.heap.size A' (medL l) ∧ Below w.heap.size w w') := by
  have hll := Lib.hid h.len
  have hmk := Lib.hid (fun W => show (Instr.makeSlice 100 (.int .i64 3) (.int .i64 3)).run Tryz.prog W = .ok (.slice (some ⟨W.heap.size, 0, none⟩) 3 3) (W.alloc (.cells (Array.replicate 3 (.slice none 0 0)) 97)) from mk_rowsH 3 (by omega) W)
  have hM0 : Hid (medGo (l.drop 0) ((List.replicate 3 (⟨none, 0, []⟩ : Hb)).map Hb.l) = medL l) := Lib.hid rfl
  generalize medL l = ML at *
  have hCF := Lib.hid (checkRankedA_c A n c l w h)
  by_cases h0 : rkErr l = 0
  rotate_left
  · have hd : (rkErr l != 0) = true := by simpa using h0
    have hg := Lib.hid h0
    generalize rkErr l = E at *
    clear h0 h hll hmk
    go_enter Tryz.func43, Tryz.ntmps43
    go_wp2_with fail
    refine hCF.out.mono ?_; rintro e w2 ⟨rfl, B2⟩
    go_wp2
    go_ret2
    exact .inl ⟨hg.out, rfl, B2⟩
  have hn : n ≤ 300 := by have := (rkErr_all h0).1; have := h.len; omega
  have h0' := Lib.hid h0
  rw [h0] at hCF
  clear h0
  go_enter Tryz.func43, Tryz.ntmps43
  go_wp2_with fail
  refine hCF.out.mono ?_; rintro e w2 ⟨rfl, B2⟩
  clear hCF
  have hmk1 := hmk.out w2
  have hts0 : Hts w.heap.size w2.heap.size (List.replicate 3 ⟨none, 0, []⟩) (w2.alloc (.cells (Array.replicate 3 (.slice none 0 0)) 97)) := Hts.start 3 (heap_alloc_new _ _)
  have K0 : Dr w w2.heap.size (fun _ => True) (List.replicate 3 ⟨none, 0, []⟩) (w2.alloc (.cells (Array.replicate 3 (.slice none 0 0)) 97)) := ⟨hts0, trivial, fun _ _ _ _ => trivial, B2.alloc B2.size _, B2.size⟩
  clear hts0 hmk
  go_wp2_with fail
  generalize w2.alloc (.cells (Array.replicate 3 (.slice none 0 0)) 97) = w3 at *
  generalize w2.heap.size = b at *
  go_loopw [16] (fun i wr => ∃ (k : Nat) (L : List Hb), k ≤ n ∧ i = .int .i64 k ∧ Dr w b (fun _ => True) L wr ∧ L.length = 3 ∧ (∀ y ∈ L, y.l.length ≤ k) ∧ Hid (medGo (l.drop k) (L.map Hb.l) = ML)) (fun i _ => n - (intOf i).toNat)
  case atStart => exact ⟨0, _, Nat.zero_le _, rfl, K0, rfl, (fun y hy => by obtain ⟨_, rfl⟩ := List.mem_replicate.1 hy; exact Nat.le_refl _), hM0⟩
  case round =>
    clear K0 hM0
    rename World => wr
    obtain ⟨k, L, hk, rfl, K, hL3, hLk, hM⟩ := hrel
    by_cases hlt : k < n
    · obtain ⟨b1, off1, x, rfl, hbl1, hx, c0, c1, c2, c3⟩ := RRk.at4 (h.below K.bel) hlt
      have hMa := Lib.hid (medGo_at (L.map Hb.l) hx)
      obtain ⟨who, rank, time, fault⟩ := x
      dsimp only at *
      clear hx
      have hbx := heap_alloc_new wr (.cells #[.string who, .int .i64 rank, .int .i64 time, .int .i64 fault] 48)
      have K5 := K.below (below_new wr (.cells #[.string who, .int .i64 rank, .int .i64 time, .int .i64 fault] 48))
      have z1 := (blk_facts hbx).1 1
      have hn9 : wr.heap.size ≠ b := by have := lt_of_heap K.hts.row; omega
      clear K
      by_cases hr : 1 ≤ rank ∧ rank ≤ 3
      rotate_left
      · have hd : decide (1 ≤ rank ∧ rank ≤ 3) = false := decide_eq_false hr
        have hM2 := Lib.hid (show medGo (l.drop (k + 1)) (L.map Hb.l) = ML by rw [← hM.out, hMa.out, if_neg hr])
        clear hM hMa hr
        go_wp2_with fail
        refine (within_c _ _ _ _).mono ?_; rintro e w6 ⟨rfl, rfl⟩
        rw [hd]
        clear hd z1 c0 c1 c2 c3
        go_wp2
        go_roundw
        case rel => exact ⟨k + 1, L, by omega, by go_num, K5, hL3, (fun y hy => by have := hLk y hy; omega), hM2⟩
        case measure => simp [intOf]; omega
      · have hd : decide (1 ≤ rank ∧ rank ≤ 3) = true := decide_eq_true hr
        have hM2 := Lib.hid (show medGo (l.drop (k + 1)) (pushH (rank - 1).toNat who (L.map Hb.l)) = ML by rw [← hM.out, hMa.out, if_pos hr])
        go_wp2_with fail
        refine (within_c _ _ _ _).mono ?_; rintro e w6 ⟨rfl, rfl⟩
        rw [hd]
        obtain ⟨p, rfl⟩ : ∃ p : Nat, rank = (p : Int) + 1 := ⟨(rank - 1).toNat, by omega⟩
        rw [show ((p : Int) + 1 - 1).toNat = p by omega] at hM2
        clear hd z1 c0 c1 c2 c3 hM hMa
        have i0 : (0 : Int) ≤ (p : Int) := by omega
        have i1 : (p : Int) < 3 := by omega
        have k8 : IntKind.i64.wrap (p : Int) = (p : Int) := IntWalk.i64_in _ (by omega)
        have k9 : IntKind.i64.wrap ((p : Int) + 1 - 1) = (p : Int) := by rw [show (p : Int) + 1 - 1 = (p : Int) by omega]; exact k8
        obtain ⟨y, hy⟩ := at_of_lt (l := L) (k := p) (by omega)
        have hyl : y.l.length ≤ 1000 := by have := hLk y (List.mem_of_getElem? hy); omega
        have hLk' := Lib.hid (fun z (hz : z.l.length = y.l.length + 1) => medPush_len (z := z) hy hLk hz)
        have hy' := Lib.hid hy
        obtain ⟨yA, yc, yl⟩ := y
        dsimp only at hyl hLk'
        clear hy hLk
        generalize wr.alloc (.cells #[.string who, .int .i64 ((p : Int) + 1), .int .i64 time, .int .i64 fault] 48) = wA at *
        generalize wr.heap.size = b7 at *
        go_wp2_with fail
        have K9 := K5.below (below_drewN (Below.refl _ _) 1)
        have hbx9 : wA.drew.heap[b7]? = some (.cells #[.string who, .int .i64 ((p : Int) + 1), .int .i64 time, .int .i64 fault] 48 (0, 0)) := hbx
        have cy9 := K9.hts.cell hy'.out
        dsimp only [hbE] at cy9
        have lb9 := lt_of_heap K9.hts.row
        have hz9' := K9.bel.size
        obtain ⟨i0_, hi0, hz0, hz1, hz2⟩ := info_parts info_strH
        refine wp_region_inv (by kernel_rfl) (fun listed a w' => ∃ xs : Nat → Value, a = { tmps := #[.slice (some ⟨b1, off1, none⟩) n c, undef, .slice none 0 0, .int .i64 0, .int .i64 0, .slice (some ⟨b, 0, none⟩) 3 3, undef, .pointer (some ⟨b7, 0, none⟩), .slice (some ⟨b1, off1, none⟩) n c, .int .i64 0, .int .i64 0, .bool false, undef, .slice (some ⟨b, 0, none⟩) 3 3, .slice (some ⟨b1, off1, none⟩) n c, .int .i64 ↑n, .int .i64 ↑k, .bool true, .pointer (some ⟨b1, off1 + k * 4, none⟩), .agg #[.string who, .int .i64 (↑p + 1), .int .i64 time, .int .i64 fault], .pointer (some ⟨b7, 1, none⟩), .int .i64 (↑p + 1), .bool true, xs 0, xs 1, xs 2, xs 3, xs 4, xs 5, xs 6, xs 7, xs 8, xs 9, xs 10, xs 11, xs 12, xs 13, xs 14, u38, undef], defers := [] } ∧ (∀ j, listed.getD j false = true → CV [some (.slice (some ⟨b, 0, none⟩) 3 3), some (.pointer (some ⟨b7, 1, none⟩)), some (.int .i64 (↑p + 1)), some (.int .i64 ↑p), some (.slice (some ⟨b, 0, none⟩) 3 3), some (.pointer (some ⟨b7, 1, none⟩)), some (.int .i64 (↑p + 1)), some (.int .i64 ↑p), some (.pointer (some ⟨b, p, none⟩)), some (.slice yA yl.length yc), some (.pointer (some ⟨b7, 0, none⟩)), some (.string who), none, none, some (.pointer (some ⟨b, p, none⟩)), none] j w' (xs j)) ∧ ApSt (w.heap.size) 9 1 (yl.length) (strsH yl) ([.string who]) (wA.drew) 9 12 13 15 ⟨b, p, none⟩ listed xs w') ?h0 (AllOps.of ?hs) ?he
        case h0 => exact ⟨fun j => match j with | 0 => u23 | 1 => u24 | 2 => u25 | 3 => u26 | 4 => u27 | 5 => u28 | 6 => u29 | 7 => u30 | 8 => u31 | 9 => u32 | 10 => u33 | 11 => u34 | 12 => u35 | 13 => u36 | 14 => u37 | _ => undef, rfl, (fun j hj => by rw [rep_falseA] at hj; cases hj), ApSt.start⟩
        case hs =>
          refine ⟨?_, ?_, ?_, ?_, ?_, ?_, ?_, ?_, ?_, ?_, ?_, ?_, ?_, ?_, ?_, ?_, trivial⟩
          · intro listed a w' hs hI h0 hd K2 hK
            obtain ⟨xs, rfl, hC, hW⟩ := hI
            have hK2 := Lib.hid hK
            have hC2 := Lib.hid hC
            clear hd hK hC h0
            go_simp
            exact hK2.out _ _ ⟨updV xs 0 (.slice (some ⟨b, 0, none⟩) 3 3), by simp [updV], cond_set hC2.out (fun _ _ h => h) (CV.of rfl rfl), hW.keep (by decide) (by decide) (by decide) (by decide)⟩
          · intro listed a w' hs hI h0 hd K2 hK
            obtain ⟨xs, rfl, hC, hW⟩ := hI
            have hK2 := Lib.hid hK
            have hC2 := Lib.hid hC
            clear hd hK hC h0
            go_simp
            exact hK2.out _ _ ⟨updV xs 1 (.pointer (some ⟨b7, 1, none⟩)), by simp [updV], cond_set hC2.out (fun _ _ h => h) (CV.of rfl rfl), hW.keep (by decide) (by decide) (by decide) (by decide)⟩
          · intro listed a w' hs hI h0 hd K2 hK
            obtain ⟨xs, rfl, hC, hW⟩ := hI
            have e1 : xs 1 = .pointer (some ⟨b7, 1, none⟩) := (hC 1 (hd ⟨1, .data⟩ (by simp) rfl)) _ rfl
            have hK2 := Lib.hid hK
            have hC2 := Lib.hid hC
            have q9 := hW.blkTyp hbx9 (by decide) hn9
            have c9 := (blk_facts q9).1 1
            clear hd hK hC h0
            go_simp
            exact hK2.out _ _ ⟨updV xs 2 (.int .i64 (↑p + 1)), by simp [updV, e1], cond_set hC2.out (fun _ _ h => h) (CV.of rfl rfl), hW.keep (by decide) (by decide) (by decide) (by decide)⟩
          · intro listed a w' hs hI h0 hd K2 hK
            obtain ⟨xs, rfl, hC, hW⟩ := hI
            have e2 : xs 2 = .int .i64 (↑p + 1) := (hC 2 (hd ⟨2, .data⟩ (by simp) rfl)) _ rfl
            have hK2 := Lib.hid hK
            have hC2 := Lib.hid hC
            clear hd hK hC h0
            go_simp
            exact hK2.out _ _ ⟨updV xs 3 (.int .i64 ↑p), by simp [updV, e2], cond_set hC2.out (fun _ _ h => h) (CV.of rfl rfl), hW.keep (by decide) (by decide) (by decide) (by decide)⟩
          · intro listed a w' hs hI h0 hd K2 hK
            obtain ⟨xs, rfl, hC, hW⟩ := hI
            have hK2 := Lib.hid hK
            have hC2 := Lib.hid hC
            clear hd hK hC h0
            go_simp
            exact hK2.out _ _ ⟨updV xs 4 (.slice (some ⟨b, 0, none⟩) 3 3), by simp [updV], cond_set hC2.out (fun _ _ h => h) (CV.of rfl rfl), hW.keep (by decide) (by decide) (by decide) (by decide)⟩
          · intro listed a w' hs hI h0 hd K2 hK
            obtain ⟨xs, rfl, hC, hW⟩ := hI
            have hK2 := Lib.hid hK
            have hC2 := Lib.hid hC
            clear hd hK hC h0
            go_simp
            exact hK2.out _ _ ⟨updV xs 5 (.pointer (some ⟨b7, 1, none⟩)), by simp [updV], cond_set hC2.out (fun _ _ h => h) (CV.of rfl rfl), hW.keep (by decide) (by decide) (by decide) (by decide)⟩
          · intro listed a w' hs hI h0 hd K2 hK
            obtain ⟨xs, rfl, hC, hW⟩ := hI
            have e5 : xs 5 = .pointer (some ⟨b7, 1, none⟩) := (hC 5 (hd ⟨5, .data⟩ (by simp) rfl)) _ rfl
            have hK2 := Lib.hid hK
            have hC2 := Lib.hid hC
            have q9 := hW.blkTyp hbx9 (by decide) hn9
            have c9 := (blk_facts q9).1 1
            clear hd hK hC h0
            go_simp
            exact hK2.out _ _ ⟨updV xs 6 (.int .i64 (↑p + 1)), by simp [updV, e5], cond_set hC2.out (fun _ _ h => h) (CV.of rfl rfl), hW.keep (by decide) (by decide) (by decide) (by decide)⟩
          · intro listed a w' hs hI h0 hd K2 hK
            obtain ⟨xs, rfl, hC, hW⟩ := hI
            have e6 : xs 6 = .int .i64 (↑p + 1) := (hC 6 (hd ⟨6, .data⟩ (by simp) rfl)) _ rfl
            have hK2 := Lib.hid hK
            have hC2 := Lib.hid hC
            clear hd hK hC h0
            go_simp
            exact hK2.out _ _ ⟨updV xs 7 (.int .i64 ↑p), by simp [updV, e6], cond_set hC2.out (fun _ _ h => h) (CV.of rfl rfl), hW.keep (by decide) (by decide) (by decide) (by decide)⟩
          · intro listed a w' hs hI h0 hd K2 hK
            obtain ⟨xs, rfl, hC, hW⟩ := hI
            have e4 : xs 4 = .slice (some ⟨b, 0, none⟩) 3 3 := (hC 4 (hd ⟨4, .data⟩ (by simp) rfl)) _ rfl
            have e7 : xs 7 = .int .i64 ↑p := (hC 7 (hd ⟨7, .data⟩ (by simp) rfl)) _ rfl
            have hK2 := Lib.hid hK
            have hC2 := Lib.hid hC
            clear hd hK hC h0
            go_simp
            exact hK2.out _ _ ⟨updV xs 8 (.pointer (some ⟨b, p, none⟩)), by simp [updV, e4, e7], cond_set hC2.out (fun _ _ h => h) (CV.of rfl rfl), hW.keep (by decide) (by decide) (by decide) (by decide)⟩
          · intro listed a w' hs hI h0 hd K2 hK
            obtain ⟨xs, rfl, hC, hW⟩ := hI
            have e8 : xs 8 = .pointer (some ⟨b, p, none⟩) := (hC 8 (hd ⟨8, .data⟩ (by simp) rfl)) _ rfl
            have hK2 := Lib.hid hK
            have hC2 := Lib.hid hC
            have B9 := hW.below h0
            have c9 : w'.cell? ⟨b, p, none⟩ = some (.slice yA yl.length yc) := (B9.cell (p := ⟨b, p, none⟩) lb9).trans cy9
            have hU9 := Lib.hid (hW.row h0 (Below.refl _ _) (v := .slice yA yl.length yc) (own_below (K9.hts.own p _ hy'.out) B9) (by decide) (by decide) (by decide))
            clear hd hK hC h0
            go_simp
            exact hK2.out _ _ ⟨updV xs 9 (.slice yA yl.length yc), by simp [updV, e8], cond_set hC2.out (fun _ _ h => h) (CV.of rfl rfl), hU9.out⟩
          · intro listed a w' hs hI h0 hd K2 hK
            obtain ⟨xs, rfl, hC, hW⟩ := hI
            have hK2 := Lib.hid hK
            have hC2 := Lib.hid hC
            clear hd hK hC h0
            go_simp
            exact hK2.out _ _ ⟨updV xs 10 (.pointer (some ⟨b7, 0, none⟩)), by simp [updV], cond_set hC2.out (fun _ _ h => h) (CV.of rfl rfl), hW.keep (by decide) (by decide) (by decide) (by decide)⟩
          · intro listed a w' hs hI h0 hd K2 hK
            obtain ⟨xs, rfl, hC, hW⟩ := hI
            have e10 : xs 10 = .pointer (some ⟨b7, 0, none⟩) := (hC 10 (hd ⟨10, .data⟩ (by simp) rfl)) _ rfl
            have hK2 := Lib.hid hK
            have hC2 := Lib.hid hC
            have q9 := hW.blkTyp hbx9 (by decide) hn9
            have c9 := (blk_facts q9).1 0
            clear hd hK hC h0
            go_simp
            exact hK2.out _ _ ⟨updV xs 11 (.string who), by simp [updV, e10], cond_set hC2.out (fun _ _ h => h) (CV.of rfl rfl), hW.keep (by decide) (by decide) (by decide) (by decide)⟩
          · intro listed a w' hs hI h0 hd K2 hK
            obtain ⟨xs, rfl, hC, hW⟩ := hI
            have e11 : xs 11 = .string who := (hC 11 (hd ⟨11, .data⟩ (by simp) rfl)) _ rfl
            have hK2 := Lib.hid hK
            have hC2 := Lib.hid hC
            have hL9 := Lib.hid (hW.lay h0 (by decide) (by decide) (by decide))
            clear hd hK hC h0
            go_simp
            exact hK2.out _ _ ⟨updV xs 12 (.slice (some ⟨w'.heap.size, 0, none⟩) 1 1), by simp [updV, e11], cond_set hC2.out (fun _ _ h => h) (CV.free rfl), hL9.out⟩
          · intro listed a w' hs hI h0 hd K2 hK
            obtain ⟨xs, rfl, hC, hW⟩ := hI
            have e9 : xs 9 = .slice yA yl.length yc := (hC 9 (hd ⟨9, .data⟩ (by simp) rfl)) _ rfl
            have hK2 := Lib.hid hK
            have hC2 := Lib.hid hC
            obtain ⟨o9, B9, z9, q9, hz9, hnx⟩ := hW.app h0 (hd ⟨9, .data⟩ (by simp) rfl) (hd ⟨12, .data⟩ (by simp) rfl) (by decide) (by decide) (by decide)
            rw [e9] at o9 hnx
            have hnx' := Lib.hid hnx
            clear hd hK hC hnx
            refine step_append_lies _ rfl (.tmp 32) (.tmp 35) 97 (by rfl) _ 9 i0_ _ 1 16 Tryz.underlying97 hi0 hz0 hz1 hz2 (by rfl) (by omega) _ _ _ (by show xs 9 = _; exact e9) o9 _ 1 1 ([.string who]) (by show xs 12 = _; exact q9) rfl (World.news_of_block hz9) (by simp [Value.oneCell']) (by omega) (by unfold maxLen; omega) (by omega) (Nat.le_trans hz9' B9.size) _ rfl ?_
            intro g cap w2 ho hg hat hlt
            clear h0
            exact hK2.out _ _ ⟨updV xs 13 (.slice (some ⟨g, 0, none⟩) ((yl.length) + 1) cap), by first | rfl | simp [updV, Act.put], cond_set hC2.out (fun _ _ h => h) (CV.free rfl), hnx'.out g cap w2 ho hg hat⟩
          · intro listed a w' hs hI h0 hd K2 hK
            obtain ⟨xs, rfl, hC, hW⟩ := hI
            have e0 : xs 0 = .slice (some ⟨b, 0, none⟩) 3 3 := (hC 0 (hd ⟨0, .data⟩ (by simp) rfl)) _ rfl
            have e3 : xs 3 = .int .i64 ↑p := (hC 3 (hd ⟨3, .data⟩ (by simp) rfl)) _ rfl
            have hK2 := Lib.hid hK
            have hC2 := Lib.hid hC
            clear hd hK hC h0
            go_simp
            exact hK2.out _ _ ⟨updV xs 14 (.pointer (some ⟨b, p, none⟩)), by simp [updV, e0, e3], cond_set hC2.out (fun _ _ h => h) (CV.of rfl rfl), hW.keep (by decide) (by decide) (by decide) (by decide)⟩
          · intro listed a w' hs hI h0 hd K2 hK
            obtain ⟨xs, rfl, hC, hW⟩ := hI
            have e14 : xs 14 = .pointer (some ⟨b, p, none⟩) := (hC 14 (hd ⟨14, .data⟩ (by simp) rfl)) _ rfl
            have hK2 := Lib.hid hK
            have hC2 := Lib.hid hC
            obtain ⟨w1, g, cap, b1, b2, b3, b4, hnx⟩ := hW.store h0 (hd ⟨13, .data⟩ (by simp) rfl) (by decide) (by decide) (by decide)
            have K1 := K9.below b1
            have r9 := blk_grown K1.hts.row b3 (fun e => own_neH b2 K1.hts.row (by decide) e.symm)
            have f9 := (blk_facts r9).2 p
            have c9 : w'.cell? ⟨b, p, none⟩ = some (.slice yA yl.length yc) := by rw [(blk_facts r9).1 p]; simp [hy'.out, hbE]
            clear r9 K1
            have hnx' := Lib.hid hnx
            clear hd hK hC h0
            go_simp
            exact hK2.out _ _ ⟨updV xs 15 (undef), by simp [updV, e14, b4], cond_set hC2.out (fun _ _ h => h) (CV.free rfl), hnx'.out _⟩
        case he =>
          intro listed a w' hs hI hr
          obtain ⟨xs, rfl, hC, hW⟩ := hI
          have hal := all_listed hs hr ⟨rfl, rfl, rfl, rfl, rfl, rfl, rfl, rfl, rfl, rfl, rfl, rfl, rfl, rfl, rfl, rfl, trivial⟩
          have e0 : xs 0 = .slice (some ⟨b, 0, none⟩) 3 3 := (hC 0 (hal 0 (by simp))) _ rfl
          have e1 : xs 1 = .pointer (some ⟨b7, 1, none⟩) := (hC 1 (hal 1 (by simp))) _ rfl
          have e2 : xs 2 = .int .i64 (↑p + 1) := (hC 2 (hal 2 (by simp))) _ rfl
          have e3 : xs 3 = .int .i64 ↑p := (hC 3 (hal 3 (by simp))) _ rfl
          have e4 : xs 4 = .slice (some ⟨b, 0, none⟩) 3 3 := (hC 4 (hal 4 (by simp))) _ rfl
          have e5 : xs 5 = .pointer (some ⟨b7, 1, none⟩) := (hC 5 (hal 5 (by simp))) _ rfl
          have e6 : xs 6 = .int .i64 (↑p + 1) := (hC 6 (hal 6 (by simp))) _ rfl
          have e7 : xs 7 = .int .i64 ↑p := (hC 7 (hal 7 (by simp))) _ rfl
          have e8 : xs 8 = .pointer (some ⟨b, p, none⟩) := (hC 8 (hal 8 (by simp))) _ rfl
          have e9 : xs 9 = .slice yA yl.length yc := (hC 9 (hal 9 (by simp))) _ rfl
          have e10 : xs 10 = .pointer (some ⟨b7, 0, none⟩) := (hC 10 (hal 10 (by simp))) _ rfl
          have e11 : xs 11 = .string who := (hC 11 (hal 11 (by simp))) _ rfl
          have e14 : xs 14 = .pointer (some ⟨b, p, none⟩) := (hC 14 (hal 14 (by simp))) _ rfl
          obtain ⟨w1, w2, g, cap, b1, b2, b3, b4, b5, b6, b7⟩ := hW.done (hal 13 (by simp)) (hal 15 (by simp))
          clear hC hs hr hal hW
          rw [e9] at b5 b6
          have K1 := (K9.below b1).app (s := who) hy'.out b4 b5 b6
          subst b7
          try dsimp only
          have hmp := map_push (s := who) hy'.out (some ⟨g, 0, none⟩) cap
          have hL9 := hLk'.out ⟨some ⟨g, 0, none⟩, cap, yl ++ [who]⟩ (by simp)
          rw [← hmp] at hM2
          clear b1 b2 b3 b4 b5 b6 hmp K9 cy9 lb9 hbx9 hi0 hz0 hz1 hz2 hLk' hy'
          generalize w2.setCell ⟨b, p, none⟩ (.slice (some ⟨g, 0, none⟩) (yl.length + 1) cap) = w8 at *
          go_wp2
          go_roundw
          case rel => exact ⟨k + 1, _, by omega, by go_num, K1, by rw [List.length_set]; exact hL3, hL9, hM2⟩
          case measure => simp [intOf]; omega
    · obtain rfl : k = n := by omega
      have hMf : L.map Hb.l = ML := by
        have h9 := hM.out
        rw [drop_end (by rw [hll.out]; exact Nat.le_refl _), medGo_nil] at h9
        exact h9
      go_wp2
      go_ret2
      exact .inr ⟨h0'.out, _, rfl, ⟨b, L, rfl, K.zb, K.hts, hMf, hL3, fun y hy => by have := hLk y hy; omega⟩, K.bel⟩
end Go.Proofs.YtklggnglaeagpaaGreatDoor

