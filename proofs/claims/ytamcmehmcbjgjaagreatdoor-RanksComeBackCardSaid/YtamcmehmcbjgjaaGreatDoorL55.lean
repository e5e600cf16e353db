/- RanksComeBack: ranks that are written are read as they were; what is read is written so: the walk. -/
import Derived.Test.YtamcmehmcbjgjaaGreatDoorRkS
import Derived.Test.YtamcmehmcbjgjaaGreatDoorTxtN
import Derived.Test.YtamcmehmcbjgjaaGreatDoorSetG
import Derived.Deep.DeepCutAuto
import Derived.Test.YtamcmehmcbjgjaaGreatDoorReady
namespace Go.Proofs.YtamcmehmcbjgjaaGreatDoor
open Go.RowKit Go.Lib
set_option linter.unusedVariables false

theorem mx_of_shape {W : World} (h : W.ShapedOpen Tryz.prog) : Mx W := Tryz.laysM145.s1_3 W h
theorem rk1_rd {x : Rk} (h : rk1 x = 0) : keyB x.who = true ∧ x.rank.natAbs < 10 ^ 4 ∧ x.fault.natAbs < 10 ^ 4 ∧ 0 ≤ x.time ∧ x.time ≤ 360000 := by
  obtain ⟨h1, h2, h3, h4, _⟩ := rk1_all h
  have e : (10 : Nat) ^ 4 = 10000 := rfl
  exact ⟨h1, by omega, by omega, by omega, by omega⟩
theorem back55 {l : List Rk} {w w' : World} {e : Ending} (h0 : rkErr l = 0) (h : RetRf RRk rkErr rkParse (rkText l) w e w') : ∃ A n c, e = .returned (.tuple #[.slice A n c, .int .i64 0, .int .i64 0]) ∧ RRk w' A n l ∧ Below w.heap.size w w' := by
  obtain ⟨k1, k2⟩ := rk_read_text (fun x hx => rk1_rd ((rkErr_all h0).2.1 x hx))
  unfold rkRd at k1
  unfold rkRecs rkRd at k2
  obtain ⟨B, ⟨h9, _⟩ | ⟨_, ⟨h9, _⟩ | ⟨_, A, n, c, he, hr⟩⟩⟩ := h
  · rw [k1] at h9; cases h9
  · rw [k2] at h9; exact absurd h0 h9
  · rw [k2] at hr; exact ⟨A, n, c, he, hr, B⟩
theorem any55 {t : ByteArray} {w w' : World} {e : Ending} (h : RetRf RRk rkErr rkParse t.data.toList w e w') : Below w.heap.size w w' ∧ ((∃ i E : Int, E ≠ 0 ∧ e = .returned (.tuple #[.slice none 0 0, .int .i64 i, .int .i64 E])) ∨ ∃ A n c l, e = .returned (.tuple #[.slice A n c, .int .i64 0, .int .i64 0]) ∧ RRk w' A n l ∧ rkErr l = 0 ∧ (⟨(rkText l).toArray⟩ : ByteArray) = t) := by
  obtain ⟨B, ⟨_, he⟩ | ⟨h8, ⟨h9, he⟩ | ⟨h9, A, n, c, he, hr⟩⟩⟩ := h
  · exact ⟨B, .inl ⟨_, 9, by decide, he⟩⟩
  · exact ⟨B, .inl ⟨0, _, h9, he⟩⟩
  · exact ⟨B, .inr ⟨A, n, c, _, he, hr, h9, by
      have h7 := rk_text_read (t := t.data.toList) h8
      unfold rkRecs rkRd at h7
      rw [h7]⟩⟩
set_option maxHeartbeats 12800000 in
set_option maxRecDepth 100000 in
theorem ranksComeBack_walk (a0 : Option Addr) (len0 cap0 : Nat) (z0 : List Int) (w : World) (w0 : IsRow .i64 w a0 len0 cap0 z0) (hmx : Mx w) (htab : Tb w) (hex : Ex w) :
    Calls Tryz.prog 6 #[.slice a0 len0 cap0] w fun e w' => e = .returned (.bool true) ∧ Below w.heap.size w w' := by
  have hs := law_start w0
  clear w0
  generalize Zs.mk (z0.take len0) w.heap.size = zs at *
  have hB1 := below_new w (.cells #[.slice a0 len0 cap0, .int .i64 0] 25)
  have hTx := Lib.hid (fun A n c l (W : World) h hT (hS : (rkText l).length ≤ 200000) h0 => rkTextR_c A n c l W h hT hS (fun x hx => rk1_wr ((rkErr_all h0).2.1 x hx)) h0)
  have hRd := Lib.hid (fun s W hs hM => readRkT_c s W hs hM)
  have hBk := Lib.hid (fun l w w' e h0 h => back55 (l := l) (w := w) (w' := w') (e := e) h0 h)
  have hAy := Lib.hid (fun t w w' e h => any55 (t := t) (w := w) (w' := w') (e := e) h)
  have hSS := Lib.hid (fun k (W : World) (h : St W w.heap.size zs k) (hk : k + 30000 ≤ 1099511627776) (hb : Below w.heap.size w W) => rankString_c w.heap.size zs k W w h hk htab hb (Nat.le_refl _))
  go_enter Tryz.func6, Tryz.ntmps6
  go_wp2_with fail
  refine (rankedList_c w.heap.size zs 0 _ w hs (by omega) htab hB1 (Nat.le_refl _)).mono ?_; rintro e w1 ⟨A, n, c, l, k2, rfl, ho, hln, hn, s1, hk2, g1⟩
  have rs1 : RRk w1 A n l := RN.of_own rkE_len ho hln (by omega)
  have hl := rs1.len
  have hB1' := hB1.trans (grown_below g1 (Nat.le_refl _) hB1.size)
  have hSF := Lib.hid (rankedFaultA_c A n c l w1 rs1)
  clear hs hB1 g1 ho
  go_wp2_with fail
  refine hSF.out.mono ?_; rintro e w2 ⟨rfl, B2⟩
  have s2 := s1.below B2
  have rs := rs1.below B2
  have hB2 := below_next hB1' B2
  clear hSF s1 rs1 hB1' B2
  go_upto_if 23 with (fail)
  go_cut [5] (fun s5 wx => St wx w.heap.size zs k2 ∧ Below w.heap.size w wx)
  case first =>
    by_cases h0 : rkErr l = 0
    rotate_left
    · have e1 : (rkErr l == 0) = false := by simpa using h0
      clear rs
      generalize rkErr l = RE at *
      go_wp2
      go_meet
      case rel => exact ⟨s2, hB2⟩
    have ht0 := rkText_len l (rkErr_all h0).2.1
    have ht1 : (rkText l).length ≤ 2860 := by rw [hl] at ht0; omega
    have hts : (⟨(rkText l).toArray⟩ : ByteArray).size ≤ 2860 := by show (rkText l).toArray.size ≤ _; rw [List.size_toArray]; exact ht1
    have hTx1 := Lib.hid (hTx.out A n c l w2 rs (htab.below hB2) (by omega) h0)
    have hRd1 := Lib.hid (fun W hM => hRd.out ⟨(rkText l).toArray⟩ W (by omega) hM)
    rw [show (⟨(rkText l).toArray⟩ : ByteArray).data.toList = rkText l by simp] at hRd1
    have hBk1 := Lib.hid (fun w w' e h => hBk.out l w w' e h0 h)
    rw [h0]
    generalize rkText l = TX at *
    clear h0 ht0 ht1 hts hBk
    go_wp2_with fail
    refine hTx1.out.mono ?_; rintro e w3 ⟨rfl, B3⟩
    have s3 := s2.below B3
    have rs3 := rs.below B3
    have hB3 := below_next hB2 B3
    clear hTx1 s2 rs hB2 B3
    go_wp2_with fail
    refine (hRd1.out _ (hmx.below hB3)).mono ?_; rintro e w8 hrd
    obtain ⟨A8, n8, c8, rfl, rs8, B8⟩ := hBk1.out _ _ _ hrd
    have s8 := s3.below B8
    have hB8 := below_next hB3 B8
    have hEq := Lib.hid (equalRk_c A8 A n8 c8 n c l l w8 rs8 (rs3.below B8))
    rw [decide_eq_true (rfl : l = l)] at hEq
    clear s3 hB3 B8 hRd1 hBk1 hrd rs8 rs3
    go_wp2_with fail
    refine hEq.out.mono ?_; rintro e w9 ⟨rfl, q9, rfl⟩
    have B9 := below_drewN (Below.refl w8.heap.size w8) q9
    have s9 := s8.below B9
    have hB9 := below_next hB8 B9
    generalize w8.drewN q9 = w9 at *
    clear s8 B9 hEq hB8
    go_wp2
    go_meet
    case rel => exact ⟨s9, hB9⟩
  case rest =>
    clear s2 hB2 rs hBk
    rename World => w9
    obtain ⟨s9, hB9⟩ := hcut
    have hSS9 := Lib.hid (hSS.out k2 w9 s9 (by omega) hB9)
    unfold RetSt at hSS9
    go_wp2_with fail
    refine hSS9.out.mono ?_; rintro e w10 ⟨t, k10, rfl, ht, s10, _, g10⟩
    have hB10 := hB9.trans (grown_below g10 (Nat.le_refl _) hB9.size)
    have hRd10 := Lib.hid (hRd.out t w10 (by omega) (hmx.below hB10))
    clear s9 g10 hSS hSS9 hRd s10 hB9
    go_wp2_with fail
    refine hRd10.out.mono ?_; rintro e w11 hrd
    obtain ⟨B11, ⟨i9, E9, hE9, rfl⟩ | ⟨A9, n9, c9, l9, rfl, rs9, hf9, ht9⟩⟩ := hAy.out t _ _ _ hrd
    · have e1 : (E9 == 0) = false := beq_eq_false_iff_ne.2 hE9
      have hB11 := below_next hB10 B11
      clear hRd10 hrd B11 hB10
      go_wp2_with fail
      refine (ready_c _).mono ?_; rintro e wM ⟨rfl, BM⟩
      have hB := below_next hB11 BM
      go_wp2
      go_ret
      exact ⟨rfl, hB⟩
    · have hB11 := below_next hB10 B11
      have hsz : (rkText l9).length ≤ 200000 := by
        have h9 := congrArg ByteArray.size ht9
        rw [show (⟨(rkText l9).toArray⟩ : ByteArray).size = (rkText l9).length from by show (rkText l9).toArray.size = _; rw [List.size_toArray]] at h9
        omega
      have hTx9 := Lib.hid (hTx.out A9 n9 c9 l9 w11 rs9 (htab.below hB11) hsz hf9)
      rw [ht9] at hTx9
      have b1 : (t.toList == t.toList) = true := beq_self_eq_true _
      clear hRd10 hrd B11 hB10 hf9 ht9 rs9 hsz
      go_wp2_with fail
      refine hTx9.out.mono ?_; rintro e w12 ⟨rfl, B12⟩
      have hB12 := below_next hB11 B12
      clear hTx9 hB11 B12
      go_wp2_with fail
      refine (ready_c _).mono ?_; rintro e wM ⟨rfl, BM⟩
      have hB := below_next hB12 BM
      go_wp2
      go_ret
      exact ⟨rfl, hB⟩
end Go.Proofs.YtamcmehmcbjgjaaGreatDoor
