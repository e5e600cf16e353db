/- The stream's RankString; bounds of right ranks. -/
import Derived.Test.YtamcmehmcbjgjaaGreatDoorRkL
import Derived.Test.YtamcmehmcbjgjaaGreatDoorTxtO
import Derived.Test.YtamcmehmcbjgjaaGreatDoorTxtV
namespace Go.Proofs.YtamcmehmcbjgjaaGreatDoor
open Go.RowKit Go.Lib
set_option linter.unusedVariables false

theorem rk1_wr {x : Rk} (h : rk1 x = 0) : RkWr x := by
  obtain ⟨h1, h2, h3, h4, _⟩ := rk1_all h
  have := (key_small h1).2
  exact ⟨by omega, by omega, by omega, by omega⟩
theorem writeP_len (n : Nat) : (writeP n).length ≤ 10 := by
  have d2 : ∀ m : Nat, (digP m).length ≤ 2 := digP_len
  unfold writeP
  split
  · have h1 := d2 (n / 100)
    have h2 : (twoP (n % 100)).length = 2 := rfl
    simp only [List.length_append, List.length_cons, List.length_nil]
    omega
  · have h1 := d2 (n / 6000)
    have h2 : (twoP (n % 100)).length = 2 := rfl
    have h3 : (twoP (n / 100 % 60)).length = 2 := rfl
    simp only [List.length_append, List.length_cons, List.length_nil]
    omega
theorem rkTime_len (t : Int) : (rkTime t).length ≤ 10 := by
  unfold rkTime
  split
  · exact writeP_len _
  · decide
theorem rkText_len : ∀ (L : List Rk), (∀ x ∈ L, rk1 x = 0) → (rkText L).length ≤ 100 * L.length
  | [], _ => by simp [rkText]
  | d :: L, h => by
    obtain ⟨h1, h2, h3, h4, _⟩ := rk1_all (h d (List.mem_cons_self ..))
    have h6 := (key_small h1).2
    have ih := rkText_len L fun z hz => h z (List.mem_cons_of_mem _ hz)
    have hs : d.who.data.toList.length = d.who.size := Array.length_toList
    have g2 := Lib.itoa_length_le d.rank (by omega) (by omega)
    have g3 := Lib.itoa_length_le d.fault (by omega) (by omega)
    have g4 := rkTime_len d.time
    have e : rkText (d :: L) = (rkLine d ++ [10]) ++ rkText L := rfl
    have hln : (rkLine d).length ≤ 95 := by
      unfold rkLine
      simp only [List.length_append, List.length_cons]
      omega
    rw [e]
    simp only [List.length_append, List.length_cons, List.length_nil]
    omega
set_option maxHeartbeats 1600000 in
set_option maxRecDepth 100000 in
theorem rankString_c (g : Nat) (zs : Zs) (k : Nat) (w w0 : World) (h : St w g zs k) (hk : k + 30000 ≤ 1099511627776) (hT : Tb w0) (hb0 : Below w0.heap.size w0 w) (hg0 : w0.heap.size ≤ g) :
    Calls Tryz.prog 31 #[.pointer (some ⟨g, 0, none⟩)] w (RetSt w g zs 100000 (k + 3000)) := by
  have hSg := Lib.hid (rankedList_c g zs k w w0 h (by omega) hT hb0 hg0)
  have hTb := Lib.hid (fun W (B : Below w0.heap.size w0 W) => hT.below B)
  have hgl := h.lt
  clear hT h
  unfold RetSt
  unfold RetRkL at hSg
  go_enter Tryz.func31, Tryz.ntmps31
  go_wp2_with fail
  refine hSg.out.mono ?_; rintro e w2 ⟨A, n, c, l, k2, rfl, ho, hl, hn, s2, hk2, g2⟩
  have rs : RRk w2 A n l := RN.of_own rkE_len ho hl (by omega)
  have hb2 := hb0.trans (grown_below g2 hg0 hb0.size)
  have hSF := Lib.hid (rankedFaultA_c A n c l w2 rs)
  clear hSg ho
  go_wp2_with fail
  refine hSF.out.mono ?_; rintro e w3 ⟨rfl, B3⟩
  have s3 := s2.below B3
  have gr3 := grown_trans g2 (grown_of_below B3)
  go_upto_if 9 with (fail)
  go_cut [3] (fun s3 wx => ∃ T : ByteArray, s3 = .string T ∧ T.size ≤ 2860 ∧ St wx g zs k2 ∧ w.grownBy wx (some g))
  case first =>
    by_cases h0 : rkErr l = 0
    · have hal := (rkErr_all h0).2.1
      have ht0 := rkText_len l hal
      have ht1 : (rkText l).length ≤ 2860 := by rw [hl] at ht0; omega
      have hSw := Lib.hid (rankLines_c A n c l w3 (rs.below B3) (hTb.out _ (below_next hb2 B3)) (by omega) (fun x hx => rk1_wr (hal x hx)))
      have hts : (⟨(rkText l).toArray⟩ : ByteArray).size ≤ 2860 := by show (rkText l).toArray.size ≤ _; rw [List.size_toArray]; exact ht1
      have e1 : (rkErr l == 0) = true := by simpa using h0
      clear hTb rs h0 hal ht0 ht1 hSF s2
      generalize (⟨(rkText l).toArray⟩ : ByteArray) = T at *
      generalize rkErr l = SE at *
      go_wp2_with fail
      refine hSw.out.mono ?_; rintro e w4 ⟨rfl, B4⟩
      have s4 := s3.below B4
      have gr4 := grown_trans gr3 (grown_of_below B4)
      clear hSw B4 s3 gr3
      go_wp2
      go_meet
      case rel => exact ⟨T, rfl, hts, s4, gr4⟩
    · have e1 : (rkErr l == 0) = false := by simpa using h0
      clear hTb rs h0 hSF s2
      generalize rkErr l = SE at *
      go_wp2
      go_meet
      case rel => exact ⟨_, rfl, by decide, s3, gr3⟩
  case rest =>
    clear hSF rs hTb s2 g2 hb2 s3 gr3 B3
    rename World => wc
    obtain ⟨T, rfl, hts, s3, gr3⟩ := hcut
    go_wp2_with fail
    refine (pickE_c g zs k2 _ _ _ [0, 0, 1, 2] _ (s3.alloc _) (by omega) (R1.litAt _ _ _ _ (by first | rfl | (simp; done)) (by simp) (by simp)) (by decide)).mono ?_; rintro e w4 ⟨v, rfl, hv, s4, g4⟩
    have gr4 := grown_trans (grown_alloc gr3 _) g4
    obtain ⟨N, rfl, hN⟩ : ∃ N : Nat, v = N ∧ N ≤ 2 := by simp at hv; exact ⟨v.toNat, by omega, by omega⟩
    clear hv s3 g4 gr3
    go_wp2_with fail
    go_loopw [3, 15] (fun u i wr => ∃ (j kk : Nat) (t : ByteArray), j ≤ N ∧ i = .int .i64 j ∧ u = .string t ∧ t.size ≤ 3000 + 10 * j ∧ kk ≤ k2 + 1 + 3 * j ∧ St wr g zs kk ∧ w.grownBy wr (some g)) (fun _ i _ => N - (intOf i).toNat)
    case atStart => exact ⟨0, k2 + 1, T, Nat.zero_le _, rfl, rfl, by omega, by omega, s4, gr4⟩
    case round =>
      clear s4 gr4
      rename World => wr
      obtain ⟨j, kk, t, hj, rfl, rfl, ht, hkk, hs, hgr⟩ := hrel
      by_cases hlt : j < N
      · have hCh := Lib.hid (changedL_c g zs kk t ⟨#[32, 10, 48, 49, 115, 58, 46, 45]⟩ wr hs (by omega) (by omega) (by decide) (by decide))
        unfold RetSt at hCh
        clear hs
        go_wp2_with fail
        refine hCh.out.mono ?_; rintro e w6 ⟨t6, k6, rfl, ht6, s6, hk6, g6⟩
        have gr6 := grown_trans hgr g6
        have ht7 : t6.size ≤ 3000 + 10 * (j + 1) := by
          have h7 : (⟨#[32, 10, 48, 49, 115, 58, 46, 45]⟩ : ByteArray).size = 8 := rfl
          rw [h7] at ht6
          omega
        clear hCh ht6 g6 hgr
        go_wp2
        go_roundw
        case rel => exact ⟨j + 1, k6, t6, by omega, by go_num, rfl, ht7, by omega, s6, gr6⟩
        case measure => simp [intOf]; omega
      · obtain rfl : j = N := by omega
        go_wp2
        go_ret
        exact ⟨t, kk, rfl, by omega, hs, by omega, hgr⟩
end Go.Proofs.YtamcmehmcbjgjaaGreatDoor
