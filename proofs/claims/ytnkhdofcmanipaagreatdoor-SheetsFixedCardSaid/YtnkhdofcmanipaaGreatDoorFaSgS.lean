import Derived.Test.YtnkhdofcmanipaaGreatDoorFaTimeR
import Derived.Test.YtnkhdofcmanipaaGreatDoorFaDraws
import Derived.BigRegion
import Derived.Test.YtnkhdofcmanipaaGreatDoorFaSgN
import Derived.Test.YtnkhdofcmanipaaGreatDoorFaPadF
import Derived.Test.YtnkhdofcmanipaaGreatDoorFaTxtM
/- The stream's Changed: some string; the reference's Written. -/
namespace Go.Proofs.YtnkhdofcmanipaaGreatDoor
open Go.RowKit
set_option linter.unusedVariables false

theorem enc_size (r : Int) : (Utf8.encode r).size ≤ 4 := by
  unfold Utf8.encode
  simp only []
  (repeat' split) <;> simp [ByteArray.size]
/-- what a maker of a string hands back -/
def RetSt (w : World) (g : Nat) (zs : Zs) (N K : Nat) (e : Ending) (w' : World) : Prop := ∃ (t : ByteArray) (k' : Nat), e = .returned (.string t) ∧ t.size ≤ N ∧ St w' g zs k' ∧ k' ≤ K ∧ w.grownBy w' (some g)
end Go.Proofs.YtnkhdofcmanipaaGreatDoor

/- The stream's Changed of any text. -/
namespace Go.Proofs.YtnkhdofcmanipaaGreatDoor
open Go.RowKit
set_option linter.unusedVariables false

set_option maxRecDepth 100000 in
theorem changedL_c (g : Nat) (zs : Zs) (k : Nat) (t wi : ByteArray) (w : World) (h : St w g zs k) (hk : k + 100 ≤ 1099511627776) (ht : t.size ≤ 1000000) (hw1 : 1 ≤ wi.size) (hw2 : wi.size ≤ 100) :
    Calls Tryz.prog 85 #[.pointer (some ⟨g, 0, none⟩), .string t, .string wi] w (RetSt w g zs (max (t.size + 4) wi.size) (k + 3)) := by
  have hlw : wi.toList.length = wi.size := by rw [ByteArray.toList_eq]; exact (Lib.size_eq wi).symm
  have hw3 : wi.toList.isEmpty = false := by
    cases hc : wi.toList.isEmpty
    · rfl
    · rw [List.isEmpty_iff] at hc; rw [hc] at hlw; simp at hlw; omega
  have hw4 : wi.toList ≠ [] := fun hc => by rw [hc] at hlw; simp at hlw; omega
  have hw5 : (wi.toList == ([] : List UInt8)) = false := by simpa using hw4
  clear hlw
  have hlen : t.toList.length = t.size := by rw [ByteArray.toList_eq]; exact (Lib.size_eq t).symm
  by_cases h0 : t.size = 0
  · have h1 : t.toList.isEmpty = true := by rw [List.isEmpty_iff]; exact List.eq_nil_of_length_eq_zero (by omega)
    go_enter Tryz.func85, Tryz.ntmps85
    go_wp2
    go_ret
    exact ⟨_, k, rfl, by omega, h, by omega, grown_refl _ _⟩
  · have h1 : t.toList.isEmpty = false := by
      cases hc : t.toList.isEmpty
      · rfl
      · rw [List.isEmpty_iff] at hc; rw [hc] at hlen; simp at hlen; omega
    go_enter Tryz.func85, Tryz.ntmps85
    go_wp2_with fail
    refine (nextE_c g zs k t.size _ h (by omega) (by omega) (by omega)).mono ?_; rintro e w1 ⟨v, rfl, v0, v1, s1, g1⟩
    obtain ⟨q, rfl⟩ : ∃ q : Nat, v = q := ⟨v.toNat, by omega⟩
    clear h
    go_wp2_with fail
    refine (nextE_c g zs _ wi.size _ s1 (by omega) (by omega) (by omega)).mono ?_; rintro e w2 ⟨v, rfl, v2, v3, s2, g2⟩
    obtain ⟨p, rfl⟩ : ∃ p : Nat, v = p := ⟨v.toNat, by omega⟩
    have gr2 := grown_trans g1 g2
    clear s1 g1 g2
    go_wp2_with fail
    have hp6 : p < wi.size := by omega
    generalize (wi[p]'hp6).toNat = c
    have hE := enc_size (IntKind.i32.wrap (c : Int))
    have y1 : ¬ 9223372036854775807 < q + (Utf8.encode (IntKind.i32.wrap (c : Int))).size := by omega
    have y2 : ¬ 9223372036854775807 < q + (Utf8.encode (IntKind.i32.wrap (c : Int))).size + (t.size - (q + 1)) := by omega
    have y3 : ¬ 9223372036854775807 < q + (Utf8.encode (IntKind.i32.wrap (c : Int))).size + (t.size - q) := by omega
    have hE2 := enc_size (wrap32 (c : Int))
    have y5 : ¬ 9223372036854775807 < q + (Utf8.encode (wrap32 (c : Int))).size := by omega
    have y6 : ¬ 9223372036854775807 < q + (Utf8.encode (wrap32 (c : Int))).size + (t.size - (q + 1)) := by omega
    have y7 : ¬ 9223372036854775807 < q + (Utf8.encode (wrap32 (c : Int))).size + (t.size - q) := by omega
    have y4 : ¬ 9223372036854775807 < q + (t.size - (q + 1)) := by omega
    refine (nextE_c g zs _ 3 _ s2 (by omega) (by decide) (by decide)).mono ?_; rintro e w3 ⟨v, rfl, v4, v5, s3, g3⟩
    have gr3 := grown_trans gr2 g3
    clear s2 g3 gr2
    have q1 : (q : Int) + 1 ≤ t.size := by omega
    have q2 : q + 1 ≤ t.size := by omega
    have q5 : (0 : Int) ≤ (q : Int) + 1 := by omega
    have q3 : q ≤ t.size := by omega
    have q4 : IntKind.i64.wrap ((q : Int) + 1) = (q : Int) + 1 := IntWalk.i64_in _ (by omega)
    have hv : v = 0 ∨ v = 1 ∨ v = 2 := by omega
    rcases hv with rfl | rfl | rfl
    · go_wp2_with fail
      go_region
      go_wp2
      go_ret
      exact ⟨_, _, rfl, by simp only [ByteArray.size_append, ByteArray.size_extract]; omega, s3.drew, by omega, grown_drew gr3⟩
    · go_wp2_with fail
      go_region
      go_wp2
      go_ret
      exact ⟨_, _, rfl, by simp only [ByteArray.size_append, ByteArray.size_extract]; omega, s3.drew, by omega, grown_drew gr3⟩
    · go_wp2_with fail
      go_region
      go_wp2
      go_ret
      exact ⟨_, _, rfl, by simp only [ByteArray.size_append, ByteArray.size_extract]; omega, s3.drew, by omega, grown_drew gr3⟩
end Go.Proofs.YtnkhdofcmanipaaGreatDoor
/- tumbmake.RightSignals. -/
namespace Go.Proofs.YtnkhdofcmanipaaGreatDoor
open Go.RowKit Go.Shelf Go.Lib Go.Sort
set_option linter.unusedVariables false

end Go.Proofs.YtnkhdofcmanipaaGreatDoor
/- The stream's SignalString; bounds of right signals. -/
namespace Go.Proofs.YtnkhdofcmanipaaGreatDoor
open Go.RowKit Go.Lib
set_option linter.unusedVariables false

theorem itoaG64_len {y : Int} (h0 : -9223372036854775808 ≤ y) (h1 : y ≤ 9223372036854775807) : (itoa y).length ≤ 20 := by
  have h := dd_le (u := y.natAbs) (k := 19) (by decide) (by have e : (10 : Nat) ^ 19 = 10000000000000000000 := rfl; omega)
  unfold itoa
  split
  · simp only [List.length_cons]; have : (-y).toNat = y.natAbs := by omega
    first | (rw [this]; omega) | omega
  · have : y.toNat = y.natAbs := by omega
    rw [this]; omega
theorem sigGo_all : ∀ (l : List Sg) (D : DataW Unit) (o : Option Sg), sigGo D o l = 0 → ∀ x ∈ l, sg1 x = 0
  | [], _, _, _, x, hx => by cases hx
  | y :: l, D, o, h, x, hx => by
    unfold sigGo at h
    by_cases h1 : sg1 y ≠ 0
    · rw [if_pos h1] at h; exact absurd h h1
    · rw [if_neg h1] at h
      by_cases h2 : badSg o y = true
      · rw [if_pos h2] at h; cases h
      · rw [if_neg h2] at h
        rcases List.mem_cons.1 hx with rfl | hx
        · exact Decidable.not_not.1 h1
        · exact sigGo_all l _ _ h x hx
theorem sigErr_all {l : List Sg} (h : sigErr l = 0) : ∀ x ∈ l, sg1 x = 0 := by
  unfold sigErr at h
  split at h
  · cases h
  · exact sigGo_all _ _ _ h
theorem sg1_all {x : Sg} (h : sg1 x = 0) : SgT x ∧ SgWr x ∧ x.dev.size ≤ 40 := by
  obtain ⟨h1, h2, h3, h4⟩ := sg1_ok h
  have e12 : (10 : Nat) ^ 12 = 1000000000000 := rfl
  have hl : 0 ≤ x.lane ∧ x.lane ≤ 10 := by
    unfold sg1 at h
    rw [if_neg (by simp [h1]), if_neg (by simp [h2]), if_neg (by simp [h3]), if_neg (by simp [h4])] at h
    split at h
    · cases h
    split at h
    · cases h
    omega
  have ht : (x.kind = 4 → 1 ≤ x.time ∧ x.time ≤ 360000) ∧ (x.kind ≠ 4 → x.time = 0) := by
    unfold sg1 at h
    rw [if_neg (by simp [h1]), if_neg (by simp [h2]), if_neg (by simp [h3]), if_neg (by simp [h4])] at h
    split at h
    · cases h
    split at h
    · cases h
    split at h
    · cases h
    split at h
    · cases h
    omega
  have ht2 : 0 ≤ x.time ∧ x.time ≤ 360000 := by
    by_cases hk : x.kind = 4
    · have := ht.1 hk; omega
    · have := ht.2 hk; omega
  refine ⟨⟨h1, h2.1, h2.2, by omega, by omega, by omega, by omega, ht.2⟩, ⟨h2, by omega, by omega, by omega, by omega⟩, (key_small h1).2⟩
theorem sgWord_len (k : Int) : (sgWord k).length ≤ 6 := by
  unfold sgWord
  (split; · decide); (split; · decide); (split; · decide); decide
theorem sgText_len : ∀ (L : List Sg), (∀ x ∈ L, sg1 x = 0) → (sgText L).length ≤ 140 * L.length
  | [], _ => by simp [sgText]
  | d :: L, h => by
    obtain ⟨_, ⟨_, h2, h3, h4, h5⟩, h6⟩ := sg1_all (h d (List.mem_cons_self ..))
    have ih := sgText_len L fun z hz => h z (List.mem_cons_of_mem _ hz)
    have hs : d.dev.data.toList.length = d.dev.size := Array.length_toList
    have g2 := itoaG64_len h2.1 h2.2
    have g3 := itoaG64_len h3.1 h3.2
    have g4 := itoaG64_len h4.1 h4.2
    have g5 := itoaG64_len h5.1 h5.2
    have g6 := sgWord_len d.kind
    have e : sgText (d :: L) = (sgLine d ++ [10]) ++ sgText L := rfl
    have hln : (sgLine d).length ≤ 132 := by
      rw [bL_line]
      by_cases hk : d.kind = 4
      · rw [ws_four hk]
        simp only [join_two, join_one, List.length_append, List.length_cons, List.length_nil]
        omega
      · rw [ws_no hk]
        simp only [join_two, join_one, List.length_append, List.length_cons, List.length_nil]
        omega
    rw [e]
    simp only [List.length_append, List.length_cons, List.length_nil]
    omega
set_option maxHeartbeats 1600000 in
set_option maxRecDepth 100000 in
theorem signalString_c (g : Nat) (zs : Zs) (k : Nat) (w w0 : World) (h : St w g zs k) (hk : k + 30000 ≤ 1099511627776) (hT : Tb w0) (hb0 : Below w0.heap.size w0 w) (hg0 : w0.heap.size ≤ g) :
    Calls Tryz.prog 38 #[.pointer (some ⟨g, 0, none⟩)] w (RetSt w g zs 100000 (k + 3000)) := by
  have hSg := Lib.hid (signals_c g zs k w h (by omega))
  have hTb := Lib.hid (fun W (B : Below w0.heap.size w0 W) => hT.below B)
  have hgl := h.lt
  clear hT h
  unfold RetSt
  unfold RetSg at hSg
  go_enter Tryz.func38, Tryz.ntmps38
  go_wp2_with fail
  refine hSg.out.mono ?_; rintro e w2 ⟨A, n, c, l, k2, rfl, ho, hl, hn1, hn, s2, hk2, g2⟩
  have rs : RSg w2 A n l := RN.of_own sgE_len ho hl (by omega)
  have hb2 := hb0.trans (grown_below g2 hg0 hb0.size)
  have hSF := Lib.hid (signalsFault_c A n c l w2 rs)
  clear hSg ho
  go_wp2_with fail
  refine hSF.out.mono ?_; rintro e w3 ⟨rfl, B3⟩
  have s3 := s2.below B3
  have gr3 := grown_trans g2 (grown_of_below B3)
  go_upto_if 9 with (fail)
  go_cut [3] (fun s3 wx => ∃ T : ByteArray, s3 = .string T ∧ T.size ≤ 2860 ∧ St wx g zs k2 ∧ w.grownBy wx (some g))
  case first =>
    by_cases h0 : sigErr l = 0
    · have hal := sigErr_all h0
      have ht0 := sgText_len l hal
      have ht1 : (sgText l).length ≤ 2860 := by rw [hl] at ht0; omega
      have hSw := Lib.hid (signalLines_c A n c l w3 (rs.below B3) (hTb.out _ (below_next hb2 B3)) (by omega) (fun x hx => (sg1_all (hal x hx)).2.1))
      have hts : (⟨(sgText l).toArray⟩ : ByteArray).size ≤ 2860 := by show (sgText l).toArray.size ≤ _; rw [List.size_toArray]; exact ht1
      have e1 : (sigErr l == 0) = true := by simpa using h0
      clear hTb rs h0 hal ht0 ht1 hSF s2
      generalize (⟨(sgText l).toArray⟩ : ByteArray) = T at *
      generalize sigErr l = SE at *
      go_wp2_with fail
      refine hSw.out.mono ?_; rintro e w4 ⟨rfl, B4⟩
      have s4 := s3.below B4
      have gr4 := grown_trans gr3 (grown_of_below B4)
      clear hSw B4 s3 gr3
      go_wp2
      go_meet
      case rel => exact ⟨T, rfl, hts, s4, gr4⟩
    · have e1 : (sigErr l == 0) = false := by simpa using h0
      clear hTb rs h0 hSF s2
      generalize sigErr l = SE at *
      go_wp2
      go_meet
      case rel => exact ⟨_, rfl, by decide, s3, gr3⟩
  case rest =>
    clear hSF rs hTb s2 g2 hb2 s3 gr3 B3
    rename World => wc
    obtain ⟨T, rfl, hts, s3, gr3⟩ := hcut
    go_wp2_with fail
    refine (pickE_c g zs k2 _ _ _ [0, 0, 1, 2] _ (s3.alloc _) (by omega) (R1.litAt _ _ _ _ (by first | rfl | (simp; done)) (by simp) (by simp)) (by decide)).mono ?_; rintro e w4 ⟨v, rfl, hv, s4, g4⟩
    have gr4 := grown_trans (grown_alloc gr3 _) g4
    obtain ⟨N, rfl, hN⟩ : ∃ N : Nat, v = N ∧ N ≤ 2 := by simp at hv; exact ⟨v.toNat, by omega, by omega⟩
    clear hv s3 g4 gr3
    go_wp2_with fail
    go_loopw [3, 15] (fun u i wr => ∃ (j kk : Nat) (t : ByteArray), j ≤ N ∧ i = .int .i64 j ∧ u = .string t ∧ t.size ≤ 3000 + 10 * j ∧ kk ≤ k2 + 1 + 3 * j ∧ St wr g zs kk ∧ w.grownBy wr (some g)) (fun _ i _ => N - (intOf i).toNat)
    case atStart => exact ⟨0, k2 + 1, T, Nat.zero_le _, rfl, rfl, by omega, by omega, s4, gr4⟩
    case round =>
      clear s4 gr4
      rename World => wr
      obtain ⟨j, kk, t, hj, rfl, rfl, ht, hkk, hs, hgr⟩ := hrel
      by_cases hlt : j < N
      · have hCh := Lib.hid (changedL_c g zs kk t ⟨#[32, 10, 48, 49, 100, 112, 45]⟩ wr hs (by omega) (by omega) (by decide) (by decide))
        unfold RetSt at hCh
        clear hs
        go_wp2_with fail
        refine hCh.out.mono ?_; rintro e w6 ⟨t6, k6, rfl, ht6, s6, hk6, g6⟩
        have gr6 := grown_trans hgr g6
        have ht7 : t6.size ≤ 3000 + 10 * (j + 1) := by
          have h7 : (⟨#[32, 10, 48, 49, 100, 112, 45]⟩ : ByteArray).size = 7 := rfl
          rw [h7] at ht6
          omega
        clear hCh ht6 g6 hgr
        go_wp2
        go_roundw
        case rel => exact ⟨j + 1, k6, t6, by omega, by go_num, rfl, ht7, by omega, s6, gr6⟩
        case measure => simp [intOf]; omega
      · obtain rfl : j = N := by omega
        go_wp2
        go_ret
        exact ⟨t, kk, rfl, by omega, hs, by omega, hgr⟩
end Go.Proofs.YtnkhdofcmanipaaGreatDoor
