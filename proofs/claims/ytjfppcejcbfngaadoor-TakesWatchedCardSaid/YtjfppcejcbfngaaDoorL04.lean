/- TakesWatched: CheckTakes, TakeOvers and FalseStarts answer as the reference says: the walk. -/
import Derived.Test.YtjfppcejcbfngaaDoorTakesM
import Derived.Test.YtjfppcejcbfngaaDoorTakes3
import Derived.Test.YtjfppcejcbfngaaDoorJudged
import Derived.Test.YtjfppcejcbfngaaDoorFillP
import Derived.Test.YtjfppcejcbfngaaDoorLawBase
import Derived.Deep.DeepCutAuto
namespace Go.Proofs.YtjfppcejcbfngaaDoor
open Go.RowKit
set_option linter.unusedVariables false

theorem eqB_refl4 (l : List Int) : eqB l l = true := by unfold eqB; simp
set_option maxHeartbeats 3200000 in
set_option maxRecDepth 100000 in
theorem takesWatched_walk (a0 : Option Addr) (len0 cap0 : Nat) (z0 : List Int) (w : World) (w0 : IsRow .i64 w a0 len0 cap0 z0) :
    Calls Tryd.prog 6 #[.slice a0 len0 cap0] w fun e w' => e = .returned (.bool true) ∧ Below w.heap.size w w' := by
  have hs := law_start w0
  clear w0
  generalize z0.take len0 = zs at *
  generalize hg : w.heap.size = g at *
  have hgw := Lib.hid hg
  go_enter Tryd.func6, Tryd.ntmps6
  go_wp2_with fail
  have hs' : St (w.alloc (.cells #[.slice a0 len0 cap0, .int .i64 0] 25)) g zs 0 := hs
  refine (takes_c g zs 0 _ hs' (by omega)).mono ?_; rintro e w1 ⟨A, n, c, l, k1, rfl, hT, s1, hk1, g1⟩
  have hB : Below w.heap.size w w1 := (below_new w _).trans (grown_below g1 (by rw [hgw.out]; exact Nat.le_refl _) (by simp))
  clear hs hs' g1
  go_wp2_with fail
  refine (pickB_c g zs _ [0, 100, 100, -1, 360001] (-1) 360001 _ _ _ _ _ s1 (by omega) rfl (by simp) rfl (by decide) (by decide) (by decide)).mono ?_; rintro e w2 ⟨sg, rfl, hsg0, hsg1, s2, g2⟩
  replace hT := hT.keep (T := 25) (by decide) (s1.keep g2)
  replace hB := hB.trans (grown_below g2 (by rw [hgw.out]; exact Nat.le_refl _) hB.size)
  clear s1 g2
  go_wp2_with fail
  refine (pickB_c g zs _ [0, 2, 5, 8, 11] 0 11 _ _ _ _ _ s2 (by omega) rfl (by simp) rfl (by decide) (by decide) (by decide)).mono ?_; rintro e w3 ⟨N', rfl, hN0, hN1, s3, g3⟩
  replace hT := hT.keep (T := 25) (by decide) (s2.keep g3)
  replace hB := hB.trans (grown_below g3 (by rw [hgw.out]; exact Nat.le_refl _) hB.size)
  obtain ⟨N, rfl⟩ := Int.eq_ofNat_of_zero_le hN0
  have hglt := s3.lt
  clear s2 g3 hN0
  go_wp2_with fail
  go_loopw [6, 25] (fun out i wr => ∃ (j : Nat) (acc : List Int), j ≤ N ∧ i = .int .i64 j ∧ wr.ownsRow w3.heap.size 3 1 out j (ints acc) ∧ St wr g zs (k1 + 1 + 1 + j) ∧ w3.grownBy wr (some g)) (fun _ i _ => N - (intOf i).toNat)
  case atStart => exact ⟨0, [], Nat.zero_le _, rfl, World.ownsRow_nil _ _ _ _, s3, grown_refl _ _⟩
  case round =>
    obtain ⟨j, acc, hj, rfl, hown, hst, hgr⟩ := hrel
    by_cases hlt : j < N
    · go_wp2_with fail
      refine (pickB_c g zs _ [90, 99, 100, 120, 175] 90 175 _ _ _ _ _ hst (by omega) rfl (by simp) rfl (by decide) (by decide) (by decide)).mono ?_; rintro e w4 ⟨p, rfl, hp0, hp1, s4, g4⟩
      have hgr4 := grown_trans hgr g4
      have hown4 := own_keep hown hglt g4
      have hz4 := hgr4.size
      clear hst g4 hown hgr
      go_wp2_with (at_builtin; refine wpList_app rfl (.tmp 27) (.tmp 31) 22 rfl Tryd.underlying22 info_int rfl (by omega) (by omega) hown4 rfl rfl (by first | rfl | (simp; done)) rfl (by simp [Value.oneCell']) (by omega) hz4 ?_; intro v5 w5 hown5 hg5)
      have hgr5 := grown_own hgr4 hg5 (own_row_lt hown4)
      have hst5 := s4.grown hg5 (fun i hi => by have := own_row_lt hown4 i hi; omega)
      go_roundw
      case rel => exact ⟨j + 1, acc ++ [p], by omega, by go_num, by rw [ints_app]; exact hown5, hst5, hgr5⟩
      case measure => simp [intOf]; omega
    · obtain rfl : j = N := by omega
      obtain ⟨A6, c6, hA6⟩ := own_shape hown
      subst hA6
      go_upto_region 8 with (fail)
      go_cut [40] (fun s40 wx => ∃ (b : Bool) (kk : Nat), s40 = .bool b ∧ (b = true → 0 < j) ∧ kk ≤ k1 + 100 ∧ wx.ownsRow w3.heap.size 3 1 (.slice A6 j c6) j (ints acc) ∧ St wx g zs kk ∧ w3.grownBy wx (some g))
      case first =>
        by_cases hj0 : j = 0
        · subst hj0
          go_wp2
          go_meet
          case rel => exact ⟨false, _, rfl, fun h => (by cases h), by omega, hown, hst, hgr⟩
        · have hjp : 0 < j := by omega
          go_wp2_with fail
          refine (flipE_c g zs _ _ _ hst (by omega) (by omega) (by omega)).mono ?_; rintro e w4 ⟨fl, rfl, s4, g4⟩
          have H := Lib.hid (And.intro (own_keep hown hglt g4) (And.intro s4 (grown_trans hgr g4)))
          clear hown hst hgr g4 s4
          go_wp2
          go_meet
          case rel => exact ⟨fl, _, rfl, fun _ => hjp, by omega, H.out.1, H.out.2.1, H.out.2.2⟩
      case rest =>
        clear hown hst hgr
        obtain ⟨fl, kk, rfl, hfl, hkk, hown, hst, hgr⟩ := hcut
        go_upto_if 40 with (fail)
        go_cut [6] (fun s6 wx => ∃ A n' c L, s6 = .slice A n' c ∧ n' ≤ 11 ∧ (A = none → c = 0) ∧ RI 3 wx A n' L ∧ w3.grownBy wx (some g))
        case first =>
          cases fl
          · obtain ⟨A7, c7, e7, hA7, hr7⟩ := own_ints hown (by omega)
            injection e7 with e1 e2 e3
            subst e1 e3
            have H := Lib.hid hr7
            clear hr7 hown e2
            go_wp2
            go_meet
            case rel => exact ⟨_, j, _, acc, rfl, by omega, hA7, H.out, hgr⟩
          · have hjp := hfl rfl
            clear hfl
            go_wp2_with fail
            refine (pickB_c g zs _ [-1, 360001] (-1) 360001 _ _ _ _ _ hst (by omega) rfl (by simp) rfl (by decide) (by decide) (by decide)).mono ?_; rintro e w4 ⟨p, rfl, hp0, hp1, s4, g4⟩
            have hgr4 := grown_trans hgr g4
            have hown4 := own_keep hown hglt g4
            clear hst g4 hown hgr s4
            obtain ⟨b, rfl, hb⟩ := own_someN hown4 hjp
            obtain ⟨x, hx⟩ := own_cellI hown4 hjp
            have hf0 := hown4.frozenAt 0
            have hst := hown4.stored 0 (.int .i64 p)
            have hset := own_setI hown4 0 p
            obtain ⟨A7, c7, e7, hA7, hr7⟩ := own_ints hset (by omega)
            injection e7 with e1 e2 e3
            subst e1 e3
            have hgr5 := grown_own hgr4 hst.2 (fun i hi => by injection hi with hi; omega)
            have hcj := own_capN hown4
            have H := Lib.hid (And.intro hr7 hgr5)
            clear hr7 hgr5 hgr4 hst hown4 e2 hset
            go_wp2
            go_meet
            case rel => exact ⟨_, j, _, _, rfl, by omega, hA7, H.out.1, H.out.2⟩
        case rest =>
          obtain ⟨A6', n6, c6', L, rfl, hn6, hA6, hL, hgr6⟩ := hcut
          replace hT := hT.keep (T := 25) (by decide) (s3.keep hgr6)
          replace hB := hB.trans (grown_below hgr6 (by rw [hgw.out]; exact Nat.le_refl _) hB.size)
          clear hown hst hgr hgr6 s3 hfl
          have hTf := Lib.hid (fun W => takesFault_c A n c l W)
          have hCt := Lib.hid (fun W => checkTakes_c A n c l W)
          have hTo := Lib.hid (fun W => takeOvers_c A n c l W)
          have hTe := Lib.hid (fun W => takeOvers_err A n c l W)
          have hTr := Lib.hid (fun W => takesOf_c A n c l W)
          have hFs := Lib.hid (fun W => falseStarts_c A6' n6 c6' L sg W)
          have hSf := Lib.hid (fun W => signalFault_c A6' n6 c6' L sg W)
          have hFo := Lib.hid (fun W => falseOf_c A6' n6 c6' L sg W)
          have hFr := Lib.hid (show falseR sg L = if signalErr sg L = 0 then falseL sg 0 L else [] from rfl)
          generalize falseR sg L = FR at *
          generalize falseL sg 0 L = FL at *
          generalize signalErr sg L = SE at *
          generalize takesErr l = TE at *
          generalize diffT l = DL at *
          generalize firstT (-1) 0 l = FT at *
          go_wp2_with fail
          refine (hTf.out _ hT).mono ?_; rintro e w5 ⟨rfl, B5⟩
          replace hT := hT.below B5
          replace hL := hL.below B5
          replace hB := below_next hB B5
          clear B5
          go_wp2_with fail
          refine (hCt.out _ hT).mono ?_; rintro e w6 ⟨rfl, B6⟩
          replace hT := hT.below B6
          replace hL := hL.below B6
          replace hB := below_next hB B6
          clear B6
          by_cases hte : TE = 0
          · subst hte
            go_wp2_with fail
            refine (hTo.out _ hT (by first | rfl | trivial)).mono ?_; rintro e w7 ⟨A7, c7, rfl, hD7, B7⟩
            replace hT := hT.below B7
            replace hL := hL.below B7
            replace hB := below_next hB B7
            clear B7
            go_wp2_with fail
            refine (hTr.out _ hT (by first | rfl | trivial)).mono ?_; rintro e w8 ⟨A8, c8, rfl, hD8, B8⟩
            replace hT := hT.below B8
            replace hL := hL.below B8
            replace hD7 := hD7.below B8
            replace hB := below_next hB B8
            clear B8
            go_wp2_with fail
            refine (equal_c _ _ _ _ _ _ _ _ _ hD7 hD8).mono ?_; rintro e w9 ⟨rfl, B9⟩
            rw [eqB_refl4]
            replace hL := hL.below B9
            replace hB := below_next hB B9
            clear B9
            clear hD7 hD8 hT
            by_cases hse : SE = 0
            · subst hse
              obtain rfl : FR = FL := by rw [hFr.out]; simp
              go_wp2_with fail
              refine (hFs.out _ hL).mono ?_; rintro e w10 ⟨A10, n10, c10, rfl, hR10, B10⟩
              replace hL := hL.below B10
              replace hB := below_next hB B10
              clear B10
              go_wp2_with fail
              refine (hSf.out _ hL hA6).mono ?_; rintro e w11 ⟨rfl, B11⟩
              replace hL := hL.below B11
              replace hR10 := hR10.below B11
              replace hB := below_next hB B11
              clear B11
              go_wp2_with fail
              refine (hFo.out _ hL (by omega)).mono ?_; rintro e w12 ⟨A12, n12, c12, rfl, hR12, B12⟩
              replace hR10 := hR10.below B12
              replace hB := below_next hB B12
              clear B12
              go_wp2_with fail
              refine (equal_c _ _ _ _ _ _ _ _ _ hR10 hR12).mono ?_; rintro e w13 ⟨rfl, B13⟩
              rw [eqB_refl4]
              replace hB := below_next hB B13
              clear B13
              go_wp2_with fail
              refine (judged_c _).mono ?_; rintro e w14 ⟨rfl, B14⟩
              go_wp2
              go_ret
              exact ⟨rfl, by have := below_next hB B14; rwa [hgw.out] at this⟩
            · obtain rfl : FR = [] := by rw [hFr.out, if_neg hse]
              have hse1 : (SE != 0) = true := by simpa using hse
              clear hse
              go_wp2_with fail
              refine (hFs.out _ hL).mono ?_; rintro e w10 ⟨A10, n10, c10, rfl, hR10, B10⟩
              obtain rfl : n10 = 0 := by have := hR10.len; simpa using this.symm
              replace hL := hL.below B10
              replace hB := below_next hB B10
              clear B10
              go_wp2_with fail
              refine (hSf.out _ hL hA6).mono ?_; rintro e w11 ⟨rfl, B11⟩
              replace hB := below_next hB B11
              clear B11
              clear hR10 hL
              go_wp2_with fail
              refine (judged_c _).mono ?_; rintro e w14 ⟨rfl, B14⟩
              go_wp2
              go_ret
              exact ⟨rfl, by have := below_next hB B14; rwa [hgw.out] at this⟩
          · have hte1 : (TE != 0) = true := by simpa using hte
            have hte' := Lib.hid hte
            clear hte
            go_wp2_with fail
            refine (hTe.out _ hT hte'.out).mono ?_; rintro e w7 ⟨rfl, B7⟩
            replace hL := hL.below B7
            replace hB := below_next hB B7
            clear B7
            clear hT
            by_cases hse : SE = 0
            · subst hse
              obtain rfl : FR = FL := by rw [hFr.out]; simp
              go_wp2_with fail
              refine (hFs.out _ hL).mono ?_; rintro e w10 ⟨A10, n10, c10, rfl, hR10, B10⟩
              replace hL := hL.below B10
              replace hB := below_next hB B10
              clear B10
              go_wp2_with fail
              refine (hSf.out _ hL hA6).mono ?_; rintro e w11 ⟨rfl, B11⟩
              replace hL := hL.below B11
              replace hR10 := hR10.below B11
              replace hB := below_next hB B11
              clear B11
              go_wp2_with fail
              refine (hFo.out _ hL (by omega)).mono ?_; rintro e w12 ⟨A12, n12, c12, rfl, hR12, B12⟩
              replace hR10 := hR10.below B12
              replace hB := below_next hB B12
              clear B12
              go_wp2_with fail
              refine (equal_c _ _ _ _ _ _ _ _ _ hR10 hR12).mono ?_; rintro e w13 ⟨rfl, B13⟩
              rw [eqB_refl4]
              replace hB := below_next hB B13
              clear B13
              go_wp2_with fail
              refine (judged_c _).mono ?_; rintro e w14 ⟨rfl, B14⟩
              go_wp2
              go_ret
              exact ⟨rfl, by have := below_next hB B14; rwa [hgw.out] at this⟩
            · obtain rfl : FR = [] := by rw [hFr.out, if_neg hse]
              have hse1 : (SE != 0) = true := by simpa using hse
              clear hse
              go_wp2_with fail
              refine (hFs.out _ hL).mono ?_; rintro e w10 ⟨A10, n10, c10, rfl, hR10, B10⟩
              obtain rfl : n10 = 0 := by have := hR10.len; simpa using this.symm
              replace hL := hL.below B10
              replace hB := below_next hB B10
              clear B10
              go_wp2_with fail
              refine (hSf.out _ hL hA6).mono ?_; rintro e w11 ⟨rfl, B11⟩
              replace hB := below_next hB B11
              clear B11
              clear hR10 hL
              go_wp2_with fail
              refine (judged_c _).mono ?_; rintro e w14 ⟨rfl, B14⟩
              go_wp2
              go_ret
              exact ⟨rfl, by have := below_next hB B14; rwa [hgw.out] at this⟩
end Go.Proofs.YtjfppcejcbfngaaDoor
