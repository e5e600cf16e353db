/- The stream's take-overs. -/
import Derived.Test.YtjfppcejcbfngaaDoorTakes2
import Derived.Test.YtjfppcejcbfngaaDoorReady4
namespace Go.Proofs.YtjfppcejcbfngaaDoor
open Go.RowKit
set_option linter.unusedVariables false

theorem info_take : (Tryd.prog.info? 145).map (fun i => (i.zero, i.size, i.bytes)) = some (some (.agg #[.int .i64 0, .int .i64 0]), 2, 16) := by kernel_rfl
theorem takeE_len : ∀ x, (takeE x).length = 2 := fun _ => rfl
set_option maxHeartbeats 1600000 in
set_option maxRecDepth 100000 in
theorem takes_c (g : Nat) (zs : List Int) (k : Nat) (w : World) (h : St w g zs k) (hk : k + 1000 ≤ 1099511627776) :
    Calls Tryd.prog 51 #[.pointer (some ⟨g, 0, none⟩)] w fun e w' => ∃ A n c l k', e = .returned (.slice A n c) ∧ RTk w' A n l ∧ St w' g zs k' ∧ k' ≤ k + 100 ∧ w.grownBy w' (some g) := by
  have hglt := h.lt
  go_enter Tryd.func51, Tryd.ntmps51
  go_wp2_with fail
  refine (rangeE_c g zs k _ _ _ h (by omega) (by omega) (by omega) (by omega)).mono ?_; rintro e w1 ⟨N', rfl, hN0, hN1, s1, g1⟩
  obtain ⟨N, rfl⟩ := Int.eq_ofNat_of_zero_le hN0
  have hz1 := g1.size
  clear h hN0
  go_wp2_with fail
  go_loopw [3, 7] (fun out i wr => ∃ (j : Nat) (acc : List (Int × Int)), j ≤ N ∧ i = .int .i64 j ∧ acc.length = j ∧ wr.ownsRow w.heap.size 145 2 out j (acc.flatMap takeE) ∧ St wr g zs (k + 1 + 2 * j) ∧ w.grownBy wr (some g)) (fun _ i _ => N - (intOf i).toNat)
  case atStart => exact ⟨0, [], Nat.zero_le _, rfl, rfl, World.ownsRow_nil _ _ _ _, s1, g1⟩
  case round =>
    obtain ⟨j, acc, hj, rfl, hl, hown, hst, hgr⟩ := hrel
    have hl' := Lib.hid hl
    clear hl
    by_cases hlt : j < N
    · go_wp2_with fail
      refine (rangeE_c g zs _ _ _ _ hst (by omega) (by omega) (by omega) (by omega)).mono ?_; rintro e w2 ⟨t, rfl, ht0, ht1, s2, g2⟩
      have hgr2 := grown_trans hgr g2
      have hown2 := own_keep hown hglt g2
      clear hst g2 hown hgr
      go_wp2_with fail
      refine (pickB_c g zs _ [0, 10, 35, -1, -3, -4, -20] (-20) 35 _ _ _ _ _ s2 (by omega) rfl (by simp) rfl (by decide) (by decide) (by decide)).mono ?_; rintro e w3 ⟨p, rfl, hp0, hp1, s3, g3⟩
      have hgr3 := grown_trans hgr2 g3
      have hown3 := own_keep hown2 hglt g3
      have hz3 := hgr3.size
      clear s2 g3 hown2 hgr2
      go_wp2_with (at_builtin; refine wpList_app rfl (.tmp 11) (.tmp 19) 77 rfl Tryd.underlying77 info_take rfl (by omega) (by omega) hown3 rfl rfl (by first | rfl | (simp; done)) rfl (by simp [Value.oneCell']) (by omega) hz3 ?_; intro v4 w4 hown4 hg4)
      have hgr4 := grown_own hgr3 hg4 (own_row_lt hown3)
      have hst4 := s3.grown hg4 (fun i hi => by have := own_row_lt hown3 i hi; omega)
      go_roundw
      case rel =>
        refine ⟨j + 1, acc ++ [(t, t + p)], by omega, by go_num, by rw [List.length_append, hl'.out]; rfl, by rw [← flat_snoc]; exact hown4, ?_, hgr4⟩
        rw [show k + 1 + 2 * (j + 1) = k + 1 + 2 * j + 1 + 1 from by omega]; exact hst4
      case measure => simp [intOf]; omega
    · obtain rfl : j = N := by omega
      obtain ⟨A, c, rfl⟩ := own_shape hown
      by_cases hj0 : j = 0
      · subst hj0
        go_wp2
        go_ret
        exact ⟨A, 0, c, acc, _, rfl, RN.of_own takeE_len hown hl'.out (by omega), hst, by omega, hgr⟩
      · have hjp : 0 < j := by omega
        go_wp2_with fail
        refine (flipE_c g zs _ _ _ hst (by omega) (by omega) (by omega)).mono ?_; rintro e w2 ⟨fl, rfl, s2, g2⟩
        have hgr2 := grown_trans hgr g2
        have hown2 := own_keep hown hglt g2
        clear hst g2 hown hgr
        cases fl
        · go_wp2
          go_ret
          exact ⟨A, j, c, acc, _, rfl, RN.of_own takeE_len hown2 hl'.out (by omega), s2, by omega, hgr2⟩
        · go_wp2_with fail
          refine (oddE_c g zs _ _ _ _ s2 (by omega) (by omega) (by omega) (by omega)).mono ?_; rintro e w3 ⟨v, rfl, hv0, hv1, s3, g3⟩
          have hgr3 := grown_trans hgr2 g3
          have hown3 := own_keep hown2 hglt g3
          clear s2 g3 hown2 hgr2
          obtain ⟨b, rfl, hb⟩ := own_someN hown3 hjp
          obtain ⟨p, r, rfl⟩ : ∃ p r, acc = p :: r := by
            cases acc with
            | nil => have := hl'.out; simp at this; omega
            | cons p r => exact ⟨p, r, rfl⟩
          have hc0 : w3.cell? ⟨b, 0, none⟩ = some (.int .i64 p.1) := by rw [hown3.cellAt 0 (by omega)]; rfl
          have hf0 := hown3.frozenAt 0
          have hst := hown3.stored 0 (.int .i64 v)
          have hgr4 := grown_own hgr3 hst.2 (fun i hi => by injection hi with hi; omega)
          have s4 := s3.setOther (p := ⟨b, 0, none⟩) (show g < b by omega) (.int .i64 v)
          have hr4 : RTk (w3.setCell ⟨b, 0, none⟩ (.int .i64 v)) (some ⟨b, 0, none⟩) j ((v, p.2) :: r) := RN.of_own takeE_len hst.1 (by have := hl'.out; simpa using this) (by omega)
          have H := Lib.hid (And.intro hr4 (And.intro s4 hgr4))
          have hcj := own_capN hown3
          clear hst hgr4 s4 hr4 hown3 hgr3 s3
          go_wp2
          go_ret
          exact ⟨_, j, c, _, _, rfl, H.out.1, H.out.2.1, by omega, H.out.2.2⟩
end Go.Proofs.YtjfppcejcbfngaaDoor
