/- The reference's check of turns. -/
import Derived.Test.YtjfppcejcbfngaaDoorTrn2
namespace Go.Proofs.YtjfppcejcbfngaaDoor
open Go.RowKit
set_option linter.unusedVariables false

theorem turnErr_cases (t : Trn) : (turnErr t = 4 ∧ ¬ (1 ≤ t.stroke ∧ t.stroke ≤ 5)) ∨ ((1 ≤ t.stroke ∧ t.stroke ≤ 5) ∧ ((turnErr t = 1 ∧ ¬ (50 ≤ t.metres ∧ t.metres ≤ 1500)) ∨ ((50 ≤ t.metres ∧ t.metres ≤ 1500) ∧ ((turnErr t = 1 ∧ ¬ (0 ≤ t.fixed ∧ t.fixed ≤ 6000)) ∨ ((0 ≤ t.fixed ∧ t.fixed ≤ 6000) ∧ ((turnErr t = 3 ∧ ¬ (1 ≤ t.den ∧ t.den ≤ 10000)) ∨ ((1 ≤ t.den ∧ t.den ≤ 10000) ∧ ((turnErr t = 3 ∧ ¬ (0 ≤ t.num ∧ t.num ≤ t.den)) ∨ ((0 ≤ t.num ∧ t.num ≤ t.den) ∧ ((turnErr t = 3 ∧ ¬ (Int.gcd t.num t.den : Int) = 1) ∨ (turnErr t = 0 ∧ (Int.gcd t.num t.den : Int) = 1))))))))))) := by
  unfold turnErr
  by_cases h1 : 1 ≤ t.stroke ∧ t.stroke ≤ 5
  · rw [if_neg (by omega)]
    by_cases h2 : 50 ≤ t.metres ∧ t.metres ≤ 1500
    · by_cases h3 : 0 ≤ t.fixed ∧ t.fixed ≤ 6000
      · rw [if_neg (by omega)]
        by_cases h4 : 1 ≤ t.den ∧ t.den ≤ 10000
        · by_cases h5 : 0 ≤ t.num ∧ t.num ≤ t.den
          · by_cases h6 : (Int.gcd t.num t.den : Int) = 1
            · rw [if_neg (by omega)]; omega
            · rw [if_pos (by omega)]; omega
          · rw [if_pos (by omega)]; omega
        · rw [if_pos (by omega)]; omega
      · rw [if_pos (by omega)]; omega
    · rw [if_pos (by omega)]; omega
  · rw [if_pos (by omega)]; omega
set_option maxHeartbeats 6400000 in
set_option maxRecDepth 100000 in
theorem turnsFault_c (A : Option Addr) (n c : Nat) (l : List Trn) (w : World) (h : RTn w A n l) :
    Calls Tryd.prog 71 #[.slice A n c] w fun e w' => e = .returned (.int .i64 (turnsErr l)) ∧ Below w.heap.size w w' := by
  have hl := h.len
  have hb := h.bd
  have hE : turnsErr l = if 100 < n then 2 else turnsGo none l := by unfold turnsErr; rw [hl]
  generalize turnsErr l = E at *
  have hE' := Lib.hid hE
  clear hE hl
  by_cases hbig : 100 < n
  · go_enter Tryd.func71, Tryd.ntmps71
    go_wp2
    go_ret
    exact ⟨ret_i (by rw [hE'.out, if_pos hbig]), Below.refl _ _⟩
  go_enter Tryd.func71, Tryd.ntmps71
  go_wp2
  go_loopw [11] (fun i wr => ∃ k : Nat, k ≤ n ∧ i = .int .i64 k ∧ Below w.heap.size w wr ∧ Hid (turnsGo (prevT l k) (l.drop k) = turnsGo none l)) (fun i _ => n - (intOf i).toNat)
  case atStart => exact ⟨0, Nat.zero_le _, rfl, Below.refl _ _, Lib.hid rfl⟩
  case round =>
    obtain ⟨k, hk, rfl, hB, hF⟩ := hrel
    by_cases hlt : k < n
    · obtain ⟨b, off, x, rfl, hbl, hx, c0, c1, c2, c3, c4⟩ := RTn.at5 (h.below hB) hlt
      have hS := Lib.hid (turnsGo_at (prevT l k) hx)
      have hP := Lib.hid (prevT_succ hx)
      have hB1 := hB.alloc hB.size (.cells #[.int .i64 x.stroke, .int .i64 x.metres, .int .i64 x.num, .int .i64 x.den, .int .i64 x.fixed] 160)
      have hB2 := hB1.alloc hB1.size (.cells #[.int .i64 x.num, .int .i64 x.den] 51)
      have hcs := turnErr_cases x
      have hD := fun W (h1 : 0 ≤ x.num) (h2 : 1 ≤ x.den) h3 h4 => divisor_c x.num x.den W h1 (by omega) h3 h4
      generalize turnErr x = X at *
      obtain ⟨x0, x1, x2, x3, x4⟩ := x
      dsimp only [Trn.val, Trn.cells] at *
      have hD' := Lib.hid hD
      clear hx hD hB1
      generalize ((Int.gcd x2 x3 : Nat) : Int) = gg at *
      rcases hcs with ⟨rfl, h1⟩ | ⟨h1, ⟨rfl, h2⟩ | ⟨h2, ⟨rfl, h3⟩ | ⟨h3, ⟨rfl, h4⟩ | ⟨h4, ⟨rfl, h5⟩ | ⟨h5, ⟨rfl, h6⟩ | ⟨rfl, rfl⟩⟩⟩⟩⟩⟩
      · have hR := Lib.hid (hF.out.symm.trans (hS.out.trans (if_pos (by omega))))
        have dS := Lib.hid (show decide (1 ≤ x0 ∧ x0 ≤ 5) = false by simp; omega)
        clear hS hF hP h1
        go_wp2_with (first | (go_at_call 106; refine (in_c _ _ _ _).mono ?_; rintro e w' ⟨rfl, rfl⟩; first | rw [dS.out]) | (go_at_call 116; refine (hD'.out _ (by omega) (by omega) (by omega) (by omega)).mono ?_; rintro e w' ⟨rfl, q, rfl⟩))
        go_ret
        exact ⟨ret_i (by rw [hE'.out, if_neg hbig, hR.out]), hB2⟩
      · have hR := Lib.hid (hF.out.symm.trans (hS.out.trans (if_pos (by omega))))
        have dS := Lib.hid (show decide (1 ≤ x0 ∧ x0 ≤ 5) = true by simp; omega)
        have dM := Lib.hid (show decide (50 ≤ x1 ∧ x1 ≤ 1500) = false by simp; omega)
        clear hS hF hP h1 h2
        go_wp2_with (first | (go_at_call 106; refine (in_c _ _ _ _).mono ?_; rintro e w' ⟨rfl, rfl⟩; first | rw [dS.out] | rw [dM.out]) | (go_at_call 116; refine (hD'.out _ (by omega) (by omega) (by omega) (by omega)).mono ?_; rintro e w' ⟨rfl, q, rfl⟩))
        go_ret
        exact ⟨ret_i (by rw [hE'.out, if_neg hbig, hR.out]), hB2⟩
      · have hR := Lib.hid (hF.out.symm.trans (hS.out.trans (if_pos (by omega))))
        have dS := Lib.hid (show decide (1 ≤ x0 ∧ x0 ≤ 5) = true by simp; omega)
        have dM := Lib.hid (show decide (50 ≤ x1 ∧ x1 ≤ 1500) = true by simp; omega)
        have dF := Lib.hid (show decide (0 ≤ x4 ∧ x4 ≤ 6000) = false by simp; omega)
        clear hS hF hP h1 h2 h3
        go_wp2_with (first | (go_at_call 106; refine (in_c _ _ _ _).mono ?_; rintro e w' ⟨rfl, rfl⟩; first | rw [dS.out] | rw [dM.out] | rw [dF.out]) | (go_at_call 116; refine (hD'.out _ (by omega) (by omega) (by omega) (by omega)).mono ?_; rintro e w' ⟨rfl, q, rfl⟩))
        go_ret
        exact ⟨ret_i (by rw [hE'.out, if_neg hbig, hR.out]), hB2⟩
      · have hR := Lib.hid (hF.out.symm.trans (hS.out.trans (if_pos (by omega))))
        have dS := Lib.hid (show decide (1 ≤ x0 ∧ x0 ≤ 5) = true by simp; omega)
        have dM := Lib.hid (show decide (50 ≤ x1 ∧ x1 ≤ 1500) = true by simp; omega)
        have dF := Lib.hid (show decide (0 ≤ x4 ∧ x4 ≤ 6000) = true by simp; omega)
        have dD := Lib.hid (show decide (1 ≤ x3 ∧ x3 ≤ 10000) = false by simp; omega)
        clear hS hF hP h1 h2 h3 h4
        go_wp2_with (first | (go_at_call 106; refine (in_c _ _ _ _).mono ?_; rintro e w' ⟨rfl, rfl⟩; first | rw [dS.out] | rw [dM.out] | rw [dF.out] | rw [dD.out]) | (go_at_call 116; refine (hD'.out _ (by omega) (by omega) (by omega) (by omega)).mono ?_; rintro e w' ⟨rfl, q, rfl⟩))
        go_ret
        exact ⟨ret_i (by rw [hE'.out, if_neg hbig, hR.out]), hB2⟩
      · have hR := Lib.hid (hF.out.symm.trans (hS.out.trans (if_pos (by omega))))
        have dS := Lib.hid (show decide (1 ≤ x0 ∧ x0 ≤ 5) = true by simp; omega)
        have dM := Lib.hid (show decide (50 ≤ x1 ∧ x1 ≤ 1500) = true by simp; omega)
        have dF := Lib.hid (show decide (0 ≤ x4 ∧ x4 ≤ 6000) = true by simp; omega)
        have dD := Lib.hid (show decide (1 ≤ x3 ∧ x3 ≤ 10000) = true by simp; omega)
        have dN := Lib.hid (show decide (0 ≤ x2 ∧ x2 ≤ x3) = false by simp; omega)
        clear hS hF hP h1 h2 h3 h4 h5
        go_wp2_with (first | (go_at_call 106; refine (in_c _ _ _ _).mono ?_; rintro e w' ⟨rfl, rfl⟩; first | rw [dS.out] | rw [dM.out] | rw [dF.out] | rw [dD.out] | rw [dN.out]) | (go_at_call 116; refine (hD'.out _ (by omega) (by omega) (by omega) (by omega)).mono ?_; rintro e w' ⟨rfl, q, rfl⟩))
        go_ret
        exact ⟨ret_i (by rw [hE'.out, if_neg hbig, hR.out]), hB2⟩
      · have hR := Lib.hid (hF.out.symm.trans (hS.out.trans (if_pos (by omega))))
        have dS := Lib.hid (show decide (1 ≤ x0 ∧ x0 ≤ 5) = true by simp; omega)
        have dM := Lib.hid (show decide (50 ≤ x1 ∧ x1 ≤ 1500) = true by simp; omega)
        have dF := Lib.hid (show decide (0 ≤ x4 ∧ x4 ≤ 6000) = true by simp; omega)
        have dD := Lib.hid (show decide (1 ≤ x3 ∧ x3 ≤ 10000) = true by simp; omega)
        have dN := Lib.hid (show decide (0 ≤ x2 ∧ x2 ≤ x3) = true by simp; omega)
        have dG : (gg != 1) = true := by simpa using h6
        clear hS hF hP h6
        go_wp2_with (first | (go_at_call 106; refine (in_c _ _ _ _).mono ?_; rintro e w' ⟨rfl, rfl⟩; first | rw [dS.out] | rw [dM.out] | rw [dF.out] | rw [dD.out] | rw [dN.out]) | (go_at_call 116; refine (hD'.out _ (by omega) (by omega) (by omega) (by omega)).mono ?_; rintro e w' ⟨rfl, q, rfl⟩))
        go_ret
        exact ⟨ret_i (by rw [hE'.out, if_neg hbig, hR.out]), below_drewN hB2 _⟩
      · have hS2 := Lib.hid (show turnsGo (prevT l k) (l.drop k) = if ordO (prevT l k) ⟨x0, x1, x2, x3, x4⟩ = true then 7 else turnsGo (some ⟨x0, x1, x2, x3, x4⟩) (l.drop (k + 1)) by rw [hS.out, if_neg (by simp)])
        have dS := Lib.hid (show decide (1 ≤ x0 ∧ x0 ≤ 5) = true by simp; omega)
        have dM := Lib.hid (show decide (50 ≤ x1 ∧ x1 ≤ 1500) = true by simp; omega)
        have dF := Lib.hid (show decide (0 ≤ x4 ∧ x4 ≤ 6000) = true by simp; omega)
        have dD := Lib.hid (show decide (1 ≤ x3 ∧ x3 ≤ 10000) = true by simp; omega)
        have dN := Lib.hid (show decide (0 ≤ x2 ∧ x2 ≤ x3) = true by simp; omega)
        clear hS
        go_wp2_with (first | (go_at_call 106; refine (in_c _ _ _ _).mono ?_; rintro e w' ⟨rfl, rfl⟩; first | rw [dS.out] | rw [dM.out] | rw [dF.out] | rw [dD.out] | rw [dN.out]) | (go_at_call 116; refine (hD'.out _ (by omega) (by omega) (by omega) (by omega)).mono ?_; rintro e w' ⟨rfl, q, rfl⟩))
        by_cases hk0 : k = 0
        · subst hk0
          have hS3 := Lib.hid (show turnsGo (some ⟨x0, x1, x2, x3, x4⟩) (l.drop (0 + 1)) = turnsGo none l by rw [← hF.out, hS2.out]; rfl)
          clear hF hS2
          go_quiet (fail)
          go_wp2
          go_roundw
          case rel => exact ⟨0 + 1, by omega, by go_num, below_drewN hB2 _, Lib.hid (by rw [hP.out, hS3.out])⟩
          case measure => simp [intOf]; omega
        · have hB3 := below_drewN hB2 q
          have hbox : ∀ i, ((((wr.alloc (.cells #[.int .i64 x0, .int .i64 x1, .int .i64 x2, .int .i64 x3, .int .i64 x4] 160)).alloc (.cells #[.int .i64 x2, .int .i64 x3] 51)).drewN q).cell? ⟨wr.heap.size, i, none⟩ = (#[.int .i64 x0, .int .i64 x1, .int .i64 x2, .int .i64 x3, .int .i64 x4] : Array Value)[i]?) := (blk_facts (blk_alloc (heap_alloc_new wr (.cells #[.int .i64 x0, .int .i64 x1, .int .i64 x2, .int .i64 x3, .int .i64 x4] 160)) (.cells #[.int .i64 x2, .int .i64 x3] 51))).1
          clear c0 c1 c2 c3 c4 hB2 hbl hB
          generalize hW : (((wr.alloc (.cells #[.int .i64 x0, .int .i64 x1, .int .i64 x2, .int .i64 x3, .int .i64 x4] 160)).alloc (.cells #[.int .i64 x2, .int .i64 x3] 51)).drewN q) = W3 at *
          have hWs : wr.heap.size < W3.heap.size := by rw [← hW]; simp; omega
          clear hW
          have b0 := hbox 0
          have b1 := hbox 1
          obtain ⟨b', off', y, hA', hbl', hy, d0, d1, _, _, _⟩ := RTn.at5 (h.below hB3) (k := k - 1) (by omega)
          injection hA' with hA'
          injection hA' with e1 e2
          subst e1 e2
          have hPk : prevT l k = some y := by unfold prevT; rw [if_neg hk0]; exact hy
          have hS3 := Lib.hid (show turnsGo none l = if ordB y ⟨x0, x1, x2, x3, x4⟩ = true then 7 else turnsGo (some ⟨x0, x1, x2, x3, x4⟩) (l.drop (k + 1)) by rw [← hF.out, hS2.out, hPk]; rfl)
          have hO := Lib.hid (show ordB y ⟨x0, x1, x2, x3, x4⟩ = decide (0 ≤ orV [cmpV y.stroke x0, cmpV y.metres x1]) from rfl)
          clear hF hS2 hy hPk
          generalize y.stroke = y0 at *
          generalize y.metres = y1 at *
          have hkp : ((k : Int) > 0) := by omega
          have e2 : (0 : Int) ≤ (k : Int) - 1 := by omega
          have e4 : (k : Int) - 1 < n := by omega
          have e1 : IntKind.i64.wrap ((k : Int) - 1) = (k : Int) - 1 := IntWalk.i64_in _ (by omega)
          have e3 : ((k : Int) - 1).toNat = k - 1 := by omega
          have e6 : 0 < k := by omega
          have e9 : (1 : Int) ≤ (k : Int) := by omega
          have e10 : (k : Int) ≤ n := by omega
          have e11 : (k : Int) < n := by omega
          have e7 : decide (0 < k) = true := decide_eq_true e6
          have e8 : decide ((0 : Int) < (k : Int)) = true := decide_eq_true (by omega)
          go_region_held3 (fun w' => w'.cell? ⟨b, off + (k - 1) * 5, none⟩ = some (.int .i64 y0) ∧ w'.cell? ⟨b, off + (k - 1) * 5 + 1, none⟩ = some (.int .i64 y1) ∧ w'.cell? ⟨wr.heap.size, 0, none⟩ = some (.int .i64 x0) ∧ w'.cell? ⟨wr.heap.size, 1, none⟩ = some (.int .i64 x1)) (go_keep)
            (first
              | (go_at_call 130; refine (compare_c _ _ _).mono ?_; rintro e w' ⟨rfl, rfl⟩)
              | (go_at_call 129; refine (orI_c _ _ _ [cmpV y0 x0, cmpV y1 x1] _ (R1.litAt _ _ _ _ (by simp) rfl (by simp)).drew).mono ?_; rintro e w' ⟨rfl, rfl⟩))
          clear e1 e2 e3 e4 e6 e7 e8 e9 e10 e11 hkp
          rw [hO.out] at hS3
          have hz := below_drewN (hB3.alloc hB3.size (.cells #[.int .i64 (cmpV y0 x0), .int .i64 (cmpV y1 x1)] 3)) 1
          generalize orV [cmpV y0 x0, cmpV y1 x1] = q at *
          by_cases hq : 0 ≤ q
          · have hR := Lib.hid (show turnsGo none l = 7 by rw [hS3.out, decide_eq_true hq]; rfl)
            go_wp2
            go_ret
            exact ⟨ret_i (by rw [hE'.out, if_neg hbig, hR.out]), hz⟩
          · have hR := Lib.hid (show turnsGo (some ⟨x0, x1, x2, x3, x4⟩) (l.drop (k + 1)) = turnsGo none l by rw [hS3.out, decide_eq_false hq]; rfl)
            go_wp2
            go_roundw
            case rel => exact ⟨k + 1, by omega, by go_num, hz, Lib.hid (by rw [hP.out, hR.out])⟩
            case measure => simp [intOf]; omega
    · have hS : Hid (turnsGo none l = 0) := Lib.hid (by rw [← hF.out, drop_end (by rw [h.len]; omega)]; unfold turnsGo; rfl)
      go_wp2
      go_ret
      exact ⟨ret_i (by rw [hE'.out, if_neg hbig, hS.out]), hB⟩
end Go.Proofs.YtjfppcejcbfngaaDoor
