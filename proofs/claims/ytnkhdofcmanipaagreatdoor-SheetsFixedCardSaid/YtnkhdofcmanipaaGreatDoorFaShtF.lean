/- tumbref1.SheetsFault. -/
import Derived.Test.YtnkhdofcmanipaaGreatDoorFaFixE
namespace Go.Proofs.YtnkhdofcmanipaaGreatDoor
open Go.RowKit
set_option linter.unusedVariables false

def sheetsV (S : List Shd) : Int := if 10 < S.length then 2 else shtErr none S
set_option maxHeartbeats 3200000 in
set_option maxRecDepth 100000 in
theorem sheetsFault_c (A : Option Addr) (n c : Nat) (S : List Shc) (w : World) (h : RSh w A n S) :
    Calls Tryz.prog 30 #[.slice A n c] w fun e w' => e = .returned (.int .i64 (sheetsV (S.map Shc.dat))) ∧ Below w.heap.size w w' := by
  have hlen := h.len
  have hE := Lib.hid (show sheetsV (S.map Shc.dat) = if 10 < n then 2 else shtErr none (S.map Shc.dat) by unfold sheetsV; rw [List.length_map, hlen])
  have hRs := Lib.hid (fun W (B : Below w.heap.size w W) => h.below B)
  have hlen' := Lib.hid hlen
  generalize sheetsV (S.map Shc.dat) = E at *
  have hAt := Lib.hid (fun o (k : Nat) x (h : S[k]? = some x) => shtErr_at (S := S.map Shc.dat) (x := x.dat) (k := k) o (by rw [List.getElem?_map, h]; rfl))
  have hS0 := Lib.hid (fun o => show shtErr o [] = 0 by cases o <;> rfl)
  have hpl := Lib.hid (fun (k : Nat) x (h : S[k]? = some x) => show prevL (S.map Shc.dat) (k + 1) = some x.lane by unfold prevL; rw [if_neg (by omega), List.getElem?_map, Nat.add_sub_cancel, h]; rfl)
  have hp0 := Lib.hid (show prevL (S.map Shc.dat) 0 = none from if_pos rfl)
  have hnb : n ≤ 140737488355328 := h.1.bd
  generalize shtErr = SE at *
  clear h hlen
  go_enter Tryz.func30, Tryz.ntmps30
  by_cases h10 : 10 < n
  · obtain rfl : E = 2 := by rw [hE.out, if_pos h10]
    have h0' : (10 : Int) < n := by omega
    clear hE
    go_wp2
    go_ret
    exact ⟨rfl, Below.refl _ _⟩
  have hE5 := Lib.hid (hE.out.trans (if_neg h10))
  have h0' : ¬ (10 : Int) < n := by omega
  clear hE
  go_wp2_with fail
  go_loopw [3, 4, 10] (fun _ _ i wr => ∃ k : Nat, k ≤ n ∧ i = .int .i64 k ∧ Below w.heap.size w wr ∧ Hid (SE (prevL (S.map Shc.dat) k) ((S.map Shc.dat).drop k) = SE none (S.map Shc.dat))) (fun _ _ i _ => n - (intOf i).toNat)
  case atStart => exact ⟨0, Nat.zero_le _, rfl, Below.refl _ _, Lib.hid (by rw [hp0.out, List.drop_zero])⟩
  case round =>
    rename World => wr
    obtain ⟨k, hk, rfl, hB, hF⟩ := hrel
    by_cases hlt : k < n
    · have hlti : (k : Int) < n := by omega
      obtain ⟨bs, os, x, hAe, hbl, hx, c0, c1, c2, c3, hxl⟩ := (hRs.out _ hB).at4 hlt
      have hSk := Lib.hid ((hAt.out (prevL (S.map Shc.dat) k) k x hx).symm.trans hF.out)
      have hpk := Lib.hid (hpl.out k x hx)
      obtain ⟨xl, xA, xn, xc, xp, xt, xb⟩ := x
      dsimp only [Shc.dat] at c0 c1 c2 c3 hxl hSk hpk
      have hn0 := heap_alloc_new wr (.cells #[.int .i64 xl, .slice xA xn xc, .int .i64 xt, .int .i64 xb] 62)
      have hBn := below_new wr (.cells #[.int .i64 xl, .slice xA xn xc, .int .i64 xt, .int .i64 xb] 62)
      have hB9 := below_next hB hBn
      have y0 := (blk_facts hn0).1 0
      subst hAe
      by_cases h1 : 1 ≤ xl ∧ xl ≤ 10
      rotate_left
      · have hd : decide (1 ≤ xl ∧ xl ≤ 10) = false := decide_eq_false h1
        obtain rfl : E = 1 := hE5.out.trans (hSk.out.symm.trans (if_pos h1))
        clear hSk hE5 h1 hF
        go_wp2_with (go_at_call 50; refine (in_c _ _ _ _).mono ?_; rintro e w' ⟨rfl, rfl⟩; rw [hd])
        go_ret
        exact ⟨rfl, hB9⟩
      have hSk2 := Lib.hid (hSk.out.symm.trans (if_neg (not_not_intro h1))).symm
      have hd : decide (1 ≤ xl ∧ xl ≤ 10) = true := decide_eq_true h1
      clear hSk h1 hF
      go_upto_region 8 with (go_at_call 50; refine (in_c _ _ _ _).mono ?_; rintro e w' ⟨rfl, rfl⟩; rw [hd])
      clear hd
      by_cases hk0 : k = 0
      · subst hk0
        have hSk3 := Lib.hid (show SE (some xl) ((S.map Shc.dat).drop (0 + 1)) = SE none (S.map Shc.dat) by have h9 := hSk2.out; rw [hp0.out] at h9; exact h9)
        have e9 : decide ((0 : Int) < ((0 : Nat) : Int)) = false := by decide
        have e8 : decide ((0 : Int) < 0) = false := by decide
        have e7 : decide (0 < 0) = false := by decide
        clear hSk2
        go_quiet (fail)
        go_wp2
        go_roundw
        case rel => exact ⟨0 + 1, by omega, by go_num, below_drewN hB9 _, Lib.hid (by rw [hpk.out]; exact hSk3.out)⟩
        case measure => simp [intOf]; omega
      · obtain ⟨bs2, os2, p, hAe2, hbl2, hp, d0, d1, d2, d3, hpl2⟩ := (hRs.out _ hB).at4 (k := k - 1) (by omega)
        injection hAe2 with hAe2
        injection hAe2 with q1 q2
        subst q1 q2
        have hpv : prevL (S.map Shc.dat) k = some p.lane := by
          have h9 := hpl.out (k - 1) p hp
          rwa [Nat.sub_add_cancel (by omega)] at h9
        obtain ⟨pl, pA, pn, pc, pp, pt, pb⟩ := p
        dsimp only at *
        have hSk3 := Lib.hid (show (if decide (xl ≤ pl) = true then (7 : Int) else SE (some xl) ((S.map Shc.dat).drop (k + 1))) = SE none (S.map Shc.dat) by have h9 := hSk2.out; rw [hpv] at h9; exact h9)
        have e8 : decide (0 < k) = true := decide_eq_true (by omega)
        have e9 : decide ((0 : Int) < (k : Int)) = true := decide_eq_true (by omega)
        have u1 : IntKind.i64.wrap ((k : Int) - 1) = (k : Int) - 1 := IntWalk.i64_in _ (by omega)
        have u2 : 0 ≤ (k : Int) - 1 := by omega
        have u3 : ((k : Int) - 1).toNat = k - 1 := by omega
        have u4 : (k : Int) - 1 < n := by omega
        have u5 : (1 : Int) ≤ (k : Int) := by omega
        have u6 : (k : Int) - 1 < 9223372036854775808 := by omega
        have e0 : (wr.alloc (.cells #[.int .i64 xl, .slice xA xn xc, .int .i64 xt, .int .i64 xb] 62)).cell? ⟨bs, os + (k - 1) * 4, none⟩ = some (.int .i64 pl) := (hBn.cell (p := ⟨bs, os + (k - 1) * 4, none⟩) hbl).trans d0
        clear hp d0 d1 d2 d3 hpl2 hpv hSk2
        by_cases hle : xl ≤ pl
        · obtain rfl : E = 7 := hE5.out.trans (hSk3.out.symm.trans (if_pos (decide_eq_true hle)))
          have e10 : decide (xl ≤ pl) = true := decide_eq_true hle
          clear hSk3 hE5 hle
          go_quiet (fail)
          go_wp2
          go_ret
          exact ⟨rfl, below_drewN hB9 _⟩
        · have e10 : decide (xl ≤ pl) = false := decide_eq_false hle
          have hSk4 := Lib.hid (show SE (some xl) ((S.map Shc.dat).drop (k + 1)) = SE none (S.map Shc.dat) by have h9 := hSk3.out; rwa [if_neg (by rw [e10]; decide)] at h9)
          clear hSk3 hle
          go_quiet (fail)
          go_wp2
          go_roundw
          case rel => exact ⟨k + 1, by omega, by go_num, below_drewN hB9 _, Lib.hid (by rw [hpk.out]; exact hSk4.out)⟩
          case measure => simp [intOf]; omega
    · obtain rfl : k = n := by omega
      obtain rfl : E = 0 := by
        have h9 := hF.out
        rw [drop_end (by rw [List.length_map, hlen'.out]; exact Nat.le_refl _), hS0.out] at h9
        rw [hE5.out, ← h9]
      clear hE5 hF
      go_wp2
      go_ret
      exact ⟨rfl, hB⟩
end Go.Proofs.YtnkhdofcmanipaaGreatDoor
