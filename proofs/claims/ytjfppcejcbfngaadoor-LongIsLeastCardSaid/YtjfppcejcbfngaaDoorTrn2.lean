/- The check of turns: the program's and the reference's. -/
import Derived.Test.YtjfppcejcbfngaaDoorTrn
namespace Go.Proofs.YtjfppcejcbfngaaDoor
open Go.RowKit
set_option linter.unusedVariables false

def ordB (q t : Trn) : Bool := decide (0 ≤ orV [cmpV q.stroke t.stroke, cmpV q.metres t.metres])
def ordO : Option Trn → Trn → Bool
  | none, _ => false
  | some q, t => ordB q t
def turnsGo : Option Trn → List Trn → Int
  | _, [] => 0
  | p, t :: l => if turnErr t ≠ 0 then turnErr t else if ordO p t = true then 7 else turnsGo (some t) l
def turnsErr (l : List Trn) : Int := if 100 < l.length then 2 else turnsGo none l
def prevT (l : List Trn) (k : Nat) : Option Trn := if k = 0 then none else l[k - 1]?
theorem prevT_succ {l : List Trn} {k : Nat} {t : Trn} (h : l[k]? = some t) : prevT l (k + 1) = some t := by unfold prevT; rw [if_neg (by omega)]; exact h
theorem turnsGo_at {l : List Trn} {k : Nat} {t : Trn} (p : Option Trn) (h : l[k]? = some t) : turnsGo p (l.drop k) = if turnErr t ≠ 0 then turnErr t else if ordO p t = true then 7 else turnsGo (some t) (l.drop (k + 1)) := by rw [drop_at h]; rfl

set_option maxHeartbeats 3200000 in
set_option maxRecDepth 100000 in
theorem checkTurns_c (A : Option Addr) (n c : Nat) (l : List Trn) (w : World) (h : RTn w A n l) :
    Calls Tryd.prog 72 #[.slice A n c] w fun e w' => e = .returned (.int .i64 (turnsErr l)) ∧ Below w.heap.size w w' := by
  have hl := h.len
  have hb := h.bd
  have hE : turnsErr l = if 100 < n then 2 else turnsGo none l := by unfold turnsErr; rw [hl]
  generalize turnsErr l = E at *
  have hE' := Lib.hid hE
  clear hE hl
  by_cases hbig : 100 < n
  · go_enter Tryd.func72, Tryd.ntmps72
    go_wp2
    go_ret
    exact ⟨ret_i (by rw [hE'.out, if_pos hbig]), Below.refl _ _⟩
  go_enter Tryd.func72, Tryd.ntmps72
  go_wp2
  go_loopw [11] (fun i wr => ∃ k : Nat, k ≤ n ∧ i = .int .i64 k ∧ Below w.heap.size w wr ∧ Hid (turnsGo (prevT l k) (l.drop k) = turnsGo none l)) (fun i _ => n - (intOf i).toNat)
  case atStart => exact ⟨0, Nat.zero_le _, rfl, Below.refl _ _, Lib.hid rfl⟩
  case round =>
    obtain ⟨k, hk, rfl, hB, hF⟩ := hrel
    by_cases hlt : k < n
    · obtain ⟨b, off, x, rfl, hbl, hx, c0, c1, c2, c3, c4⟩ := RTn.at5 (h.below hB) hlt
      have hS := Lib.hid (turnsGo_at (prevT l k) hx)
      have hP := Lib.hid (prevT_succ hx)
      have hC := Lib.hid (checkTurn_c x)
      generalize turnErr x = X at *
      obtain ⟨x0, x1, x2, x3, x4⟩ := x
      dsimp only [Trn.val, Trn.cells] at *
      clear hx
      go_wp2_with fail
      refine (hC.out _).mono ?_; rintro e w1 ⟨rfl, B1⟩
      have hbox := (blk_facts (blk_below (heap_alloc_new wr _) B1)).1
      have hB1 := below_nextBox hB B1
      clear c0 c1 c2 c3 c4 hC
      by_cases hX : X = 0
      rotate_left
      · have hX1 : (X != 0) = true := by simpa using hX
        have hR := Lib.hid (show turnsGo none l = X by rw [← hF.out, hS.out, if_pos hX])
        clear hX
        go_wp2
        go_ret
        exact ⟨ret_i (by rw [hE'.out, if_neg hbig, hR.out]), hB1⟩
      subst hX
      have hS2 := Lib.hid (show turnsGo (prevT l k) (l.drop k) = if ordO (prevT l k) ⟨x0, x1, x2, x3, x4⟩ = true then 7 else turnsGo (some ⟨x0, x1, x2, x3, x4⟩) (l.drop (k + 1)) by rw [hS.out, if_neg (by simp)])
      clear hS
      by_cases hk0 : k = 0
      · subst hk0
        have hS3 := Lib.hid (show turnsGo (some ⟨x0, x1, x2, x3, x4⟩) (l.drop (0 + 1)) = turnsGo none l by rw [← hF.out, hS2.out]; rfl)
        clear hF hS2
        go_wp2
        go_quiet (fail)
        go_wp2
        go_roundw
        case rel => exact ⟨0 + 1, by omega, by go_num, below_drewN hB1 _, Lib.hid (by rw [hP.out, hS3.out])⟩
        case measure => simp [intOf]; omega
      · obtain ⟨b', off', y, hA', hbl', hy, d0, d1, _, _, _⟩ := RTn.at5 (h.below hB1) (k := k - 1) (by omega)
        injection hA' with hA'
        injection hA' with e1 e2
        subst e1 e2
        have hPk : prevT l k = some y := by unfold prevT; rw [if_neg hk0]; exact hy
        have hS3 := Lib.hid (show turnsGo none l = if ordB y ⟨x0, x1, x2, x3, x4⟩ = true then 7 else turnsGo (some ⟨x0, x1, x2, x3, x4⟩) (l.drop (k + 1)) by rw [← hF.out, hS2.out, hPk]; rfl)
        have hO := Lib.hid (show ordB y ⟨x0, x1, x2, x3, x4⟩ = decide (0 ≤ orV [cmpV y.stroke x0, cmpV y.metres x1]) from rfl)
        clear hF hS2 hy hPk
        generalize y.stroke = y0 at *
        generalize y.metres = y1 at *
        have b0 := hbox 0
        have b1 := hbox 1
        have hkp : ((k : Int) > 0) := by omega
        have e2 : (0 : Int) ≤ (k : Int) - 1 := by omega
        have e4 : (k : Int) - 1 < n := by omega
        have e1 : IntKind.i64.wrap ((k : Int) - 1) = (k : Int) - 1 := IntWalk.i64_in _ (by omega)
        have e3 : ((k : Int) - 1).toNat = k - 1 := by omega
        have e6 : 0 < k := by omega
        have e9 : (1 : Int) ≤ (k : Int) := by omega
        have e10 : (k : Int) ≤ n := by omega
        have e11 : (k : Int) < n := by omega
        have e7 : decide (0 < k) = true := decide_eq_true e6
        have e8 : decide ((0 : Int) < (k : Int)) = true := decide_eq_true (by omega)
        go_wp2_with fail
        go_region_held3 (fun w' => w'.cell? ⟨b, off + (k - 1) * 5, none⟩ = some (.int .i64 y0) ∧ w'.cell? ⟨b, off + (k - 1) * 5 + 1, none⟩ = some (.int .i64 y1) ∧ w'.cell? ⟨wr.heap.size, 0, none⟩ = some (.int .i64 x0) ∧ w'.cell? ⟨wr.heap.size, 1, none⟩ = some (.int .i64 x1)) (go_keep)
          (first
            | (go_at_call 130; refine (compare_c _ _ _).mono ?_; rintro e w' ⟨rfl, rfl⟩)
            | (go_at_call 129; refine (orI_c _ _ _ [cmpV y0 x0, cmpV y1 x1] _ (R1.litAt _ _ _ _ (by simp) rfl (by simp)).drew).mono ?_; rintro e w' ⟨rfl, rfl⟩))
        clear e1 e2 e3 e4 e6 e7 e8 e9 e10 e11 hkp
        rw [hO.out] at hS3
        have hz := below_drewN (hB1.alloc hB1.size (.cells #[.int .i64 (cmpV y0 x0), .int .i64 (cmpV y1 x1)] 3)) 1
        generalize orV [cmpV y0 x0, cmpV y1 x1] = q at *
        by_cases hq : 0 ≤ q
        · have hR := Lib.hid (show turnsGo none l = 7 by rw [hS3.out, decide_eq_true hq]; rfl)
          go_wp2
          go_ret
          exact ⟨ret_i (by rw [hE'.out, if_neg hbig, hR.out]), hz⟩
        · have hR := Lib.hid (show turnsGo (some ⟨x0, x1, x2, x3, x4⟩) (l.drop (k + 1)) = turnsGo none l by rw [hS3.out, decide_eq_false hq]; rfl)
          go_wp2
          go_roundw
          case rel => exact ⟨k + 1, by omega, by go_num, hz, Lib.hid (by rw [hP.out, hR.out])⟩
          case measure => simp [intOf]; omega
    · have hS : Hid (turnsGo none l = 0) := Lib.hid (by rw [← hF.out, drop_end (by rw [h.len]; omega)]; unfold turnsGo; rfl)
      go_wp2
      go_ret
      exact ⟨ret_i (by rw [hE'.out, if_neg hbig, hS.out]), hB⟩
end Go.Proofs.YtjfppcejcbfngaaDoor
