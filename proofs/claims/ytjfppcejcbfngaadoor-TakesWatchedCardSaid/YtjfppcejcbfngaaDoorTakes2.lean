/- Take-overs and false starts, second part. -/
import Derived.Test.YtjfppcejcbfngaaDoorTakes
import Derived.Test.YtjfppcejcbfngaaDoorApp2
import Derived.Test.YtjfppcejcbfngaaDoorReady1
namespace Go.Proofs.YtjfppcejcbfngaaDoor
open Go.RowKit
set_option linter.unusedVariables false

theorem takeOvers_err (A : Option Addr) (n c : Nat) (l : List (Int × Int)) (w : World) (h : RTk w A n l) (h0 : takesErr l ≠ 0) :
    Calls Tryd.prog 54 #[.slice A n c] w fun e w' => e = .returned (.tuple #[.slice none 0 0, .int .i64 0, .int .i64 (takesErr l)]) ∧ Below w.heap.size w w' := by
  have hC := Lib.hid (fun W => checkTakes_c A n c l W)
  generalize takesErr l = E at *
  have ht : (E != 0) = true := by simpa using h0
  clear h0
  go_enter Tryd.func54, Tryd.ntmps54
  go_wp2_with fail
  refine (hC.out _ h).mono ?_; rintro e w1 ⟨rfl, B1⟩
  go_wp2
  go_ret3
  exact ⟨rfl, B1⟩
set_option maxHeartbeats 1600000 in
set_option maxRecDepth 100000 in
theorem takeOvers_c (A : Option Addr) (n c : Nat) (l : List (Int × Int)) (w : World) (h : RTk w A n l) (h0 : takesErr l = 0) :
    Calls Tryd.prog 54 #[.slice A n c] w fun e w' => ∃ A' c', e = .returned (.tuple #[.slice A' n c', .int .i64 (firstT (-1) 0 l), .int .i64 0]) ∧ RI 3 w' A' n (diffT l) ∧ Below w.heap.size w w' := by
  obtain ⟨hn, hbad⟩ := takesErr_ok h0
  rw [h.len] at hn
  have hbd : ∀ (k : Nat) (x y : Int), l[k]? = some (x, y) → 0 ≤ x ∧ x ≤ 360000 ∧ 0 ≤ y ∧ y ≤ 360000 := fun k x y hx => badT_bd hbad hx
  have hbd' := Lib.hid hbd
  have hC := checkTakes_c A n c l
  rw [h0] at hC
  have hC' := Lib.hid hC
  clear hbd hbad h0 hC
  go_enter Tryd.func54, Tryd.ntmps54
  go_wp2_with fail
  refine (hC'.out _ h).mono ?_; rintro e w1 ⟨rfl, B1⟩
  replace h := h.below B1
  go_wp2
  go_loopw [6, 7, 17] (fun f out i wr => ∃ (k : Nat) (fv : Int) (acc : List Int), k ≤ n ∧ i = .int .i64 k ∧ f = .int .i64 fv ∧ wr.ownsRow w1.heap.size 3 1 out k (ints acc) ∧ Below w1.heap.size w1 wr ∧ -1 ≤ fv ∧ Hid (acc ++ diffT (l.drop k) = diffT l) ∧ Hid (firstT fv k (l.drop k) = firstT (-1) 0 l)) (fun _ _ i _ => n - (intOf i).toNat)
  case atStart => exact ⟨0, -1, [], Nat.zero_le _, rfl, rfl, World.ownsRow_nil _ _ _ _, Below.refl _ _, by omega, Lib.hid rfl, Lib.hid rfl⟩
  case round =>
    obtain ⟨k, fv, acc, hk, rfl, rfl, hown, hB, hfv, hD, hF⟩ := hrel
    by_cases hlt : k < n
    · obtain ⟨b, off, x, y, rfl, hbl, hx, c0, c1⟩ := RTk.at2 (h.below hB) hlt
      have hS := Lib.hid (firstT_at (f := fv) (i := (k : Int)) hx)
      have hT := Lib.hid (diffT_at hx)
      obtain ⟨hx0, hx1, hy0, hy1⟩ := hbd'.out _ _ _ hx
      have hz := hB.size
      have hown1 := hown.alloc (.cells #[.int .i64 x, .int .i64 y] 145)
      clear hx
      go_wp2_with (at_builtin; refine wpList_app rfl (.tmp 22) (.tmp 28) 22 rfl Tryd.underlying22 info_int rfl (by omega) (by omega) hown1 rfl rfl (by simp) rfl (by simp [Value.oneCell']) (by omega) (by simp; omega) ?_; intro v4 w4 hown4 hg4; have hcb := (blk_facts (blk_app hown (Nat.le_refl _) (heap_alloc_new wr _) hg4)).1; have hB4 := below_own (hB.alloc hz _) hown1 hg4 (by simp; omega) (Nat.le_refl _))
      all_goals
        go_roundw
        case rel =>
          refine ⟨k + 1, _, acc ++ [y - x], by omega, by go_num, rfl, by rw [ints_app]; exact hown4, hB4, by omega, Lib.hid (by rw [← hD.out, hT.out]; simp), Lib.hid ?_⟩
          rw [← hF.out, hS.out]
          first | rw [if_pos (by first | omega | (simp_all; done) | (simp_all; omega))] | rw [if_neg (by first | omega | (simp_all; done) | (simp_all; omega))]
          push_cast
          rfl
        case measure => simp [intOf]; omega
    · have hD' : Hid (acc = diffT l) := Lib.hid (by rw [← hD.out, drop_end (by rw [h.len]; omega)]; simp [diffT])
      have hF' : Hid (fv = firstT (-1) 0 l) := Lib.hid (by rw [← hF.out, drop_end (by rw [h.len]; omega)]; rfl)
      obtain rfl : k = n := by omega
      obtain ⟨A', c', rfl⟩ := own_shape hown
      go_wp2
      go_ret3
      exact ⟨A', c', by rw [← hF'.out]; rfl, by rw [← hD'.out]; exact R1.of_own hown (by omega), below_next B1 hB⟩

/-! ## false starts -/
def badS : List Int → Bool
  | [] => false
  | x :: l => if ¬ (0 ≤ x ∧ x ≤ 360000) then true else badS l
def signalErr (s : Int) (l : List Int) : Int := if 10 < l.length then 2 else if badS (s :: l) then 1 else 0
def falseL (s : Int) : Int → List Int → List Int
  | _, [] => []
  | k, x :: l => if x < s then k :: falseL s (k + 1) l else falseL s (k + 1) l
theorem badS_at {l : List Int} {k : Nat} {x : Int} (h : l[k]? = some x) : badS (l.drop k) = if ¬ (0 ≤ x ∧ x ≤ 360000) then true else badS (l.drop (k + 1)) := by rw [drop_at h]; rfl
theorem falseL_at {s i : Int} {l : List Int} {k : Nat} {x : Int} (h : l[k]? = some x) : falseL s i (l.drop k) = if x < s then i :: falseL s (i + 1) (l.drop (k + 1)) else falseL s (i + 1) (l.drop (k + 1)) := by rw [drop_at h]; rfl
def badB (x : Int) : Bool := decide (¬ (0 ≤ x ∧ x ≤ 360000))
theorem signalF1_c (x : Int) (w : World) : Calls Tryd.prog 126 #[.int .i64 x] w fun e w' => e = .returned (.bool (badB x)) ∧ w = w' := by
  go_enter Tryd.func126, Tryd.ntmps126
  go_wp2_with (first | (go_at_call 106; refine (in_c _ _ _ _).mono ?_; rintro e w' ⟨rfl, rfl⟩))
  all_goals (go_ret; exact ⟨ret_b (by unfold badB; first | (rw [Bool.eq_iff_iff]; simp; done) | (rw [Bool.eq_iff_iff]; simp; omega) | (simp; done) | (simp_all; done)), rfl⟩)
theorem badB_at {l : List Int} {k : Nat} {x : Int} (h : l[k]? = some x) : badS (l.drop k) = if badB x then true else badS (l.drop (k + 1)) := by
  rw [badS_at h]; unfold badB; simp only [decide_eq_true_eq]
theorem indexS_c (A : Option Addr) (n c : Nat) (l : List Int) (w : World) (h : RI 3 w A n l) :
    Calls Tryd.prog 155 #[.slice A n c, .func (.func 126) #[] #[]] w fun e w' => ∃ v : Int, e = .returned (.int .i64 v) ∧ Hid (decide (0 ≤ v) = badS l) ∧ ∃ q, w' = w.drewN q := by
  have hb := h.bd
  go_enter Tryd.func155, Tryd.ntmps155
  go_wp2
  go_loopw [8] (fun i wr => ∃ k q : Nat, k ≤ n ∧ i = .int .i64 k ∧ wr = w.drewN q ∧ Hid (badS (l.drop k) = badS l)) (fun i _ => n - (intOf i).toNat)
  case atStart => exact ⟨0, 0, Nat.zero_le _, rfl, rfl, Lib.hid rfl⟩
  case round =>
    obtain ⟨k, q0, hk, rfl, rfl, hF⟩ := hrel
    by_cases hlt : k < n
    · obtain ⟨b, off, x, rfl, hbl, hx, c0⟩ := (h.drewN q0).at_ hlt
      have hS := Lib.hid (badB_at hx)
      clear hx
      go_wp2_with fail
      refine (signalF1_c x _).mono ?_; rintro e w1 ⟨rfl, rfl⟩
      generalize badB x = q at *
      cases q
      · go_wp2
        go_roundw
        case rel => exact ⟨k + 1, _, by omega, by go_num, rfl, Lib.hid (by rw [← hF.out, hS.out, if_neg (by simp)])⟩
        case measure => simp [intOf]; omega
      · go_wp2
        go_ret
        exact ⟨k, rfl, Lib.hid (by rw [← hF.out, hS.out]; simp), _, rfl⟩
    · have hS : Hid (badS l = false) := Lib.hid (by rw [← hF.out, drop_end (by rw [h.len]; omega)]; rfl)
      go_wp2
      go_ret
      exact ⟨-1, rfl, Lib.hid (by rw [hS.out]; rfl), _, rfl⟩
theorem containsS_c (A : Option Addr) (n c : Nat) (l : List Int) (w : World) (h : RI 3 w A n l) :
    Calls Tryd.prog 125 #[.slice A n c, .func (.func 126) #[] #[]] w fun e w' => e = .returned (.bool (badS l)) ∧ ∃ q, w' = w.drewN q := by
  go_enter Tryd.func125, Tryd.ntmps125
  go_wp2_with fail
  refine (indexS_c _ _ _ _ _ h).mono ?_; rintro e w1 ⟨v, rfl, hv, q, rfl⟩
  go_wp2
  go_ret
  exact ⟨ret_b (by rw [← hv.out]), q, rfl⟩
theorem signalFault_c (A : Option Addr) (n c : Nat) (l : List Int) (s : Int) (w : World) (h : RI 3 w A n l) (hA : A = none → c = 0) :
    Calls Tryd.prog 57 #[.int .i64 s, .slice A n c] w fun e w' => e = .returned (.int .i64 (signalErr s l)) ∧ Below w.heap.size w w' := by
  have hl := h.len
  have hb := h.bd
  have hE : signalErr s l = if 10 < n then 2 else if badS (s :: l) then 1 else 0 := by unfold signalErr; rw [hl]
  generalize signalErr s l = E at *
  have hE' := Lib.hid hE
  have hl' := Lib.hid hl
  clear hE hl
  by_cases hbig : 10 < n
  · go_enter Tryd.func57, Tryd.ntmps57
    go_wp2
    go_ret
    exact ⟨ret_i (by rw [hE'.out, if_pos hbig]), Below.refl _ _⟩
  · have hown := own_lit w w.heap.size 3 #[.int .i64 s] 1 rfl (Nat.le_refl _) (by unfold maxLen; omega)
    have hal := (h.alloc (.cells #[.int .i64 s] 3)).src
    go_enter Tryd.func57, Tryd.ntmps57
    go_wp2_with (at_builtin; refine wpList_appR rfl (.tmp 9) (.tmp 10) 22 rfl Tryd.underlying22 info_int rfl (by omega) (by omega) hown rfl (news := ints l) hA hal rfl (by rw [ints_len, hl'.out, Nat.mul_one]) (ints_one l) (by omega) (by simp) ?_; intro v4 w4 hown4 hg4)
    have hB4 : Below w.heap.size w w4 := below_own (below_new w _) hown hg4 (by simp) (Nat.le_refl _)
    obtain ⟨A4, c4, rfl, hA4, hr4⟩ := own_ints (l := s :: l) hown4 (by omega)
    clear hown hal hg4 hown4
    go_wp2_with fail
    refine (containsS_c _ _ _ _ _ hr4).mono ?_; rintro e w1 ⟨rfl, q, rfl⟩
    generalize badS (s :: l) = q at *
    cases q
    · go_wp2
      go_ret
      exact ⟨ret_i (by rw [hE'.out, if_neg hbig]; rfl), below_drewN hB4 _⟩
    · go_wp2
      go_ret
      exact ⟨ret_i (by rw [hE'.out, if_neg hbig]; rfl), below_drewN hB4 _⟩
end Go.Proofs.YtjfppcejcbfngaaDoor
