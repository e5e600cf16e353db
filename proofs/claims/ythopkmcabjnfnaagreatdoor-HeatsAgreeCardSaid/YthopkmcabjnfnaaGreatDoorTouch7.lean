/- timing.Heat and timing.Shift, errors and answers in one. -/
import Derived.Test.YthopkmcabjnfnaaGreatDoorTouch6
namespace Go.Proofs.YthopkmcabjnfnaaGreatDoor
open Go.RowKit
set_option linter.unusedVariables false

set_option maxHeartbeats 3200000 in
set_option maxRecDepth 100000 in
theorem heatR_c (A : Option Addr) (n c : Nat) (l : List Tc) (w : World) (h : RTc w A n l) (h0 : heatErr l = 0) :
    Calls Tryz.prog 13 #[.slice A n c] w fun e w' => ∃ A' c', e = .returned (.tuple #[.slice A' n c', .int .i64 0]) ∧ RSm w' A' n (heatL l) ∧ Below w.heap.size w w' := by
  obtain ⟨h10, hok⟩ := heat_ok h0
  have hl := h.len
  rw [hl] at h10
  have hl' := Lib.hid hl
  have hok' := Lib.hid hok
  have hO := Lib.hid (fun x W h h0 => official_c x W h h0)
  have hSh := Lib.hid (fun W h => shift_c A n c l W h h0)
  have hCk := Lib.hid (show ∀ W, RTc W A n l → Calls Tryz.prog 68 #[.slice A n c] W fun e w' => e = .returned (.int .i64 0) ∧ Below W.heap.size W w' from fun W h => by have := checkHeat_c A n c l W h; rwa [h0] at this)
  have hHL : heatL l = heatM (shiftV l) l := rfl
  obtain ⟨sb0, sb1⟩ := shift_bd h0
  rw [hHL]
  clear hl hok h0 hHL
  generalize shiftV l = S at *
  generalize shiftB l = SB at *
  generalize hE : heatM S l = E
  have hE' := Lib.hid hE
  clear hE
  go_enter Tryz.func13, Tryz.ntmps13
  go_wp2_with fail
  refine (hCk.out _ h).mono ?_; rintro e w0 ⟨rfl, B0⟩
  have h9 := h.below B0
  go_wp2_with fail
  refine (hSh.out _ h9).mono ?_; rintro e w1 ⟨rfl, B1⟩
  replace B1 := below_next B0 B1
  clear h9 B0 hCk hSh
  go_wp2_with fail
  go_loopw [7, 23] (fun out i wr => ∃ (k : Nat) (acc : List Sm), k ≤ n ∧ i = .int .i64 k ∧ Hid (acc.length = k) ∧ wr.ownsRow w.heap.size 39 2 out k (acc.flatMap smE) ∧ Below w.heap.size w wr ∧ Hid (acc ++ heatM S (l.drop k) = E)) (fun _ i _ => n - (intOf i).toNat)
  case atStart => exact ⟨0, [], Nat.zero_le _, rfl, Lib.hid rfl, World.ownsRow_nil _ _ _ _, B1, Lib.hid hE'.out⟩
  case round =>
    clear B1
    obtain ⟨k, acc, hk, rfl, hla, hown, hB, hF⟩ := hrel
    by_cases hlt : k < n
    · obtain ⟨b, off, x, hA, hbl, hx, c0, c1, c2, hI⟩ := (h.below hB).at3 hlt
      subst hA
      have hx0 := hok'.out x (List.mem_of_getElem? hx)
      have hM := Lib.hid (heatM_at (S := S) hx)
      have hO1 := Lib.hid (fun W h => hO.out x W h hx0)
      obtain ⟨t0, t1⟩ := off_bd hx0
      generalize offV x = o at *
      obtain ⟨pad, btn, xA, xn, xc, ws⟩ := x
      obtain ⟨tm, by_⟩ := o
      dsimp only [Tc.val, Sm.val] at *
      have hn5 := heap_alloc_new wr (.cells #[.int .i64 pad, .int .i64 btn, .slice xA xn xc] 37)
      have z5 := (blk_facts hn5).1
      have hB5 := hB.alloc hB.size (.cells #[.int .i64 pad, .int .i64 btn, .slice xA xn xc] 37)
      have hI5 := hI.alloc (.cells #[.int .i64 pad, .int .i64 btn, .slice xA xn xc] 37)
      have hown5 := hown.alloc (.cells #[.int .i64 pad, .int .i64 btn, .slice xA xn xc] 37)
      clear hx hI hB hx0 hn5 hown
      have e1 : IntKind.i64.wrap (tm - S) = tm - S := IntWalk.i64_in _ (by omega)
      go_wp2_with fail
      refine (hO1.out _ hI5).mono ?_; rintro e w6 ⟨rfl, B6⟩
      have hown6 := own_below hown5 B6
      have hB6 := below_next hB5 B6
      clear B6 hI5 z5 hown5 hB5
      have hn7 := heap_alloc_new w6 (.cells #[.int .i64 tm, .int .i64 by_] 39)
      have z7 := (blk_facts hn7).1
      have f7 := (blk_facts hn7).2
      have hown7 := hown6.alloc (.cells #[.int .i64 tm, .int .i64 by_] 39)
      have hB7 := hB6.alloc hB6.size (.cells #[.int .i64 tm, .int .i64 by_] 39)

      have hza := hB7.size
      have hlt6 := hB6.size
      have hown8 := hown6.alloc (.cells #[.int .i64 (min (max (tm - S) 1) 360000), .int .i64 2] 39)
      have hB8 := hB6.alloc hB6.size (.cells #[.int .i64 (min (max (tm - S) 1) 360000), .int .i64 2] 39)
      have hzb := hB8.size
      clear hn7
      by_cases hy : by_ = 2
      · subst hy
        clear hown7 hown6 hB6 hB7 hza
        go_wp2_with (at_builtin; refine wpList_app rfl (.tmp 39) (.tmp 41) 31 rfl Tryz.underlying31 info_swum rfl (by omega) (by omega) hown8 rfl rfl (by first | rfl | (simp; done)) rfl (by simp [Value.oneCell']) (by omega) hzb ?_; intro v' w' hown' hg; have H := Lib.hid (And.intro (snoc_sm hown') (below_own hB8 hown8 hg hzb (Nat.le_refl _))); clear hown' hg)
        go_roundw
        case rel => exact ⟨k + 1, _, by omega, by go_num, Lib.hid (by rw [List.length_append, hla.out]; rfl), H.out.1, H.out.2, Lib.hid (by rw [← hF.out, hM.out]; simp only [List.append_assoc, List.cons_append, List.nil_append]; rfl)⟩
        case measure => simp [intOf]; omega
      · have hyb : (by_ == 2) = false := beq_eq_false_iff_ne.2 hy
        have hy' := Lib.hid hy
        clear hown8 hB8 hy
        go_wp2_with (at_builtin; refine wpList_app rfl (.tmp 39) (.tmp 41) 31 rfl Tryz.underlying31 info_swum rfl (by omega) (by omega) hown7 rfl rfl (by first | rfl | (simp; done)) rfl (by simp [Value.oneCell']) (by omega) hza ?_; intro v' w' hown' hg; have H := Lib.hid (And.intro (snoc_sm hown') (below_own hB7 hown7 hg hza (Nat.le_refl _))); clear hown' hg)
        go_roundw
        case rel => exact ⟨k + 1, _, by omega, by go_num, Lib.hid (by rw [List.length_append, hla.out]; rfl), H.out.1, H.out.2, Lib.hid (by rw [← hF.out, hM.out]; simp only [List.append_assoc, List.cons_append, List.nil_append]; congr 2; exact (fix_no hy'.out).symm)⟩
        case measure => simp [intOf]; omega
    · obtain rfl : k = n := by omega
      have hE1 := hF.out
      rw [drop_end (by rw [hl'.out]; exact Nat.le_refl _)] at hE1
      have hE2 : acc = E := by simpa [heatM] using hE1
      subst hE2
      obtain ⟨A', c', rfl⟩ := own_shape hown
      go_wp2
      go_ret2
      exact ⟨_, _, rfl, RN.of_own smE_len hown hla.out (by omega), hB⟩
def heatA (l : List Tc) : List Sm := if heatErr l = 0 then heatL l else []
def heatN (l : List Tc) : Nat := if heatErr l = 0 then l.length else 0
theorem heat_c (A : Option Addr) (n c : Nat) (l : List Tc) (w : World) (h : RTc w A n l) :
    Calls Tryz.prog 13 #[.slice A n c] w fun e w' => ∃ A' c', e = .returned (.tuple #[.slice A' (heatN l) c', .int .i64 (heatErr l)]) ∧ RSm w' A' (heatN l) (heatA l) ∧ Below w.heap.size w w' := by
  unfold heatA heatN
  by_cases h0 : heatErr l = 0
  · rw [if_pos h0, if_pos h0, h0, h.len]
    exact heatR_c A n c l w h h0
  · rw [if_neg h0, if_neg h0]
    have hCk := Lib.hid (checkHeat_c A n c l w h)
    have hne : (heatErr l != 0) = true := by simpa using h0
    generalize heatErr l = E at *
    clear h0
    go_enter Tryz.func13, Tryz.ntmps13
    go_wp2_with fail
    refine hCk.out.mono ?_; rintro e w1 ⟨rfl, B1⟩
    go_wp2
    go_ret2
    exact ⟨none, 0, rfl, RN.nil_ _ _ _ _ _, B1⟩
def shiftA (l : List Tc) : Int := if heatErr l = 0 then shiftV l else 0
def shiftQ (l : List Tc) : Bool := if heatErr l = 0 then shiftB l else false
theorem shiftE_c (A : Option Addr) (n c : Nat) (l : List Tc) (w : World) (h : RTc w A n l) :
    Calls Tryz.prog 14 #[.slice A n c] w fun e w' => e = .returned (.tuple #[.int .i64 (shiftA l), .bool (shiftQ l), .int .i64 (heatErr l)]) ∧ Below w.heap.size w w' := by
  unfold shiftA shiftQ
  have hCk := checkHeat_c A n c l w h
  by_cases h0 : heatErr l = 0
  · have hS := Lib.hid (fun W h => shift_c A n c l W h h0)
    rw [if_pos h0, if_pos h0]
    rw [h0] at hCk ⊢
    have hCk' := Lib.hid hCk
    clear hCk h0
    go_enter Tryz.func14, Tryz.ntmps14
    go_wp2_with fail
    refine hCk'.out.mono ?_; rintro e w1 ⟨rfl, B1⟩
    go_wp2_with fail
    refine (hS.out _ (h.below B1)).mono ?_; rintro e w2 ⟨rfl, B2⟩
    have B := below_next B1 B2
    go_wp2
    go_ret3
    exact ⟨rfl, B⟩
  · rw [if_neg h0, if_neg h0]
    have hne : (heatErr l != 0) = true := by simpa using h0
    generalize heatErr l = E at *
    have hCk' := Lib.hid hCk
    clear hCk h0
    go_enter Tryz.func14, Tryz.ntmps14
    go_wp2_with fail
    refine hCk'.out.mono ?_; rintro e w1 ⟨rfl, B1⟩
    go_wp2
    go_ret3
    exact ⟨rfl, B1⟩
end Go.Proofs.YthopkmcabjnfnaaGreatDoor
