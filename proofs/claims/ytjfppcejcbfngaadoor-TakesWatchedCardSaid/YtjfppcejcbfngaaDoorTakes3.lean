/- False starts: the program's and the reference's. -/
import Derived.Test.YtjfppcejcbfngaaDoorTakes2
import Derived.Test.YtjfppcejcbfngaaDoorPaces
namespace Go.Proofs.YtjfppcejcbfngaaDoor
open Go.RowKit
set_option linter.unusedVariables false

set_option maxHeartbeats 1600000 in
set_option maxRecDepth 100000 in
theorem falseOf_c (A : Option Addr) (n c : Nat) (l : List Int) (s : Int) (w : World) (h : RI 3 w A n l) (hn : n ≤ 1000) :
    Calls Tryd.prog 59 #[.int .i64 s, .slice A n c] w fun e w' => ∃ A' n' c', e = .returned (.slice A' n' c') ∧ RI 3 w' A' n' (falseL s 0 l) ∧ Below w.heap.size w w' := by
  go_enter Tryd.func59, Tryd.ntmps59
  go_wp2
  go_loopw [5, 10] (fun out i wr => ∃ (k m : Nat) (acc : List Int), k ≤ n ∧ m ≤ k ∧ i = .int .i64 k ∧ wr.ownsRow w.heap.size 3 1 out m (ints acc) ∧ Below w.heap.size w wr ∧ Hid (acc ++ falseL s k (l.drop k) = falseL s 0 l)) (fun _ i _ => n - (intOf i).toNat)
  case atStart => exact ⟨0, 0, [], Nat.zero_le _, Nat.le_refl _, rfl, World.ownsRow_nil _ _ _ _, Below.refl _ _, Lib.hid rfl⟩
  case round =>
    obtain ⟨k, m, acc, hk, hm, rfl, hown, hB, hD⟩ := hrel
    by_cases hlt : k < n
    · obtain ⟨b, off, x, rfl, hbl, hx, c0⟩ := (h.below hB).at_ hlt
      have hT := Lib.hid (falseL_at (s := s) (i := (k : Int)) hx)
      have hz := hB.size
      clear hx
      by_cases hxs : x < s
      · go_wp2_with (at_builtin; refine wpList_app rfl (.tmp 18) (.tmp 20) 22 rfl Tryd.underlying22 info_int rfl (by omega) (by omega) hown rfl rfl (by first | rfl | (simp; done)) rfl (by simp [Value.oneCell']) (by omega) (by first | omega | (simp; omega) | (simp; done)) ?_; intro v4 w4 hown4 hg4; have hB4 := below_own hB hown hg4 (by first | omega | (simp; omega) | (simp; done)) (Nat.le_refl _))
        go_roundw
        case rel =>
          refine ⟨k + 1, m + 1, acc ++ [(k : Int)], by omega, by omega, by go_num, by rw [ints_app]; exact hown4, hB4, Lib.hid ?_⟩
          rw [← hD.out, hT.out, if_pos hxs, List.append_assoc]
          push_cast
          rfl
        case measure => simp [intOf]; omega
      · go_wp2
        go_roundw
        case rel =>
          refine ⟨k + 1, m, acc, by omega, by omega, by go_num, hown, hB, Lib.hid ?_⟩
          rw [← hD.out, hT.out, if_neg (by omega)]
          push_cast
          rfl
        case measure => simp [intOf]; omega
    · have hD' : Hid (acc = falseL s 0 l) := Lib.hid (by rw [← hD.out, drop_end (by rw [h.len]; omega)]; simp [falseL])
      obtain ⟨A', c', rfl, _, hr⟩ := own_ints hown (by omega)
      go_wp2
      go_ret
      exact ⟨A', m, c', rfl, by rw [← hD'.out]; exact hr, hB⟩

def falseR (s : Int) (l : List Int) : List Int := if signalErr s l = 0 then falseL s 0 l else []
set_option maxHeartbeats 1600000 in
set_option maxRecDepth 100000 in
theorem falseStarts_c (A : Option Addr) (n c : Nat) (l : List Int) (s : Int) (w : World) (h : RI 3 w A n l) :
    Calls Tryd.prog 56 #[.int .i64 s, .slice A n c] w (RetLE w (falseR s l) (signalErr s l)) := by
  have hl := h.len
  have hb := h.bd
  have hE : signalErr s l = if 10 < n then 2 else if ¬ (0 ≤ s ∧ s ≤ 360000) then 1 else if badS l then 1 else 0 := by
    unfold signalErr; rw [hl]
    show (if 10 < n then (2 : Int) else if (if ¬ (0 ≤ s ∧ s ≤ 360000) then true else badS l) then 1 else 0) = _
    split
    · rfl
    · by_cases h2 : ¬ (0 ≤ s ∧ s ≤ 360000)
      · rw [if_pos h2, if_pos h2]; rfl
      · rw [if_neg h2, if_neg h2]
  have hR : falseR s l = if signalErr s l = 0 then falseL s 0 l else [] := rfl
  generalize falseR s l = F at *
  generalize signalErr s l = E at *
  have hE' := Lib.hid hE
  have hR' := Lib.hid hR
  have hl' := Lib.hid hl
  clear hE hl hR
  by_cases hbig : 10 < n
  · go_enter Tryd.func56, Tryd.ntmps56
    go_wp2
    go_ret2
    obtain rfl : E = 2 := by rw [hE'.out, if_pos hbig]
    rw [hR'.out, if_neg (by decide)]
    exact retLE_e 2 (Below.refl _ _)
  · by_cases hs : 0 ≤ s ∧ s ≤ 360000
    rotate_left
    · have hd : decide (0 ≤ s ∧ s ≤ 360000) = false := by simpa using hs
      have hd' := Lib.hid hd
      clear hd
      go_enter Tryd.func56, Tryd.ntmps56
      go_wp2_with fail
      refine (within_c _ _ _ _).mono ?_; rintro e w' ⟨rfl, rfl⟩
      rw [hd'.out]
      go_wp2
      go_ret2
      obtain rfl : E = 1 := by rw [hE'.out, if_neg hbig, if_pos hs]
      rw [hR'.out, if_neg (by decide)]
      exact retLE_e 1 (Below.refl _ _)
    have hE2 := Lib.hid (show E = if badS l then 1 else 0 by rw [hE'.out, if_neg hbig, if_neg (by simpa using hs)])
    have hd : decide (0 ≤ s ∧ s ≤ 360000) = true := by simpa using hs
    have hd' := Lib.hid hd
    clear hd hE'
    go_enter Tryd.func56, Tryd.ntmps56
    go_wp2_with fail
    refine (within_c _ _ _ _).mono ?_; rintro e w' ⟨rfl, rfl⟩
    rw [hd'.out]
    go_wp2
    go_loopw [6, 17] (fun out i wr => ∃ (k m : Nat) (acc : List Int), k ≤ n ∧ m ≤ k ∧ i = .int .i64 k ∧ wr.ownsRow w.heap.size 3 1 out m (ints acc) ∧ Below w.heap.size w wr ∧ Hid (acc ++ falseL s k (l.drop k) = falseL s 0 l) ∧ Hid (badS (l.drop k) = badS l)) (fun _ i _ => n - (intOf i).toNat)
    case atStart => exact ⟨0, 0, [], Nat.zero_le _, Nat.le_refl _, rfl, World.ownsRow_nil _ _ _ _, Below.refl _ _, Lib.hid rfl, Lib.hid rfl⟩
    case round =>
      obtain ⟨k, m, acc, hk, hm, rfl, hown, hB, hD, hF⟩ := hrel
      by_cases hlt : k < n
      · obtain ⟨b, off, x, rfl, hbl, hx, c0⟩ := (h.below hB).at_ hlt
        have hT := Lib.hid (falseL_at (s := s) (i := (k : Int)) hx)
        have hS := Lib.hid (badS_at hx)
        have hz := hB.size
        clear hx
        by_cases hx0 : 0 ≤ x ∧ x ≤ 360000
        rotate_left
        · have hd : decide (0 ≤ x ∧ x ≤ 360000) = false := by simpa using hx0
          have hd2 := Lib.hid hd
          clear hd
          go_wp2_with fail
          refine (within_c _ _ _ _).mono ?_; rintro e w' ⟨rfl, rfl⟩
          rw [hd2.out]
          go_wp2
          go_ret2
          have hbad : badS l = true := by rw [← hF.out, hS.out, if_pos (by omega)]
          obtain rfl : E = 1 := by rw [hE2.out, hbad]; rfl
          rw [hR'.out, if_neg (by decide)]
          exact retLE_e 1 hB
        have hd : decide (0 ≤ x ∧ x ≤ 360000) = true := by simpa using hx0
        have hd2 := Lib.hid hd
        have hS2 : Hid (badS (l.drop (k + 1)) = badS l) := Lib.hid (by rw [← hF.out, hS.out, if_neg (by simpa using hx0)])
        clear hd
        go_wp2_with fail
        refine (within_c _ _ _ _).mono ?_; rintro e w' ⟨rfl, rfl⟩
        rw [hd2.out]
        by_cases hxs : x < s
        · go_wp2_with (at_builtin; refine wpList_app rfl (.tmp 28) (.tmp 30) 22 rfl Tryd.underlying22 info_int rfl (by omega) (by omega) hown rfl rfl (by first | rfl | (simp; done)) rfl (by simp [Value.oneCell']) (by omega) (by first | omega | (simp; omega) | (simp; done)) ?_; intro v4 w4 hown4 hg4; have hB4 := below_own hB hown hg4 (by first | omega | (simp; omega) | (simp; done)) (Nat.le_refl _))
          go_roundw
          case rel =>
            refine ⟨k + 1, m + 1, acc ++ [(k : Int)], by omega, by omega, by go_num, by rw [ints_app]; exact hown4, hB4, Lib.hid ?_, hS2⟩
            rw [← hD.out, hT.out, if_pos hxs, List.append_assoc]
            push_cast
            rfl
          case measure => simp [intOf]; omega
        · go_wp2
          go_roundw
          case rel =>
            refine ⟨k + 1, m, acc, by omega, by omega, by go_num, hown, hB, Lib.hid ?_, hS2⟩
            rw [← hD.out, hT.out, if_neg (by omega)]
            push_cast
            rfl
          case measure => simp [intOf]; omega
      · have hD' : Hid (acc = falseL s 0 l) := Lib.hid (by rw [← hD.out, drop_end (by rw [hl'.out]; omega)]; simp [falseL])
        have hF' : badS l = false := by rw [← hF.out, drop_end (by rw [hl'.out]; omega)]; rfl
        obtain rfl : E = 0 := by rw [hE2.out, hF']; rfl
        obtain ⟨A', c', rfl, _, hr⟩ := own_ints hown (by omega)
        have hR2 := Lib.hid (show F = acc by rw [hR'.out, if_pos rfl, hD'.out])
        clear hF'
        go_wp2
        go_ret2
        rw [hR2.out]
        exact ⟨A', m, c', rfl, hr, hB⟩
end Go.Proofs.YtjfppcejcbfngaaDoor
