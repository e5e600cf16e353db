/- Watches, the reference's side; the errors of watches: slices.ContainsFunc at the two tests. -/
import Derived.Test.YthopkmcabjnfnaaGreatDoorWatch
import Derived.Test.YthopkmcabjnfnaaGreatDoorClock
namespace Go.Proofs.YthopkmcabjnfnaaGreatDoor
open Go.RowKit
set_option linter.unusedVariables false

/-! ## the errors -/
def badW (x : Int) : Bool := !decide (1 ≤ x ∧ x ≤ 360000)
def firstF (p : Int → Bool) : List Int → Int → Int
  | [], _ => -1
  | x :: r, k => if p x = true then k else firstF p r (k + 1)
theorem firstF_at {p : Int → Bool} {l : List Int} {j : Nat} {x : Int} (k : Int) (h : l[j]? = some x) : firstF p (l.drop j) k = if p x = true then k else firstF p (l.drop (j + 1)) (k + 1) := by rw [drop_at h]; rfl
theorem firstF_any (p : Int → Bool) : ∀ (l : List Int) (k : Int), 0 ≤ k → decide (0 ≤ firstF p l k) = l.any p
  | [], _, _ => rfl
  | x :: r, k, h => by
    unfold firstF
    rw [List.any_cons]
    by_cases hx : p x = true
    · rw [if_pos hx, hx]; simp [h]
    · rw [if_neg hx, firstF_any p r _ (by omega)]; simp [hx]
theorem badP_c (x : Int) (w : World) : Calls Tryz.prog 154 #[.int .i64 x] w fun e w' => e = .returned (.bool (badW x)) ∧ w = w' := by
  go_enter Tryz.func154, Tryz.ntmps154
  go_wp2_with fail
  refine (isTime_c x w).mono ?_; rintro e w' ⟨rfl, rfl⟩
  go_wp2
  go_ret
  exact ⟨by simp [badW], rfl⟩
theorem badR_c (x : Int) (w : World) : Calls Tryz.prog 166 #[.int .i64 x] w fun e w' => e = .returned (.bool (badW x)) ∧ w = w' := by
  go_enter Tryz.func166, Tryz.ntmps166
  go_wp2_with fail
  refine (in_c x 1 360000 w).mono ?_; rintro e w' ⟨rfl, rfl⟩
  go_wp2
  go_ret
  exact ⟨by simp [badW], rfl⟩
set_option maxHeartbeats 1600000 in
set_option maxRecDepth 100000 in
theorem indexP_c (A : Option Addr) (n c : Nat) (l : List Int) (w : World) (h : RI 3 w A n l) (hn : n ≤ 1000) :
    Calls Tryz.prog 191 #[.slice A n c, .func (.func 154) #[] #[]] w fun e w' => e = .returned (.int .i64 (firstF badW l 0)) ∧ w' = w := by
  have hl := Lib.hid h.len
  have hB := Lib.hid (fun x => badP_c x w)
  go_enter Tryz.func191, Tryz.ntmps191
  go_wp2_with fail
  go_loop [8] (fun i => ∃ k : Nat, k ≤ n ∧ i = .int .i64 k ∧ Hid (firstF badW (l.drop k) k = firstF badW l 0)) (fun i => n - (intOf i).toNat)
  case atStart => exact ⟨0, Nat.zero_le _, rfl, Lib.hid rfl⟩
  case round =>
    obtain ⟨k, hk, rfl, hF⟩ := hrel
    by_cases hlt : k < n
    · obtain ⟨b, off, x, rfl, hbl, hx, hcell⟩ := h.at_ hlt
      have hS := Lib.hid (firstF_at (p := badW) (k : Int) hx)
      clear hx h
      go_wp2_with fail
      refine (hB.out x).mono ?_; rintro e w' ⟨rfl, rfl⟩
      by_cases hp : badW x = true
      · have hp' := Lib.hid hp
        rw [hp]
        clear hp
        go_wp2
        go_ret
        exact ⟨ret_i (by rw [← hF.out, hS.out, if_pos hp'.out]), rfl⟩
      · have hp' := Lib.hid hp
        have hpf : badW x = false := by simpa using hp
        rw [hpf]
        clear hp hpf
        go_wp2
        go_round
        case rel => exact ⟨k + 1, by omega, by go_num, Lib.hid (by rw [← hF.out, hS.out, if_neg hp'.out]; rfl)⟩
        case measure => simp [intOf]; omega
    · obtain rfl : k = n := by omega
      go_wp2
      go_ret
      exact ⟨ret_i (by rw [← hF.out, drop_end (by rw [hl.out]; exact Nat.le_refl _)]; rfl), rfl⟩
set_option maxHeartbeats 1600000 in
set_option maxRecDepth 100000 in
theorem indexR_c (A : Option Addr) (n c : Nat) (l : List Int) (w : World) (h : RI 3 w A n l) (hn : n ≤ 1000) :
    Calls Tryz.prog 191 #[.slice A n c, .func (.func 166) #[] #[]] w fun e w' => e = .returned (.int .i64 (firstF badW l 0)) ∧ w' = w := by
  have hl := Lib.hid h.len
  have hB := Lib.hid (fun x => badR_c x w)
  go_enter Tryz.func191, Tryz.ntmps191
  go_wp2_with fail
  go_loop [8] (fun i => ∃ k : Nat, k ≤ n ∧ i = .int .i64 k ∧ Hid (firstF badW (l.drop k) k = firstF badW l 0)) (fun i => n - (intOf i).toNat)
  case atStart => exact ⟨0, Nat.zero_le _, rfl, Lib.hid rfl⟩
  case round =>
    obtain ⟨k, hk, rfl, hF⟩ := hrel
    by_cases hlt : k < n
    · obtain ⟨b, off, x, rfl, hbl, hx, hcell⟩ := h.at_ hlt
      have hS := Lib.hid (firstF_at (p := badW) (k : Int) hx)
      clear hx h
      go_wp2_with fail
      refine (hB.out x).mono ?_; rintro e w' ⟨rfl, rfl⟩
      by_cases hp : badW x = true
      · have hp' := Lib.hid hp
        rw [hp]
        clear hp
        go_wp2
        go_ret
        exact ⟨ret_i (by rw [← hF.out, hS.out, if_pos hp'.out]), rfl⟩
      · have hp' := Lib.hid hp
        have hpf : badW x = false := by simpa using hp
        rw [hpf]
        clear hp hpf
        go_wp2
        go_round
        case rel => exact ⟨k + 1, by omega, by go_num, Lib.hid (by rw [← hF.out, hS.out, if_neg hp'.out]; rfl)⟩
        case measure => simp [intOf]; omega
    · obtain rfl : k = n := by omega
      go_wp2
      go_ret
      exact ⟨ret_i (by rw [← hF.out, drop_end (by rw [hl.out]; exact Nat.le_refl _)]; rfl), rfl⟩
theorem hasBadP_c (A : Option Addr) (n c : Nat) (l : List Int) (w : World) (h : RI 3 w A n l) (hn : n ≤ 1000) :
    Calls Tryz.prog 153 #[.slice A n c, .func (.func 154) #[] #[]] w fun e w' => e = .returned (.bool (l.any badW)) ∧ w' = w := by
  have hI := Lib.hid (indexP_c A n c l w h hn)
  have hF := Lib.hid (firstF_any badW l 0 (Int.le_refl _))
  generalize firstF badW l 0 = v at *
  go_enter Tryz.func153, Tryz.ntmps153
  go_wp2_with fail
  refine hI.out.mono ?_; rintro e w' ⟨rfl, rfl⟩
  go_wp2
  go_ret
  exact ⟨by rw [← hF.out]; rfl, rfl⟩
theorem hasBadR_c (A : Option Addr) (n c : Nat) (l : List Int) (w : World) (h : RI 3 w A n l) (hn : n ≤ 1000) :
    Calls Tryz.prog 153 #[.slice A n c, .func (.func 166) #[] #[]] w fun e w' => e = .returned (.bool (l.any badW)) ∧ w' = w := by
  have hI := Lib.hid (indexR_c A n c l w h hn)
  have hF := Lib.hid (firstF_any badW l 0 (Int.le_refl _))
  generalize firstF badW l 0 = v at *
  go_enter Tryz.func153, Tryz.ntmps153
  go_wp2_with fail
  refine hI.out.mono ?_; rintro e w' ⟨rfl, rfl⟩
  go_wp2
  go_ret
  exact ⟨by rw [← hF.out]; rfl, rfl⟩
def watchErr (l : List Int) : Int := if 3 < l.length then 2 else if l.any badW then 1 else 0
theorem checkWatches_c (A : Option Addr) (n c : Nat) (l : List Int) (w : World) (h : RI 3 w A n l) :
    Calls Tryz.prog 100 #[.slice A n c] w fun e w' => e = .returned (.int .i64 (watchErr l)) ∧ w' = w := by
  have hl := h.len
  have hE : watchErr l = if 3 < n then 2 else if l.any badW then 1 else 0 := by unfold watchErr; rw [hl]
  rw [hE]
  clear hE
  by_cases h3 : 3 < n
  · go_enter Tryz.func100, Tryz.ntmps100
    go_wp2
    go_ret
    exact ⟨by simp [h3], rfl⟩
  · have hC := Lib.hid (hasBadP_c A n c l w h (by omega))
    generalize l.any badW = q at *
    have h3' := Lib.hid h3
    have h3i : ¬ (3 : Int) < (n : Int) := by omega
    clear h3
    go_enter Tryz.func100, Tryz.ntmps100
    go_wp2_with fail
    refine hC.out.mono ?_; rintro e w' ⟨rfl, rfl⟩
    cases q
    · go_wp2
      go_ret
      exact ⟨rfl, rfl⟩
    · go_wp2
      go_ret
      exact ⟨rfl, rfl⟩
theorem watchesFault_c (A : Option Addr) (n c : Nat) (l : List Int) (w : World) (h : RI 3 w A n l) :
    Calls Tryz.prog 124 #[.slice A n c] w fun e w' => e = .returned (.int .i64 (watchErr l)) ∧ w' = w := by
  have hl := h.len
  have hE : watchErr l = if 3 < n then 2 else if l.any badW then 1 else 0 := by unfold watchErr; rw [hl]
  rw [hE]
  clear hE
  by_cases h3 : 3 < n
  · go_enter Tryz.func124, Tryz.ntmps124
    go_wp2
    go_ret
    exact ⟨by simp [h3], rfl⟩
  · have hC := Lib.hid (hasBadR_c A n c l w h (by omega))
    generalize l.any badW = q at *
    have h3' := Lib.hid h3
    have h3i : ¬ (3 : Int) < (n : Int) := by omega
    clear h3
    go_enter Tryz.func124, Tryz.ntmps124
    go_wp2_with fail
    refine hC.out.mono ?_; rintro e w' ⟨rfl, rfl⟩
    cases q
    · go_wp2
      go_ret
      exact ⟨rfl, rfl⟩
    · go_wp2
      go_ret
      exact ⟨rfl, rfl⟩
theorem watchErr_ok {l : List Int} (h : watchErr l = 0) : l.length ≤ 3 ∧ ∀ x ∈ l, 1 ≤ x ∧ x ≤ 360000 := by
  unfold watchErr at h
  split at h
  · cases h
  · split at h
    · cases h
    · rename_i h1 h2
      refine ⟨by omega, fun x hx => ?_⟩
      by_cases hb : 1 ≤ x ∧ x ≤ 360000
      · exact hb
      · have hbx : badW x = true := by unfold badW; simp only [decide_eq_false hb]; rfl
        exact absurd (List.any_eq_true.2 ⟨x, hx, hbx⟩) h2
end Go.Proofs.YthopkmcabjnfnaaGreatDoor
