/- Watches, the reference's side; the errors of watches: slices.ContainsFunc at the two tests. -/
import Derived.Test.YtcdoidhookghaaaDoorWatch
import Derived.Test.YtcdoidhookghaaaDoorClock
namespace Go.Proofs.YtcdoidhookghaaaDoor
open Go.RowKit
set_option linter.unusedVariables false

set_option maxHeartbeats 3200000 in
set_option maxRecDepth 100000 in
theorem watchedOf_c (A : Option Addr) (n c : Nat) (l : List Int) (w : World) (h : RI 3 w A n l) (hn : n ≤ 3) (hb : ∀ x ∈ l, 1 ≤ x ∧ x ≤ 360000) :
    Calls Tryd.prog 33 #[.slice A n c] w fun e w' => e = .returned (.int .i64 (watchV l)) ∧ Below w.heap.size w w' := by
  have hl := h.len
  have hV : watchV l = if n = 0 then 0 else if n = 2 then ((sortL l).getD 0 0 + (sortL l).getD 1 0) / 2 else (sortL l).getD (n / 2) 0 := by unfold watchV; rw [hl]
  rw [hV]
  have hb' := Lib.hid hb
  clear hb hV
  go_enter Tryd.func33, Tryd.ntmps33
  go_wp2_with fail
  refine (clone_c A n c l w h (by omega)).mono ?_; rintro e w1 ⟨A1, c1, rfl, hown1, B1⟩
  go_wp2_with fail
  refine (sort_own_c _ _ _ l _ hown1 (by omega)).mono ?_; rintro e w2 ⟨rfl, hown, hg⟩
  have hB := below_own B1 hown1 hg B1.size (Nat.le_refl _)
  clear hown1 B1 hg h
  by_cases h0 : n = 0
  · subst h0
    clear hown
    go_wp2
    go_ret
    exact ⟨rfl, hB⟩
  · rcases hown.2 with ⟨_, h1⟩ | ⟨g, cap, cur, hv, _, hgb, _, _, _, _⟩
    · exact absurd h1 h0
    · injection hv with e1 e2 e3
      subst e1
      subst e3
      have hz0 := watch_cells hown hb'.out (j := 0) (by omega)
      by_cases h2 : n = 2
      · subst h2
        have hz1 := watch_cells hown hb'.out (j := 1) (by omega)
        generalize hgx : (sortL l).getD 0 0 = x at *
        generalize hgy : (sortL l).getD 1 0 = y at *
        have hgx' := Lib.hid hgx
        have hgy' := Lib.hid hgy
        clear hgx hgy
        obtain ⟨cx, hx1, hx2⟩ := hz0
        obtain ⟨cy, hy1, hy2⟩ := hz1
        have hwr : IntKind.i64.wrap (x + y) = x + y := IntWalk.i64_in _ (by omega)
        have hnn : 0 ≤ x + y := by omega
        clear hown hgb
        go_wp2_with fail
        go_quiet (fail)
        go_wp2
        go_ret
        exact ⟨by have h8 := hgx'.out; have h9 := hgy'.out; simp only [List.getD_eq_getElem?_getD] at h8 h9; simp [h8, h9], below_drewN hB _⟩
      · have hz := watch_cells hown hb'.out (j := n / 2) (by omega)
        have h3 : n = 1 ∨ n = 3 := by omega
        rcases h3 with rfl | rfl
        · generalize hgx : (sortL l).getD 0 0 = x at *
          obtain ⟨cx, hx1, hx2⟩ := hz0
          have hgx' := Lib.hid hgx
          clear hown hgb hz hgx
          go_wp2
          go_ret
          exact ⟨ret_i (by have h9 := hgx'.out; simp only [List.getD_eq_getElem?_getD] at h9; simp [h9]), hB⟩
        · have hz1 := watch_cells hown hb'.out (j := 1) (by omega)
          generalize hgx : (sortL l).getD 1 0 = x at *
          obtain ⟨cx, hx1, hx2⟩ := hz1
          have hgx' := Lib.hid hgx
          clear hown hgb hz hz0 hgx
          go_wp2
          go_ret
          exact ⟨ret_i (by have h9 := hgx'.out; simp only [List.getD_eq_getElem?_getD] at h9; simp [h9]), hB⟩

/-! ## the errors -/
def badW (x : Int) : Bool := !decide (1 ≤ x ∧ x ≤ 360000)
def firstF (p : Int → Bool) : List Int → Int → Int
  | [], _ => -1
  | x :: r, k => if p x = true then k else firstF p r (k + 1)
theorem firstF_at {p : Int → Bool} {l : List Int} {j : Nat} {x : Int} (k : Int) (h : l[j]? = some x) : firstF p (l.drop j) k = if p x = true then k else firstF p (l.drop (j + 1)) (k + 1) := by rw [drop_at h]; rfl
theorem firstF_any (p : Int → Bool) : ∀ (l : List Int) (k : Int), 0 ≤ k → decide (0 ≤ firstF p l k) = l.any p
  | [], _, _ => rfl
  | x :: r, k, h => by
    unfold firstF
    rw [List.any_cons]
    by_cases hx : p x = true
    · rw [if_pos hx, hx]; simp [h]
    · rw [if_neg hx, firstF_any p r _ (by omega)]; simp [hx]
theorem badP_c (x : Int) (w : World) : Calls Tryd.prog 122 #[.int .i64 x] w fun e w' => e = .returned (.bool (badW x)) ∧ w = w' := by
  go_enter Tryd.func122, Tryd.ntmps122
  go_wp2_with fail
  refine (isTime_c x w).mono ?_; rintro e w' ⟨rfl, rfl⟩
  go_wp2
  go_ret
  exact ⟨by simp [badW], rfl⟩
theorem badR_c (x : Int) (w : World) : Calls Tryd.prog 85 #[.int .i64 x] w fun e w' => e = .returned (.bool (badW x)) ∧ w = w' := by
  go_enter Tryd.func85, Tryd.ntmps85
  go_wp2_with fail
  refine (in_c x 1 360000 w).mono ?_; rintro e w' ⟨rfl, rfl⟩
  go_wp2
  go_ret
  exact ⟨by simp [badW], rfl⟩
set_option maxHeartbeats 1600000 in
set_option maxRecDepth 100000 in
theorem indexP_c (A : Option Addr) (n c : Nat) (l : List Int) (w : World) (h : RI 3 w A n l) (hn : n ≤ 1000) :
    Calls Tryd.prog 125 #[.slice A n c, .func (.func 122) #[] #[]] w fun e w' => e = .returned (.int .i64 (firstF badW l 0)) ∧ w' = w := by
  have hl := Lib.hid h.len
  have hB := Lib.hid (fun x => badP_c x w)
  go_enter Tryd.func125, Tryd.ntmps125
  go_wp2_with fail
  go_loop [8] (fun i => ∃ k : Nat, k ≤ n ∧ i = .int .i64 k ∧ Hid (firstF badW (l.drop k) k = firstF badW l 0)) (fun i => n - (intOf i).toNat)
  case atStart => exact ⟨0, Nat.zero_le _, rfl, Lib.hid rfl⟩
  case round =>
    obtain ⟨k, hk, rfl, hF⟩ := hrel
    by_cases hlt : k < n
    · obtain ⟨b, off, x, rfl, hbl, hx, hcell⟩ := h.at_ hlt
      have hS := Lib.hid (firstF_at (p := badW) (k : Int) hx)
      clear hx h
      go_wp2_with fail
      refine (hB.out x).mono ?_; rintro e w' ⟨rfl, rfl⟩
      by_cases hp : badW x = true
      · have hp' := Lib.hid hp
        rw [hp]
        clear hp
        go_wp2
        go_ret
        exact ⟨ret_i (by rw [← hF.out, hS.out, if_pos hp'.out]), rfl⟩
      · have hp' := Lib.hid hp
        have hpf : badW x = false := by simpa using hp
        rw [hpf]
        clear hp hpf
        go_wp2
        go_round
        case rel => exact ⟨k + 1, by omega, by go_num, Lib.hid (by rw [← hF.out, hS.out, if_neg hp'.out]; rfl)⟩
        case measure => simp [intOf]; omega
    · obtain rfl : k = n := by omega
      go_wp2
      go_ret
      exact ⟨ret_i (by rw [← hF.out, drop_end (by rw [hl.out]; exact Nat.le_refl _)]; rfl), rfl⟩
set_option maxHeartbeats 1600000 in
set_option maxRecDepth 100000 in
theorem indexR_c (A : Option Addr) (n c : Nat) (l : List Int) (w : World) (h : RI 3 w A n l) (hn : n ≤ 1000) :
    Calls Tryd.prog 125 #[.slice A n c, .func (.func 85) #[] #[]] w fun e w' => e = .returned (.int .i64 (firstF badW l 0)) ∧ w' = w := by
  have hl := Lib.hid h.len
  have hB := Lib.hid (fun x => badR_c x w)
  go_enter Tryd.func125, Tryd.ntmps125
  go_wp2_with fail
  go_loop [8] (fun i => ∃ k : Nat, k ≤ n ∧ i = .int .i64 k ∧ Hid (firstF badW (l.drop k) k = firstF badW l 0)) (fun i => n - (intOf i).toNat)
  case atStart => exact ⟨0, Nat.zero_le _, rfl, Lib.hid rfl⟩
  case round =>
    obtain ⟨k, hk, rfl, hF⟩ := hrel
    by_cases hlt : k < n
    · obtain ⟨b, off, x, rfl, hbl, hx, hcell⟩ := h.at_ hlt
      have hS := Lib.hid (firstF_at (p := badW) (k : Int) hx)
      clear hx h
      go_wp2_with fail
      refine (hB.out x).mono ?_; rintro e w' ⟨rfl, rfl⟩
      by_cases hp : badW x = true
      · have hp' := Lib.hid hp
        rw [hp]
        clear hp
        go_wp2
        go_ret
        exact ⟨ret_i (by rw [← hF.out, hS.out, if_pos hp'.out]), rfl⟩
      · have hp' := Lib.hid hp
        have hpf : badW x = false := by simpa using hp
        rw [hpf]
        clear hp hpf
        go_wp2
        go_round
        case rel => exact ⟨k + 1, by omega, by go_num, Lib.hid (by rw [← hF.out, hS.out, if_neg hp'.out]; rfl)⟩
        case measure => simp [intOf]; omega
    · obtain rfl : k = n := by omega
      go_wp2
      go_ret
      exact ⟨ret_i (by rw [← hF.out, drop_end (by rw [hl.out]; exact Nat.le_refl _)]; rfl), rfl⟩
theorem hasBadP_c (A : Option Addr) (n c : Nat) (l : List Int) (w : World) (h : RI 3 w A n l) (hn : n ≤ 1000) :
    Calls Tryd.prog 84 #[.slice A n c, .func (.func 122) #[] #[]] w fun e w' => e = .returned (.bool (l.any badW)) ∧ w' = w := by
  have hI := Lib.hid (indexP_c A n c l w h hn)
  have hF := Lib.hid (firstF_any badW l 0 (Int.le_refl _))
  generalize firstF badW l 0 = v at *
  go_enter Tryd.func84, Tryd.ntmps84
  go_wp2_with fail
  refine hI.out.mono ?_; rintro e w' ⟨rfl, rfl⟩
  go_wp2
  go_ret
  exact ⟨by rw [← hF.out]; rfl, rfl⟩
theorem hasBadR_c (A : Option Addr) (n c : Nat) (l : List Int) (w : World) (h : RI 3 w A n l) (hn : n ≤ 1000) :
    Calls Tryd.prog 84 #[.slice A n c, .func (.func 85) #[] #[]] w fun e w' => e = .returned (.bool (l.any badW)) ∧ w' = w := by
  have hI := Lib.hid (indexR_c A n c l w h hn)
  have hF := Lib.hid (firstF_any badW l 0 (Int.le_refl _))
  generalize firstF badW l 0 = v at *
  go_enter Tryd.func84, Tryd.ntmps84
  go_wp2_with fail
  refine hI.out.mono ?_; rintro e w' ⟨rfl, rfl⟩
  go_wp2
  go_ret
  exact ⟨by rw [← hF.out]; rfl, rfl⟩
def watchErr (l : List Int) : Int := if 3 < l.length then 2 else if l.any badW then 1 else 0
theorem checkWatches_c (A : Option Addr) (n c : Nat) (l : List Int) (w : World) (h : RI 3 w A n l) :
    Calls Tryd.prog 82 #[.slice A n c] w fun e w' => e = .returned (.int .i64 (watchErr l)) ∧ w' = w := by
  have hl := h.len
  have hE : watchErr l = if 3 < n then 2 else if l.any badW then 1 else 0 := by unfold watchErr; rw [hl]
  rw [hE]
  clear hE
  by_cases h3 : 3 < n
  · go_enter Tryd.func82, Tryd.ntmps82
    go_wp2
    go_ret
    exact ⟨by simp [h3], rfl⟩
  · have hC := Lib.hid (hasBadP_c A n c l w h (by omega))
    generalize l.any badW = q at *
    have h3' := Lib.hid h3
    have h3i : ¬ (3 : Int) < (n : Int) := by omega
    clear h3
    go_enter Tryd.func82, Tryd.ntmps82
    go_wp2_with fail
    refine hC.out.mono ?_; rintro e w' ⟨rfl, rfl⟩
    cases q
    · go_wp2
      go_ret
      exact ⟨rfl, rfl⟩
    · go_wp2
      go_ret
      exact ⟨rfl, rfl⟩
theorem watchesFault_c (A : Option Addr) (n c : Nat) (l : List Int) (w : World) (h : RI 3 w A n l) :
    Calls Tryd.prog 32 #[.slice A n c] w fun e w' => e = .returned (.int .i64 (watchErr l)) ∧ w' = w := by
  have hl := h.len
  have hE : watchErr l = if 3 < n then 2 else if l.any badW then 1 else 0 := by unfold watchErr; rw [hl]
  rw [hE]
  clear hE
  by_cases h3 : 3 < n
  · go_enter Tryd.func32, Tryd.ntmps32
    go_wp2
    go_ret
    exact ⟨by simp [h3], rfl⟩
  · have hC := Lib.hid (hasBadR_c A n c l w h (by omega))
    generalize l.any badW = q at *
    have h3' := Lib.hid h3
    have h3i : ¬ (3 : Int) < (n : Int) := by omega
    clear h3
    go_enter Tryd.func32, Tryd.ntmps32
    go_wp2_with fail
    refine hC.out.mono ?_; rintro e w' ⟨rfl, rfl⟩
    cases q
    · go_wp2
      go_ret
      exact ⟨rfl, rfl⟩
    · go_wp2
      go_ret
      exact ⟨rfl, rfl⟩
theorem watchErr_ok {l : List Int} (h : watchErr l = 0) : l.length ≤ 3 ∧ ∀ x ∈ l, 1 ≤ x ∧ x ≤ 360000 := by
  unfold watchErr at h
  split at h
  · cases h
  · split at h
    · cases h
    · rename_i h1 h2
      refine ⟨by omega, fun x hx => ?_⟩
      by_cases hb : 1 ≤ x ∧ x ≤ 360000
      · exact hb
      · have hbx : badW x = true := by unfold badW; simp only [decide_eq_false hb]; rfl
        exact absurd (List.any_eq_true.2 ⟨x, hx, hbx⟩) h2
end Go.Proofs.YtcdoidhookghaaaDoor
