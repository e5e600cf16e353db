import Derived.Test.YtklggnglaeagpaaGreatDoorQSlVals
import Derived.Test.YtklggnglaeagpaaGreatDoorQFill
import Derived.Lib.SlKeysI
import Derived.Deep.QuietTactic
import Derived.BigQuiet
import Derived.BigGuardPart
import Derived.IntWalk
import Derived.Test.YtklggnglaeagpaaGreatDoorQClock
/- Watches: slices.Sort of a row of the call's own, slices.Sorted of slices.Values, slices.IndexFunc at the two tests of a watch; checkWatches, watched and the reference's two. -/
namespace Go.Proofs.YtklggnglaeagpaaGreatDoor
open Go.RowKit Go.Shelf Go.Sort
set_option linter.unusedVariables false

def sortL (l : List Int) : List Int := l.mergeSort fun x y => decide (x ≤ y)
theorem sortL_len (l : List Int) : (sortL l).length = l.length := by unfold sortL; exact List.length_mergeSort l
theorem sortL_mem {l : List Int} {x : Int} (h : x ∈ sortL l) : x ∈ l := by unfold sortL at h; exact List.mem_mergeSort.1 h
theorem sort_own_c (base n : Nat) (v : Value) (l : List Int) (w : World) (h : w.ownsRow base 3 1 v n (ints l)) (hn : n ≤ 1000000) :
    Calls Tryz.prog 313 #[v] w fun e w' => e = .returned (.tuple #[]) ∧ w'.ownsRow base 3 1 v n (ints (sortL l)) ∧ w.grownBy w' v.ownBlock := by
  have hl : l.length = n := by have := h.1; rw [ints_len] at this; omega
  subst hl
  rcases h.2 with ⟨rfl, h0⟩ | ⟨g, cap, cur, rfl, hbase, hgb, r1, r2, r3, r4⟩
  · obtain rfl : l = [] := List.eq_nil_of_length_eq_zero h0
    refine (Tryz.slices_Sort_int_none none 0 w).mono ?_
    rintro e w' ⟨rfl, rfl⟩
    exact ⟨rfl, by have h9 := World.ownsRow_nil w' base 3 1; simpa [sortL, ints] using h9, grown_refl _ _⟩
  · have hH : Holds (Value.int .i64) w g 0 l.toArray := holds_of_block_i hgb (by simpa [ints] using r4)
    refine (Tryz.slices_Sort_int g 0 cap l w hH (lt_of_heap hgb) (by omega)).mono ?_
    rintro e w' ⟨rfl, q, os, rfl⟩
    exact ⟨rfl, ownsRow_sorted_i (sortL_len l) hbase hgb r1 r2 r3, grownBy_sorted_i _⟩
theorem values_c (A : Option Addr) (n c : Nat) (w : World) :
    Calls Tryz.prog 247 #[.slice A n c] w fun e w' => e = .returned (.func (.func 314) #[] #[.pointer (some ⟨w.heap.size, 0, none⟩)]) ∧ w' = w.alloc (.cells #[.slice A n c] 22) := by
  go_enter Tryz.func247, Tryz.ntmps247
  go_wp2
  go_ret
  exact ⟨rfl, rfl⟩
set_option maxRecDepth 100000 in
theorem watchSorted_c (Bs : Nat) (sv : Value) (zs : List Int) (hlen : zs.length ≤ 1000) (w : World) (hBs : Bs < w.heap.size) (hc : w.cell? ⟨Bs, 0, none⟩ = some sv) (hI : IntsAt w.heap.size w sv zs) :
    Calls Tryz.prog 246 #[.func (.func 314) #[] #[.pointer (some ⟨Bs, 0, none⟩)]] w fun e w' => ∃ A c, e = .returned (.slice A zs.length c) ∧ w'.ownsRow w.heap.size 3 1 (.slice A zs.length c) zs.length (ints (sortL zs)) ∧ Below w.heap.size w w' := by
  have hC : ∀ W, Below w.heap.size w W → Calls Tryz.prog 312 #[.func (.func 314) #[] #[.pointer (some ⟨Bs, 0, none⟩)]] W fun e w' => ∃ v, e = .returned v ∧ w'.ownsRow W.heap.size 3 1 v zs.length (ints zs) ∧ Below W.heap.size W w' := by
    intro W hb
    have hA := Lib.hid (fun W' (h : Below w.heap.size w W') => appendSeq_c Bs sv zs (by omega) W' (Nat.lt_of_lt_of_le hBs h.size) ((h.cell (p := ⟨Bs, 0, none⟩) hBs).trans hc) (by
      rcases hI.below h with hI | ⟨b, off, cap, e, hb, hcs⟩
      · exact .inl hI
      · exact .inr ⟨b, off, cap, e, Nat.lt_of_lt_of_le hb h.size, hcs⟩))
    go_enter Tryz.func312, Tryz.ntmps312
    go_wp2_with fail
    refine (hA.out _ hb).mono ?_; rintro e w1 ⟨v, rfl, hown, B1⟩
    go_wp2
    go_ret
    exact ⟨_, rfl, hown, B1⟩
  have hC' := Lib.hid hC
  clear hC
  go_enter Tryz.func246, Tryz.ntmps246
  go_wp2_with fail
  refine (hC'.out _ (Below.refl _ _)).mono ?_; rintro e w1 ⟨v, rfl, hown, B1⟩
  go_wp2_with fail
  refine (sort_own_c _ _ v zs _ hown (by omega)).mono ?_; rintro e w2 ⟨rfl, hown2, hg⟩
  obtain ⟨A', c', rfl⟩ := own_shape hown2
  have B2 := below_own B1 hown hg B1.size (Nat.le_refl _)
  go_wp2
  go_ret
  exact ⟨_, _, rfl, hown2, B2⟩
theorem intsAt_of {A : Option Addr} {n c : Nat} {l : List Int} {w : World} (h : RI 3 w A n l) : IntsAt w.heap.size w (.slice A n c) l := by
  have hl := h.len
  rcases Nat.eq_zero_or_pos n with h0 | hp
  · subst h0
    exact .inl ⟨A, c, rfl, List.eq_nil_of_length_eq_zero hl⟩
  · obtain ⟨b, off, rfl, hb, hc⟩ := h.shelf hp
    refine .inr ⟨b, off, c, by rw [hl], hb, fun j hj => ?_⟩
    rw [hc j hj, List.getD_eq_getElem?_getD]
/-- the time of right watches -/
def watchV (l : List Int) : Int := if l.length = 0 then 0 else if l.length = 2 then ((sortL l).getD 0 0 + (sortL l).getD 1 0) / 2 else (sortL l).getD (l.length / 2) 0
theorem watch_bd {l : List Int} (h : ∀ x ∈ l, 1 ≤ x ∧ x ≤ 360000) : 0 ≤ watchV l ∧ watchV l ≤ 360000 := by
  have hg : ∀ j, j < l.length → 1 ≤ (sortL l).getD j 0 ∧ (sortL l).getD j 0 ≤ 360000 := by
    intro j hj
    have hj' : j < (sortL l).length := by rw [sortL_len]; exact hj
    rw [List.getD_eq_getElem?_getD, List.getElem?_eq_getElem hj']
    exact h _ (sortL_mem (List.getElem_mem hj'))
  unfold watchV
  split
  · omega
  · split
    · have h0 := hg 0 (by omega)
      have h1 := hg 1 (by omega)
      omega
    · have h0 := hg (l.length / 2) (by omega)
      omega
/-- a row of n ≤ 3 watches, sorted, cell by cell -/
theorem watch_cells {w : World} {base b n c : Nat} {l : List Int} (h : w.ownsRow base 3 1 (.slice (some ⟨b, 0, none⟩) n c) n (ints (sortL l))) (hb : ∀ x ∈ l, 1 ≤ x ∧ x ≤ 360000) {j : Nat} (hj : j < n) : w.cell? ⟨b, j, none⟩ = some (.int .i64 ((sortL l).getD j 0)) ∧ 1 ≤ (sortL l).getD j 0 ∧ (sortL l).getD j 0 ≤ 360000 := by
  have hl : (sortL l).length = n := by have := h.1; rw [ints_len] at this; omega
  obtain ⟨x, hx⟩ := at_of_lt (l := sortL l) (k := j) (by omega)
  rw [getD_of hx]
  refine ⟨?_, hb _ (sortL_mem (List.mem_of_getElem? hx))⟩
  rw [h.cellAt _ (by omega), ints_at, hx]; rfl
set_option maxHeartbeats 3200000 in
set_option maxRecDepth 100000 in
theorem watched_c (A : Option Addr) (n c : Nat) (l : List Int) (w : World) (h : RI 3 w A n l) (hn : n ≤ 3) (hb : ∀ x ∈ l, 1 ≤ x ∧ x ≤ 360000) :
    Calls Tryz.prog 140 #[.slice A n c] w fun e w' => e = .returned (.int .i64 (watchV l)) ∧ Below w.heap.size w w' := by
  have hl := h.len
  have hV : watchV l = if n = 0 then 0 else if n = 2 then ((sortL l).getD 0 0 + (sortL l).getD 1 0) / 2 else (sortL l).getD (n / 2) 0 := by unfold watchV; rw [hl]
  rw [hV]
  have hc0 := heap_alloc_new w (.cells #[.slice A n c] 22)
  have hS := Lib.hid (watchSorted_c w.heap.size (.slice A n c) l (by omega) (w.alloc (.cells #[.slice A n c] 22)) (by simp) (by rw [(blk_facts hc0).1 0]; rfl) (by
    rcases intsAt_of (c := c) (h.alloc (.cells #[.slice A n c] 22)) with h1 | h1
    · exact .inl h1
    · exact .inr h1))
  have hb' := Lib.hid hb
  rw [hl] at hS
  clear hb hV hc0 h
  go_enter Tryz.func140, Tryz.ntmps140
  go_wp2_with fail
  refine (values_c A n c w).mono ?_; rintro e w1 ⟨rfl, rfl⟩
  go_wp2_with fail
  refine hS.out.mono ?_; rintro e w2 ⟨A', c', rfl, hown, B2⟩
  have hB := below_box B2
  clear hS B2
  by_cases h0 : n = 0
  · subst h0
    clear hown
    go_wp2
    go_ret
    exact ⟨rfl, hB⟩
  · rcases hown.2 with ⟨_, h1⟩ | ⟨g, cap, cur, hv, _, hgb, _, _, _, _⟩
    · exact absurd h1 h0
    · injection hv with e1 e2 e3
      subst e1
      subst e3
      have hz0 := watch_cells hown hb'.out (j := 0) (by omega)
      by_cases h2 : n = 2
      · subst h2
        have hz1 := watch_cells hown hb'.out (j := 1) (by omega)
        generalize hgx : (sortL l).getD 0 0 = x at *
        generalize hgy : (sortL l).getD 1 0 = y at *
        have hgx' := Lib.hid hgx
        have hgy' := Lib.hid hgy
        clear hgx hgy
        obtain ⟨cx, hx1, hx2⟩ := hz0
        obtain ⟨cy, hy1, hy2⟩ := hz1
        have hwr : IntKind.i64.wrap (x + y) = x + y := IntWalk.i64_in _ (by omega)
        have hnn : 0 ≤ x + y := by omega
        clear hown hgb
        go_wp2_with fail
        go_quiet (fail)
        go_wp2
        go_ret
        exact ⟨by have h8 := hgx'.out; have h9 := hgy'.out; simp only [List.getD_eq_getElem?_getD] at h8 h9; simp [h8, h9], below_drewN hB _⟩
      · have hz := watch_cells hown hb'.out (j := n / 2) (by omega)
        have h3 : n = 1 ∨ n = 3 := by omega
        rcases h3 with rfl | rfl
        · generalize hgx : (sortL l).getD 0 0 = x at *
          obtain ⟨cx, hx1, hx2⟩ := hz0
          have hgx' := Lib.hid hgx
          clear hown hgb hz hgx
          go_wp2
          go_ret
          exact ⟨ret_i (by have h9 := hgx'.out; simp only [List.getD_eq_getElem?_getD] at h9; simp [h9]), hB⟩
        · have hz1 := watch_cells hown hb'.out (j := 1) (by omega)
          generalize hgx : (sortL l).getD 1 0 = x at *
          obtain ⟨cx, hx1, hx2⟩ := hz1
          have hgx' := Lib.hid hgx
          clear hown hgb hz hz0 hgx
          go_wp2
          go_ret
          exact ⟨ret_i (by have h9 := hgx'.out; simp only [List.getD_eq_getElem?_getD] at h9; simp [h9]), hB⟩
end Go.Proofs.YtklggnglaeagpaaGreatDoor

/- Watches, the reference's side; the errors of watches: slices.ContainsFunc at the two tests. -/
namespace Go.Proofs.YtklggnglaeagpaaGreatDoor
open Go.RowKit
set_option linter.unusedVariables false

/-! ## the errors -/
def badW (x : Int) : Bool := !decide (1 ≤ x ∧ x ≤ 360000)
def firstF (p : Int → Bool) : List Int → Int → Int
  | [], _ => -1
  | x :: r, k => if p x = true then k else firstF p r (k + 1)
theorem firstF_at {p : Int → Bool} {l : List Int} {j : Nat} {x : Int} (k : Int) (h : l[j]? = some x) : firstF p (l.drop j) k = if p x = true then k else firstF p (l.drop (j + 1)) (k + 1) := by rw [drop_at h]; rfl
theorem firstF_any (p : Int → Bool) : ∀ (l : List Int) (k : Int), 0 ≤ k → decide (0 ≤ firstF p l k) = l.any p
  | [], _, _ => rfl
  | x :: r, k, h => by
    unfold firstF
    rw [List.any_cons]
    by_cases hx : p x = true
    · rw [if_pos hx, hx]; simp [h]
    · rw [if_neg hx, firstF_any p r _ (by omega)]; simp [hx]
theorem badP_c (x : Int) (w : World) : Calls Tryz.prog 245 #[.int .i64 x] w fun e w' => e = .returned (.bool (badW x)) ∧ w = w' := by
  go_enter Tryz.func245, Tryz.ntmps245
  go_wp2_with fail
  refine (isTime_c x w).mono ?_; rintro e w' ⟨rfl, rfl⟩
  go_wp2
  go_ret
  exact ⟨by simp [badW], rfl⟩
theorem badR_c (x : Int) (w : World) : Calls Tryz.prog 315 #[.int .i64 x] w fun e w' => e = .returned (.bool (badW x)) ∧ w = w' := by
  go_enter Tryz.func315, Tryz.ntmps315
  go_wp2_with fail
  refine (in_c x 1 360000 w).mono ?_; rintro e w' ⟨rfl, rfl⟩
  go_wp2
  go_ret
  exact ⟨by simp [badW], rfl⟩
set_option maxHeartbeats 1600000 in
set_option maxRecDepth 100000 in
theorem indexP_c (A : Option Addr) (n c : Nat) (l : List Int) (w : World) (h : RI 3 w A n l) (hn : n ≤ 1000) :
    Calls Tryz.prog 311 #[.slice A n c, .func (.func 245) #[] #[]] w fun e w' => e = .returned (.int .i64 (firstF badW l 0)) ∧ w' = w := by
  have hl := Lib.hid h.len
  have hB := Lib.hid (fun x => badP_c x w)
  go_enter Tryz.func311, Tryz.ntmps311
  go_wp2_with fail
  go_loop [8] (fun i => ∃ k : Nat, k ≤ n ∧ i = .int .i64 k ∧ Hid (firstF badW (l.drop k) k = firstF badW l 0)) (fun i => n - (intOf i).toNat)
  case atStart => exact ⟨0, Nat.zero_le _, rfl, Lib.hid rfl⟩
  case round =>
    obtain ⟨k, hk, rfl, hF⟩ := hrel
    by_cases hlt : k < n
    · obtain ⟨b, off, x, rfl, hbl, hx, hcell⟩ := h.at_ hlt
      have hS := Lib.hid (firstF_at (p := badW) (k : Int) hx)
      clear hx h
      go_wp2_with fail
      refine (hB.out x).mono ?_; rintro e w' ⟨rfl, rfl⟩
      by_cases hp : badW x = true
      · have hp' := Lib.hid hp
        rw [hp]
        clear hp
        go_wp2
        go_ret
        exact ⟨ret_i (by rw [← hF.out, hS.out, if_pos hp'.out]), rfl⟩
      · have hp' := Lib.hid hp
        have hpf : badW x = false := by simpa using hp
        rw [hpf]
        clear hp hpf
        go_wp2
        go_round
        case rel => exact ⟨k + 1, by omega, by go_num, Lib.hid (by rw [← hF.out, hS.out, if_neg hp'.out]; rfl)⟩
        case measure => simp [intOf]; omega
    · obtain rfl : k = n := by omega
      go_wp2
      go_ret
      exact ⟨ret_i (by rw [← hF.out, drop_end (by rw [hl.out]; exact Nat.le_refl _)]; rfl), rfl⟩
set_option maxHeartbeats 1600000 in
set_option maxRecDepth 100000 in
theorem indexR_c (A : Option Addr) (n c : Nat) (l : List Int) (w : World) (h : RI 3 w A n l) (hn : n ≤ 1000) :
    Calls Tryz.prog 311 #[.slice A n c, .func (.func 315) #[] #[]] w fun e w' => e = .returned (.int .i64 (firstF badW l 0)) ∧ w' = w := by
  have hl := Lib.hid h.len
  have hB := Lib.hid (fun x => badR_c x w)
  go_enter Tryz.func311, Tryz.ntmps311
  go_wp2_with fail
  go_loop [8] (fun i => ∃ k : Nat, k ≤ n ∧ i = .int .i64 k ∧ Hid (firstF badW (l.drop k) k = firstF badW l 0)) (fun i => n - (intOf i).toNat)
  case atStart => exact ⟨0, Nat.zero_le _, rfl, Lib.hid rfl⟩
  case round =>
    obtain ⟨k, hk, rfl, hF⟩ := hrel
    by_cases hlt : k < n
    · obtain ⟨b, off, x, rfl, hbl, hx, hcell⟩ := h.at_ hlt
      have hS := Lib.hid (firstF_at (p := badW) (k : Int) hx)
      clear hx h
      go_wp2_with fail
      refine (hB.out x).mono ?_; rintro e w' ⟨rfl, rfl⟩
      by_cases hp : badW x = true
      · have hp' := Lib.hid hp
        rw [hp]
        clear hp
        go_wp2
        go_ret
        exact ⟨ret_i (by rw [← hF.out, hS.out, if_pos hp'.out]), rfl⟩
      · have hp' := Lib.hid hp
        have hpf : badW x = false := by simpa using hp
        rw [hpf]
        clear hp hpf
        go_wp2
        go_round
        case rel => exact ⟨k + 1, by omega, by go_num, Lib.hid (by rw [← hF.out, hS.out, if_neg hp'.out]; rfl)⟩
        case measure => simp [intOf]; omega
    · obtain rfl : k = n := by omega
      go_wp2
      go_ret
      exact ⟨ret_i (by rw [← hF.out, drop_end (by rw [hl.out]; exact Nat.le_refl _)]; rfl), rfl⟩
theorem hasBadP_c (A : Option Addr) (n c : Nat) (l : List Int) (w : World) (h : RI 3 w A n l) (hn : n ≤ 1000) :
    Calls Tryz.prog 244 #[.slice A n c, .func (.func 245) #[] #[]] w fun e w' => e = .returned (.bool (l.any badW)) ∧ w' = w := by
  have hI := Lib.hid (indexP_c A n c l w h hn)
  have hF := Lib.hid (firstF_any badW l 0 (Int.le_refl _))
  generalize firstF badW l 0 = v at *
  go_enter Tryz.func244, Tryz.ntmps244
  go_wp2_with fail
  refine hI.out.mono ?_; rintro e w' ⟨rfl, rfl⟩
  go_wp2
  go_ret
  exact ⟨by rw [← hF.out]; rfl, rfl⟩
theorem hasBadR_c (A : Option Addr) (n c : Nat) (l : List Int) (w : World) (h : RI 3 w A n l) (hn : n ≤ 1000) :
    Calls Tryz.prog 244 #[.slice A n c, .func (.func 315) #[] #[]] w fun e w' => e = .returned (.bool (l.any badW)) ∧ w' = w := by
  have hI := Lib.hid (indexR_c A n c l w h hn)
  have hF := Lib.hid (firstF_any badW l 0 (Int.le_refl _))
  generalize firstF badW l 0 = v at *
  go_enter Tryz.func244, Tryz.ntmps244
  go_wp2_with fail
  refine hI.out.mono ?_; rintro e w' ⟨rfl, rfl⟩
  go_wp2
  go_ret
  exact ⟨by rw [← hF.out]; rfl, rfl⟩
def watchErr (l : List Int) : Int := if 3 < l.length then 2 else if l.any badW then 1 else 0
theorem checkWatches_c (A : Option Addr) (n c : Nat) (l : List Int) (w : World) (h : RI 3 w A n l) :
    Calls Tryz.prog 139 #[.slice A n c] w fun e w' => e = .returned (.int .i64 (watchErr l)) ∧ w' = w := by
  have hl := h.len
  have hE : watchErr l = if 3 < n then 2 else if l.any badW then 1 else 0 := by unfold watchErr; rw [hl]
  rw [hE]
  clear hE
  by_cases h3 : 3 < n
  · go_enter Tryz.func139, Tryz.ntmps139
    go_wp2
    go_ret
    exact ⟨by simp [h3], rfl⟩
  · have hC := Lib.hid (hasBadP_c A n c l w h (by omega))
    generalize l.any badW = q at *
    have h3' := Lib.hid h3
    have h3i : ¬ (3 : Int) < (n : Int) := by omega
    clear h3
    go_enter Tryz.func139, Tryz.ntmps139
    go_wp2_with fail
    refine hC.out.mono ?_; rintro e w' ⟨rfl, rfl⟩
    cases q
    · go_wp2
      go_ret
      exact ⟨rfl, rfl⟩
    · go_wp2
      go_ret
      exact ⟨rfl, rfl⟩
theorem watchesFault_c (A : Option Addr) (n c : Nat) (l : List Int) (w : World) (h : RI 3 w A n l) :
    Calls Tryz.prog 248 #[.slice A n c] w fun e w' => e = .returned (.int .i64 (watchErr l)) ∧ w' = w := by
  have hl := h.len
  have hE : watchErr l = if 3 < n then 2 else if l.any badW then 1 else 0 := by unfold watchErr; rw [hl]
  rw [hE]
  clear hE
  by_cases h3 : 3 < n
  · go_enter Tryz.func248, Tryz.ntmps248
    go_wp2
    go_ret
    exact ⟨by simp [h3], rfl⟩
  · have hC := Lib.hid (hasBadR_c A n c l w h (by omega))
    generalize l.any badW = q at *
    have h3' := Lib.hid h3
    have h3i : ¬ (3 : Int) < (n : Int) := by omega
    clear h3
    go_enter Tryz.func248, Tryz.ntmps248
    go_wp2_with fail
    refine hC.out.mono ?_; rintro e w' ⟨rfl, rfl⟩
    cases q
    · go_wp2
      go_ret
      exact ⟨rfl, rfl⟩
    · go_wp2
      go_ret
      exact ⟨rfl, rfl⟩
theorem watchErr_ok {l : List Int} (h : watchErr l = 0) : l.length ≤ 3 ∧ ∀ x ∈ l, 1 ≤ x ∧ x ≤ 360000 := by
  unfold watchErr at h
  split at h
  · cases h
  · split at h
    · cases h
    · rename_i h1 h2
      refine ⟨by omega, fun x hx => ?_⟩
      by_cases hb : 1 ≤ x ∧ x ≤ 360000
      · exact hb
      · have hbx : badW x = true := by unfold badW; simp only [decide_eq_false hb]; rfl
        exact absurd (List.any_eq_true.2 ⟨x, hx, hbx⟩) h2
end Go.Proofs.YtklggnglaeagpaaGreatDoor
