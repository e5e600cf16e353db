/- The touches of a heat: their error, how far the buttons are, the official times. -/
import Derived.Test.YthopkmcabjnfnaaGreatDoorTouch3
namespace Go.Proofs.YthopkmcabjnfnaaGreatDoor
open Go.RowKit
set_option linter.unusedVariables false

def RTc (w : World) (A : Option Addr) (n : Nat) (l : List Tc) : Prop := RN 3 tcE 37 w A n l ∧ ∀ x ∈ l, RI 3 w x.A x.n x.ws
section
variable {w w' : World} {A : Option Addr} {n : Nat} {l : List Tc}
theorem RTc.len (h : RTc w A n l) : l.length = n := h.1.len
theorem RTc.bd (h : RTc w A n l) : n ≤ 140737488355328 := h.1.bd
theorem RTc.below (h : RTc w A n l) (hb : Below w.heap.size w w') : RTc w' A n l := ⟨h.1.below hb, fun x hx => (h.2 x hx).below hb⟩
theorem RTc.keep {T : TypeId} (h : RTc w A n l) (he : 37 ≠ T ∧ 3 ≠ T) (hk : Keep T w w') : RTc w' A n l := ⟨h.1.keep he.1 hk, fun x hx => (h.2 x hx).keep he.2 hk⟩
theorem RTc.alloc (h : RTc w A n l) (o : Obj) : RTc (w.alloc o) A n l := h.below (below_new w o)
theorem RTc.drewN (h : RTc w A n l) (k : Nat) : RTc (w.drewN k) A n l := h
theorem RTc.nil_ (w : World) : RTc w none 0 [] := ⟨RN.nil_ _ _ _ _ _, fun x hx => by cases hx⟩
theorem RTc.at3 (h : RTc w A n l) {k : Nat} (hk : k < n) : ∃ b off x, A = some ⟨b, off, none⟩ ∧ b < w.heap.size ∧ l[k]? = some x ∧ w.cell? ⟨b, off + k * 3, none⟩ = some (.int .i64 x.pad) ∧ w.cell? ⟨b, off + k * 3 + 1, none⟩ = some (.int .i64 x.btn) ∧ w.cell? ⟨b, off + k * 3 + 2, none⟩ = some (.slice x.A x.n x.c) ∧ RI 3 w x.A x.n x.ws := by
  obtain ⟨b, off, x, hA, hb, hx, hc⟩ := h.1.at_ hk
  exact ⟨b, off, x, hA, hb, hx, hc 0 _ rfl, hc 1 _ rfl, hc 2 _ rfl, h.2 x (List.mem_of_getElem? hx)⟩
end

/-! ## the error -/
def heatGo : List Tc → Int
  | [] => 0
  | x :: r => if touchErr x ≠ 0 then touchErr x else heatGo r
def heatErr (l : List Tc) : Int := if 10 < l.length then 2 else heatGo l
theorem heatGo_at {l : List Tc} {k : Nat} {x : Tc} (h : l[k]? = some x) : heatGo (l.drop k) = if touchErr x ≠ 0 then touchErr x else heatGo (l.drop (k + 1)) := by rw [drop_at h]; rfl
theorem heatGo_ok : ∀ {l : List Tc}, heatGo l = 0 → ∀ x ∈ l, touchErr x = 0
  | [], _, x, hx => by cases hx
  | y :: r, h, x, hx => by
    unfold heatGo at h
    split at h
    · rename_i h1; exact absurd h h1
    · rename_i h1
      rcases List.mem_cons.1 hx with rfl | hx
      · omega
      · exact heatGo_ok h x hx
theorem heat_ok {l : List Tc} (h : heatErr l = 0) : l.length ≤ 10 ∧ ∀ x ∈ l, touchErr x = 0 := by
  unfold heatErr at h
  split at h
  · cases h
  · exact ⟨by omega, heatGo_ok h⟩
set_option maxHeartbeats 1600000 in
set_option maxRecDepth 100000 in
theorem checkHeat_c (A : Option Addr) (n c : Nat) (l : List Tc) (w : World) (h : RTc w A n l) :
    Calls Tryz.prog 68 #[.slice A n c] w fun e w' => e = .returned (.int .i64 (heatErr l)) ∧ Below w.heap.size w w' := by
  have hl := h.len
  have hnb := h.bd
  have hE : heatErr l = if 10 < n then 2 else heatGo l := by unfold heatErr; rw [hl]
  rw [hE]
  clear hE
  by_cases h10 : 10 < n
  · have hi : (10 : Int) < (n : Int) := by omega
    rw [if_pos h10]
    go_enter Tryz.func68, Tryz.ntmps68
    go_wp2
    go_ret
    exact ⟨rfl, Below.refl _ _⟩
  · have hi : ¬ (10 : Int) < (n : Int) := by omega
    rw [if_neg h10]
    have hC := Lib.hid (fun x W h => checkTouch_c x W h)
    have hl' := Lib.hid hl
    clear hl h10
    generalize hE : heatGo l = E
    have hE' := Lib.hid hE
    clear hE
    go_enter Tryz.func68, Tryz.ntmps68
    go_wp2_with fail
    go_loopw [11] (fun i wr => ∃ k : Nat, k ≤ n ∧ i = .int .i64 k ∧ Below w.heap.size w wr ∧ Hid (heatGo (l.drop k) = E)) (fun i _ => n - (intOf i).toNat)
    case atStart => exact ⟨0, Nat.zero_le _, rfl, Below.refl _ _, Lib.hid hE'.out⟩
    case round =>
      obtain ⟨k, hk, rfl, hB, hF⟩ := hrel
      by_cases hlt : k < n
      · obtain ⟨b, off, x, hA, hbl, hx, c0, c1, c2, hI⟩ := (h.below hB).at3 hlt
        subst hA
        have hS := Lib.hid (heatGo_at hx)
        have hC1 := Lib.hid (fun W h => hC.out x W h)
        generalize touchErr x = T at *
        obtain ⟨pad, btn, xA, xn, xc, ws⟩ := x
        dsimp only [Tc.val] at *
        have hn5 := heap_alloc_new wr (.cells #[.int .i64 pad, .int .i64 btn, .slice xA xn xc] 37)
        have z5 := (blk_facts hn5).1
        have hB5 := hB.alloc hB.size (.cells #[.int .i64 pad, .int .i64 btn, .slice xA xn xc] 37)
        have hI5 := hI.alloc (.cells #[.int .i64 pad, .int .i64 btn, .slice xA xn xc] 37)
        clear hx hI hB hn5
        go_wp2_with fail
        refine (hC1.out _ hI5).mono ?_; rintro e w6 ⟨rfl, B6⟩
        have hB6 := below_next hB5 B6
        clear hB5 B6 z5 hI5 hC1
        by_cases hT : T = 0
        · have hT' := Lib.hid hT
          have hTb : (T != 0) = false := by simp [hT]
          clear hT
          go_wp2
          go_roundw
          case rel => exact ⟨k + 1, by omega, by go_num, hB6, Lib.hid (by rw [← hF.out, hS.out, if_neg (by simpa using hT'.out)])⟩
          case measure => simp [intOf]; omega
        · have hT' := Lib.hid hT
          have hTb : (T != 0) = true := by simpa using hT
          clear hT
          go_wp2
          go_ret
          exact ⟨ret_i (by rw [← hF.out, hS.out, if_pos hT'.out]), hB6⟩
      · obtain rfl : k = n := by omega
        go_wp2
        go_ret
        exact ⟨ret_i (by rw [← hF.out, drop_end (by rw [hl'.out]; exact Nat.le_refl _)]; rfl), hB⟩
set_option maxHeartbeats 1600000 in
set_option maxRecDepth 100000 in
theorem touchesFault_c (A : Option Addr) (n c : Nat) (l : List Tc) (w : World) (h : RTc w A n l) :
    Calls Tryz.prog 11 #[.slice A n c] w fun e w' => e = .returned (.int .i64 (heatErr l)) ∧ Below w.heap.size w w' := by
  have hl := h.len
  have hnb := h.bd
  have hE : heatErr l = if 10 < n then 2 else heatGo l := by unfold heatErr; rw [hl]
  rw [hE]
  clear hE
  by_cases h10 : 10 < n
  · have hi : (10 : Int) < (n : Int) := by omega
    rw [if_pos h10]
    go_enter Tryz.func11, Tryz.ntmps11
    go_wp2
    go_ret
    exact ⟨rfl, Below.refl _ _⟩
  · have hi : ¬ (10 : Int) < (n : Int) := by omega
    rw [if_neg h10]
    have hC := Lib.hid (fun x W h => touchFault_c x W h)
    have hl' := Lib.hid hl
    clear hl h10
    generalize hE : heatGo l = E
    have hE' := Lib.hid hE
    clear hE
    go_enter Tryz.func11, Tryz.ntmps11
    go_wp2_with fail
    go_loopw [11] (fun i wr => ∃ k : Nat, k ≤ n ∧ i = .int .i64 k ∧ Below w.heap.size w wr ∧ Hid (heatGo (l.drop k) = E)) (fun i _ => n - (intOf i).toNat)
    case atStart => exact ⟨0, Nat.zero_le _, rfl, Below.refl _ _, Lib.hid hE'.out⟩
    case round =>
      obtain ⟨k, hk, rfl, hB, hF⟩ := hrel
      by_cases hlt : k < n
      · obtain ⟨b, off, x, hA, hbl, hx, c0, c1, c2, hI⟩ := (h.below hB).at3 hlt
        subst hA
        have hS := Lib.hid (heatGo_at hx)
        have hC1 := Lib.hid (fun W h => hC.out x W h)
        generalize touchErr x = T at *
        obtain ⟨pad, btn, xA, xn, xc, ws⟩ := x
        dsimp only [Tc.val] at *
        have hn5 := heap_alloc_new wr (.cells #[.int .i64 pad, .int .i64 btn, .slice xA xn xc] 37)
        have z5 := (blk_facts hn5).1
        have hB5 := hB.alloc hB.size (.cells #[.int .i64 pad, .int .i64 btn, .slice xA xn xc] 37)
        have hI5 := hI.alloc (.cells #[.int .i64 pad, .int .i64 btn, .slice xA xn xc] 37)
        clear hx hI hB hn5
        go_wp2_with fail
        refine (hC1.out _ hI5).mono ?_; rintro e w6 ⟨rfl, B6⟩
        have hB6 := below_next hB5 B6
        clear hB5 B6 z5 hI5 hC1
        by_cases hT : T = 0
        · have hT' := Lib.hid hT
          have hTb : (T != 0) = false := by simp [hT]
          clear hT
          go_wp2
          go_roundw
          case rel => exact ⟨k + 1, by omega, by go_num, hB6, Lib.hid (by rw [← hF.out, hS.out, if_neg (by simpa using hT'.out)])⟩
          case measure => simp [intOf]; omega
        · have hT' := Lib.hid hT
          have hTb : (T != 0) = true := by simpa using hT
          clear hT
          go_wp2
          go_ret
          exact ⟨ret_i (by rw [← hF.out, hS.out, if_pos hT'.out]), hB6⟩
      · obtain rfl : k = n := by omega
        go_wp2
        go_ret
        exact ⟨ret_i (by rw [← hF.out, drop_end (by rw [hl'.out]; exact Nat.le_refl _)]; rfl), hB⟩
end Go.Proofs.YthopkmcabjnfnaaGreatDoor
