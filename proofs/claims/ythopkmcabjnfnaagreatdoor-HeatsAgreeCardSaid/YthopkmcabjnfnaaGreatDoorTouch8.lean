/- timing.Watched and timing.Official, errors and answers in one. -/
import Derived.Test.YthopkmcabjnfnaaGreatDoorTouch7
namespace Go.Proofs.YthopkmcabjnfnaaGreatDoor
open Go.RowKit
set_option linter.unusedVariables false

theorem watch_pos {l : List Int} (h : ∀ x ∈ l, 1 ≤ x ∧ x ≤ 360000) (hl : 0 < l.length) : 1 ≤ watchV l := by
  have hg : ∀ j, j < l.length → 1 ≤ (sortL l).getD j 0 := by
    intro j hj
    have hj' : j < (sortL l).length := by rw [sortL_len]; exact hj
    rw [List.getD_eq_getElem?_getD, List.getElem?_eq_getElem hj']
    exact (h _ (sortL_mem (List.getElem_mem hj'))).1
  unfold watchV
  rw [if_neg (by omega)]
  split
  · have h0 := hg 0 (by omega)
    have h1 := hg 1 (by omega)
    omega
  · exact hg _ (by omega)
def watchA (l : List Int) : Int := if watchErr l = 0 then watchV l else 0
def watchQ (l : List Int) : Bool := if watchErr l = 0 then decide (0 < l.length) else false
theorem watchedE_c (A : Option Addr) (n c : Nat) (l : List Int) (w : World) (h : RI 3 w A n l) :
    Calls Tryz.prog 40 #[.slice A n c] w fun e w' => e = .returned (.tuple #[.int .i64 (watchA l), .bool (watchQ l), .int .i64 (watchErr l)]) ∧ Below w.heap.size w w' := by
  have hl := h.len
  have hCk := checkWatches_c A n c l w h
  by_cases h0 : watchErr l = 0
  · obtain ⟨h3, hb⟩ := watchErr_ok h0
    have hW := Lib.hid (watched_c A n c l w h (by omega) hb)
    have hA : watchA l = watchV l := by unfold watchA; rw [if_pos h0]
    have hQ : watchQ l = decide (0 < n) := by unfold watchQ; rw [if_pos h0, hl]
    rw [hA, hQ]
    rw [h0] at hCk ⊢
    have hCk' := Lib.hid hCk
    clear hCk h0 hA hQ hb h3
    go_enter Tryz.func40, Tryz.ntmps40
    go_wp2_with fail
    refine hCk'.out.mono ?_; rintro e w1 ⟨rfl, rfl⟩
    go_wp2_with fail
    refine hW.out.mono ?_; rintro e w2 ⟨rfl, B2⟩
    go_wp2
    go_ret3
    exact ⟨rfl, B2⟩
  · have hA : watchA l = 0 := by unfold watchA; rw [if_neg h0]
    have hQ : watchQ l = false := by unfold watchQ; rw [if_neg h0]
    rw [hA, hQ]
    have hne : (watchErr l != 0) = true := by simpa using h0
    generalize watchErr l = E at *
    have hCk' := Lib.hid hCk
    clear hCk h0 hA hQ
    go_enter Tryz.func40, Tryz.ntmps40
    go_wp2_with fail
    refine hCk'.out.mono ?_; rintro e w1 ⟨rfl, rfl⟩
    go_wp2
    go_ret3
    exact ⟨rfl, Below.refl _ _⟩
def offA (x : Tc) : Sm := if touchErr x = 0 then offV x else ⟨0, 0⟩
set_option maxHeartbeats 1600000 in
set_option maxRecDepth 100000 in
theorem officialE_c (x : Tc) (w : World) (h : RI 3 w x.A x.n x.ws) :
    Calls Tryz.prog 15 #[x.val] w fun e w' => e = .returned (.tuple #[(offA x).val, .int .i64 (touchErr x)]) ∧ Below w.heap.size w w' := by
  have hC := Lib.hid (fun W h => checkTouch_c x W h)
  unfold offA
  by_cases h0 : touchErr x = 0
  · have hO := Lib.hid (fun W h => official_c x W h h0)
    rw [if_pos h0]
    rw [h0] at hC ⊢
    clear h0
    generalize offV x = o at *
    obtain ⟨pad, btn, A, n, c, ws⟩ := x
    obtain ⟨tm, by_⟩ := o
    dsimp only [Tc.val, Sm.val] at *
    have hb0 := heap_alloc_new (w.alloc (.cells #[.int .i64 pad, .int .i64 btn, .slice A n c] 37)) (.cells #[.int .i64 0, .int .i64 0] 39)
    have ha0 := blk_alloc (heap_alloc_new w (.cells #[.int .i64 pad, .int .i64 btn, .slice A n c] 37)) (.cells #[.int .i64 0, .int .i64 0] 39)
    have z0 := (blk_facts ha0).1
    go_enter Tryz.func15, Tryz.ntmps15
    go_wp2_with fail
    refine (hC.out _ ((h.alloc _).alloc _)).mono ?_; rintro e w1 ⟨rfl, B1⟩
    have hb1 := blk_below hb0 B1
    have ha1 := blk_below ha0 B1
    have z1 := (blk_facts ha1).1
    have B1' := below_box (below_box B1)
    clear hb0 ha0 z0
    go_wp2_with fail
    refine (hO.out _ (h.below B1')).mono ?_; rintro e w2 ⟨rfl, B2⟩
    obtain ⟨Z, Y⟩ := blk_facts (blk_below hb1 B2)
    have alloc_size : ∀ (w : World) (o : Obj), (w.alloc o).heap.size = w.heap.size + 1 := fun w o => by simp
    simp only [alloc_size] at Z Y
    have B := below_next B1' B2
    clear hb1 ha1 z1 B1 B2 B1' alloc_size
    go_wp2
    refine bodyPost_ret (v := .tuple #[.agg #[.int .i64 tm, .int .i64 by_], .int .i64 0]) (by simp [results, Tryz.results15, go_sem, Z]) rfl ⟨rfl, ?_⟩
    repeat (with_reducible refine Below.setCell ?_ (by simp) _)
    exact B
  · rw [if_neg h0]
    have hne : (touchErr x != 0) = true := by simpa using h0
    generalize touchErr x = E at *
    clear h0
    obtain ⟨pad, btn, A, n, c, ws⟩ := x
    dsimp only [Tc.val, Sm.val] at *
    have hb0 := heap_alloc_new (w.alloc (.cells #[.int .i64 pad, .int .i64 btn, .slice A n c] 37)) (.cells #[.int .i64 0, .int .i64 0] 39)
    have ha0 := blk_alloc (heap_alloc_new w (.cells #[.int .i64 pad, .int .i64 btn, .slice A n c] 37)) (.cells #[.int .i64 0, .int .i64 0] 39)
    have z0 := (blk_facts ha0).1
    go_enter Tryz.func15, Tryz.ntmps15
    go_wp2_with fail
    refine (hC.out _ ((h.alloc _).alloc _)).mono ?_; rintro e w1 ⟨rfl, B1⟩
    obtain ⟨Z, Y⟩ := blk_facts (blk_below hb0 B1)
    have alloc_size : ∀ (w : World) (o : Obj), (w.alloc o).heap.size = w.heap.size + 1 := fun w o => by simp
    simp only [alloc_size] at Z Y
    have B := below_box (below_box B1)
    clear hb0 ha0 z0 B1 alloc_size
    go_wp2
    refine bodyPost_ret (v := .tuple #[.agg #[.int .i64 0, .int .i64 0], .int .i64 E]) (by simp [results, Tryz.results15, go_sem, Z]) rfl ⟨rfl, ?_⟩
    repeat (with_reducible refine Below.setCell ?_ (by simp) _)
    exact B
end Go.Proofs.YthopkmcabjnfnaaGreatDoor
