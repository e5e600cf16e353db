/- The official time of a right touch: the program's, the reference's. -/
import Derived.Test.YthopkmcabjnfnaaGreatDoorTouch1
namespace Go.Proofs.YthopkmcabjnfnaaGreatDoor
open Go.RowKit
set_option linter.unusedVariables false

theorem off_good {pad btn W : Int} (h : goodB pad btn W = true) : offW pad btn W = ⟨pad, 1⟩ := by unfold offW; rw [if_pos h]
theorem off_btn {pad btn W : Int} (h : goodB pad btn W = false) (h1 : 0 < btn) : offW pad btn W = ⟨btn, 2⟩ := by unfold offW; rw [if_neg (by simp [h]), if_pos h1]
theorem off_w {pad btn W : Int} (h : goodB pad btn W = false) (h1 : btn ≤ 0) (h2 : 0 < W) : offW pad btn W = ⟨W, 3⟩ := by unfold offW; rw [if_neg (by simp [h]), if_neg (by omega), if_pos h2]
theorem off_none {pad btn W : Int} (h : goodB pad btn W = false) (h1 : btn ≤ 0) (h2 : W ≤ 0) : offW pad btn W = ⟨0, 4⟩ := by unfold offW; rw [if_neg (by simp [h]), if_neg (by omega), if_neg (by omega)]
set_option maxHeartbeats 3200000 in
set_option maxRecDepth 100000 in
theorem official_c (x : Tc) (w : World) (h : RI 3 w x.A x.n x.ws) (h0 : touchErr x = 0) :
    Calls Tryz.prog 70 #[x.val] w fun e w' => e = .returned (offV x).val ∧ Below w.heap.size w w' := by
  obtain ⟨p0, p1, q0, q1, hn, hb⟩ := touch_ok h0
  have hWb := watch_bd hb
  have hl := h.len
  have hWc := Lib.hid (fun W h => watched_c x.A x.n x.c x.ws W h (by omega) hb)
  obtain ⟨pad, btn, A, n, c, ws⟩ := x
  unfold offV
  dsimp only [Tc.val] at *
  clear hl hn hb h0
  generalize watchV ws = W at *
  have hb0 := heap_alloc_new (w.alloc (.cells #[.int .i64 pad, .int .i64 btn, .slice A n c] 37)) (.cells #[.int .i64 0, .int .i64 0] 39)
  have ha0 := blk_alloc (heap_alloc_new w (.cells #[.int .i64 pad, .int .i64 btn, .slice A n c] 37)) (.cells #[.int .i64 0, .int .i64 0] 39)
  have z0 := (blk_facts ha0).1
  go_enter Tryz.func70, Tryz.ntmps70
  go_wp2_with fail
  refine (hWc.out _ ((h.alloc _).alloc _)).mono ?_; rintro e w1 ⟨rfl, B1⟩
  obtain ⟨Z, Y⟩ := blk_facts (blk_below hb0 B1)
  have ZA := (blk_facts (blk_below ha0 B1)).1
  have alloc_size : ∀ (w : World) (o : Obj), (w.alloc o).heap.size = w.heap.size + 1 := fun w o => by simp
  simp only [alloc_size] at Z Y
  clear alloc_size
  have B := below_box (below_box B1)
  clear hb0 ha0 B1 z0 hWc h
  by_cases hp : 0 < pad
  · by_cases hq : 0 < btn
    · have hg : goodB pad btn W = nearB pad btn := by unfold goodB; rw [decide_eq_true hp, if_pos hq]; rfl
      have hN := Lib.hid (fun w => near_c pad btn w p0 p1 q0 q1)
      generalize nearB pad btn = q at *
      go_wp2_with fail
      refine (hN.out _).mono ?_; rintro e w' ⟨rfl, rfl⟩
      cases q
      · have hO := Lib.hid (off_btn hg hq)
        go_wp2
        refine bodyPost_ret (v := .agg #[.int .i64 btn, .int .i64 2]) (by simp [results, Tryz.results70, go_sem, Z]) rfl ⟨by rw [hO.out]; rfl, ?_⟩
        repeat (with_reducible refine Below.setCell ?_ (by simp) _)
        exact B
      · have hO := Lib.hid (off_good hg)
        go_wp2
        refine bodyPost_ret (v := .agg #[.int .i64 pad, .int .i64 1]) (by simp [results, Tryz.results70, go_sem, Z]) rfl ⟨by rw [hO.out]; rfl, ?_⟩
        repeat (with_reducible refine Below.setCell ?_ (by simp) _)
        exact B
    · have hq' : btn ≤ 0 := by omega
      by_cases hw : 0 < W
      · have hg : goodB pad btn W = nearB pad W := by unfold goodB; rw [decide_eq_true hp, if_neg hq, if_pos hw]; rfl
        have hN := Lib.hid (fun w => near_c pad W w p0 p1 hWb.1 hWb.2)
        generalize nearB pad W = q at *
        go_wp2_with fail
        refine (hN.out _).mono ?_; rintro e w' ⟨rfl, rfl⟩
        cases q
        · have hO := Lib.hid (off_w hg hq' hw)
          go_wp2
          refine bodyPost_ret (v := .agg #[.int .i64 W, .int .i64 3]) (by simp [results, Tryz.results70, go_sem, Z]) rfl ⟨by rw [hO.out]; rfl, ?_⟩
          repeat (with_reducible refine Below.setCell ?_ (by simp) _)
          exact B
        · have hO := Lib.hid (off_good hg)
          go_wp2
          refine bodyPost_ret (v := .agg #[.int .i64 pad, .int .i64 1]) (by simp [results, Tryz.results70, go_sem, Z]) rfl ⟨by rw [hO.out]; rfl, ?_⟩
          repeat (with_reducible refine Below.setCell ?_ (by simp) _)
          exact B
      · have hg : goodB pad btn W = true := by unfold goodB; rw [decide_eq_true hp, if_neg hq, if_neg hw]; rfl
        have hw' : W ≤ 0 := by omega
        have hO := Lib.hid (off_good hg)
        clear hg
        go_wp2
        refine bodyPost_ret (v := .agg #[.int .i64 pad, .int .i64 1]) (by simp [results, Tryz.results70, go_sem, Z]) rfl ⟨by rw [hO.out]; rfl, ?_⟩
        repeat (with_reducible refine Below.setCell ?_ (by simp) _)
        exact B
  · have hp' : pad ≤ 0 := by omega
    have hg : goodB pad btn W = false := by unfold goodB; rw [decide_eq_false hp]; rfl
    by_cases hq : 0 < btn
    · have hO := Lib.hid (off_btn hg hq)
      clear hg
      go_wp2
      refine bodyPost_ret (v := .agg #[.int .i64 btn, .int .i64 2]) (by simp [results, Tryz.results70, go_sem, Z]) rfl ⟨by rw [hO.out]; rfl, ?_⟩
      repeat (with_reducible refine Below.setCell ?_ (by simp) _)
      exact B
    · have hq' : btn ≤ 0 := by omega
      by_cases hw : 0 < W
      · have hO := Lib.hid (off_w hg hq' hw)
        clear hg
        go_wp2
        refine bodyPost_ret (v := .agg #[.int .i64 W, .int .i64 3]) (by simp [results, Tryz.results70, go_sem, Z]) rfl ⟨by rw [hO.out]; rfl, ?_⟩
        repeat (with_reducible refine Below.setCell ?_ (by simp) _)
        exact B
      · have hw' : W ≤ 0 := by omega
        have hO := Lib.hid (off_none hg hq' hw')
        clear hg
        go_wp2
        refine bodyPost_ret (v := .agg #[.int .i64 0, .int .i64 4]) (by simp [results, Tryz.results70, go_sem, Z]) rfl ⟨by rw [hO.out]; rfl, ?_⟩
        repeat (with_reducible refine Below.setCell ?_ (by simp) _)
        exact B
end Go.Proofs.YthopkmcabjnfnaaGreatDoor
