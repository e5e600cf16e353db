/- The official time of a right touch: the reference's. -/
import Derived.Test.YtcdoidhookghaaaDoorTouch2
namespace Go.Proofs.YtcdoidhookghaaaDoor
open Go.RowKit
set_option linter.unusedVariables false

theorem good_t {pad btn W : Int} (h0 : 0 < pad) (h1 : 0 < btn → pad - btn ≤ 30 ∧ btn - pad ≤ 30) (h2 : btn ≤ 0 → 0 < W → pad - W ≤ 30 ∧ W - pad ≤ 30) : goodB pad btn W = true := by
  unfold goodB nearB
  rw [decide_eq_true h0]
  split
  · rename_i h; simpa using h1 h
  · split
    · rename_i h h'; simpa using h2 (by omega) h'
    · rfl
theorem good_f {pad btn W : Int} (h : pad ≤ 0 ∨ (0 < btn ∧ ¬ (pad - btn ≤ 30 ∧ btn - pad ≤ 30)) ∨ (btn ≤ 0 ∧ 0 < W ∧ ¬ (pad - W ≤ 30 ∧ W - pad ≤ 30))) : goodB pad btn W = false := by
  unfold goodB nearB
  rcases h with h | ⟨h, h'⟩ | ⟨h, h', h''⟩
  · rw [decide_eq_false (by omega)]; rfl
  · rw [if_pos h, decide_eq_false h', Bool.and_false]
  · rw [if_neg (by omega), if_pos h', decide_eq_false h'', Bool.and_false]
set_option maxHeartbeats 6400000 in
set_option maxRecDepth 100000 in
theorem officialOf_c (x : Tc) (w : World) (h : RI 3 w x.A x.n x.ws) (h0 : touchErr x = 0) :
    Calls Tryd.prog 35 #[x.val] w fun e w' => e = .returned (offV x).val ∧ Below w.heap.size w w' := by
  obtain ⟨p0, p1, q0, q1, hn, hb⟩ := touch_ok h0
  have hWb := watch_bd hb
  have hl := h.len
  have hWc := Lib.hid (fun W h => watchedOf_c x.A x.n x.c x.ws W h (by omega) hb)
  obtain ⟨pad, btn, A, n, c, ws⟩ := x
  unfold offV
  dsimp only [Tc.val] at *
  clear hl hn hb h0
  generalize watchV ws = W at *
  obtain ⟨w0, w1⟩ := hWb
  have hb0 := heap_alloc_new (w.alloc (.cells #[.int .i64 pad, .int .i64 btn, .slice A n c] 58)) (.cells #[.int .i64 0, .int .i64 0] 68)
  have ha0 := blk_alloc (heap_alloc_new w (.cells #[.int .i64 pad, .int .i64 btn, .slice A n c] 58)) (.cells #[.int .i64 0, .int .i64 0] 68)
  have z0 := (blk_facts ha0).1
  go_enter Tryd.func35, Tryd.ntmps35
  go_wp2_with fail
  refine (hWc.out _ ((h.alloc _).alloc _)).mono ?_; rintro e w1 ⟨rfl, B1⟩
  obtain ⟨Z, Y⟩ := blk_facts (blk_below hb0 B1)
  have ZA := (blk_facts (blk_below ha0 B1)).1
  have alloc_size : ∀ (w : World) (o : Obj), (w.alloc o).heap.size = w.heap.size + 1 := fun w o => by simp
  simp only [alloc_size] at Z Y
  have B := below_box (below_box B1)
  clear hb0 ha0 B1 z0 hWc h alloc_size
  have e1 : IntKind.i64.wrap (pad - btn) = pad - btn := IntWalk.i64_in _ (by omega)
  have e2 : IntKind.i64.wrap (btn - pad) = btn - pad := IntWalk.i64_in _ (by omega)
  have e3 : IntKind.i64.wrap (pad - W) = pad - W := IntWalk.i64_in _ (by omega)
  have e4 : IntKind.i64.wrap (W - pad) = W - pad := IntWalk.i64_in _ (by omega)
  by_cases hq : btn = 0
  · by_cases hw : W = 0
    · subst hq
      subst hw
      go_wp2
      all_goals first
        | (refine bodyPost_ret (v := .agg #[.int .i64 pad, .int .i64 1]) (by simp [results, Tryd.results35, go_sem, Z]; done) rfl ⟨by rw [off_good (good_t (by omega) (by omega) (by omega))]; rfl, ?_⟩
           repeat (with_reducible refine Below.setCell ?_ (by simp) _)
           exact B)
        | (refine bodyPost_ret (v := .agg #[.int .i64 0, .int .i64 4]) (by simp [results, Tryd.results35, go_sem, Z]; done) rfl ⟨by rw [off_none (good_f (by omega)) (by omega) (by omega)]; rfl, ?_⟩
           repeat (with_reducible refine Below.setCell ?_ (by simp) _)
           exact B)
    · have hwb : (W == 0) = false := beq_eq_false_iff_ne.2 hw
      subst hq
      have hw1 : 0 < W := by omega
      go_wp2
      all_goals first
        | (refine bodyPost_ret (v := .agg #[.int .i64 pad, .int .i64 1]) (by simp [results, Tryd.results35, go_sem, Z]; done) rfl ⟨by rw [off_good (good_t (by omega) (by omega) (by omega))]; rfl, ?_⟩
           repeat (with_reducible refine Below.setCell ?_ (by simp) _)
           exact B)
        | (refine bodyPost_ret (v := .agg #[.int .i64 W, .int .i64 3]) (by simp [results, Tryd.results35, go_sem, Z]; done) rfl ⟨by rw [off_w (good_f (by omega)) (by omega) (by omega)]; rfl, ?_⟩
           repeat (with_reducible refine Below.setCell ?_ (by simp) _)
           exact B)
  · have hqb : (btn == 0) = false := beq_eq_false_iff_ne.2 hq
    have hq1 : 0 < btn := by omega
    go_wp2
    all_goals first
      | (refine bodyPost_ret (v := .agg #[.int .i64 pad, .int .i64 1]) (by simp [results, Tryd.results35, go_sem, Z]; done) rfl ⟨by rw [off_good (good_t (by omega) (by omega) (by omega))]; rfl, ?_⟩
         repeat (with_reducible refine Below.setCell ?_ (by simp) _)
         exact B)
      | (refine bodyPost_ret (v := .agg #[.int .i64 btn, .int .i64 2]) (by simp [results, Tryd.results35, go_sem, Z]; done) rfl ⟨by rw [off_btn (good_f (by omega)) (by omega)]; rfl, ?_⟩
         repeat (with_reducible refine Below.setCell ?_ (by simp) _)
         exact B)
end Go.Proofs.YtcdoidhookghaaaDoor
