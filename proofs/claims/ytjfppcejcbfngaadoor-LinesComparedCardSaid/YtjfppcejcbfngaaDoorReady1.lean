/- What the statements of tumbkeep end with: heat.Lanes of a small pool. -/
import Derived.Test.YtjfppcejcbfngaaDoorSplits
import Derived.Test.YtjfppcejcbfngaaDoorLists
import Derived.Test.YtjfppcejcbfngaaDoorClock
namespace Go.Proofs.YtjfppcejcbfngaaDoor
open Go.RowKit
set_option linter.unusedVariables false

theorem own_lit (w : World) (base : Nat) (e : TypeId) (vs : Array Value) (n : Nat) (hn : vs.size = n) (hb : base ≤ w.heap.size) (hm : n ≤ maxLen) : (w.alloc (.cells vs e)).ownsRow base e 1 (.slice (some ⟨w.heap.size, 0, none⟩) n n) n vs.toList := by
  subst hn
  exact ⟨by simp, .inr ⟨w.heap.size, vs.size, vs, rfl, hb, heap_alloc_new w _, Nat.le_refl _, hm, by simp, by rw [Nat.mul_one]; exact List.take_of_length_le (by simp)⟩⟩

set_option maxRecDepth 100000 in
theorem pool_c (w : World) : Calls Tryd.prog 168 #[.agg #[.int .i64 1, .int .i64 5, .int .i64 1, .int .i64 1]] w fun e w' => e = .returned (.int .i64 0) ∧ Below w.heap.size w w' := by
  go_enter Tryd.func168, Tryd.ntmps168
  go_wp2_with (go_at_call 109; refine (within_c _ _ _ _).mono ?_; rintro e w' ⟨rfl, rfl⟩)
  all_goals (go_ret; exact ⟨rfl, below_new _ _⟩)
theorem alloc_size' (w : World) (o : Obj) : (w.alloc o).heap.size = w.heap.size + 1 := by simp
theorem blk_own {w w' : World} {b base : Nat} {o : Obj} {e : TypeId} {v : Value} {n : Nat} {xs : List Value} (h : w.heap[b]? = some o) (hown : w.ownsRow base e 1 v n xs) (hb : b < base) (hg : w.grownBy w' v.ownBlock) : w'.heap[b]? = some o :=
  blk_grown h hg (fun e => by have := own_row_lt hown b e.symm; omega)
set_option maxRecDepth 100000 in
set_option maxHeartbeats 1600000 in
theorem lanesOf_c (w : World) : Calls Tryd.prog 169 #[.agg #[.int .i64 1, .int .i64 5, .int .i64 1, .int .i64 1]] w fun e w' => ∃ A n c, e = .returned (.slice A n c) ∧ RI 3 w' A n [3, 4, 2, 5, 1] ∧ Below w.heap.size w w' := by
  have hb0 := blk_alloc (heap_alloc_new w (.cells #[.int .i64 1, .int .i64 5, .int .i64 1, .int .i64 1] 175)) (.cells #[.int .i64 3] 3)
  have hc0 := (blk_facts hb0).1
  have hown0 : ((w.alloc (.cells #[.int .i64 1, .int .i64 5, .int .i64 1, .int .i64 1] 175)).alloc (.cells #[.int .i64 3] 3)).ownsRow (w.heap.size + 1) 3 1 (.slice (some ⟨w.heap.size + 1, 0, none⟩) 1 1) 1 (ints [3]) := by
    have := own_lit (w.alloc (.cells #[.int .i64 1, .int .i64 5, .int .i64 1, .int .i64 1] 175)) (w.heap.size + 1) 3 #[.int .i64 3] 1 rfl (by simp) (by unfold maxLen; omega)
    rw [alloc_size'] at this
    exact this
  have hB0 : Below w.heap.size w ((w.alloc (.cells #[.int .i64 1, .int .i64 5, .int .i64 1, .int .i64 1] 175)).alloc (.cells #[.int .i64 3] 3)) := (below_new w _).alloc (by simp) _
  have hz0 : w.heap.size + 1 ≤ ((w.alloc (.cells #[.int .i64 1, .int .i64 5, .int .i64 1, .int .i64 1] 175)).alloc (.cells #[.int .i64 3] 3)).heap.size := by simp
  go_enter Tryd.func169, Tryd.ntmps169
  go_wp2
  refine wp_loop_rounds 3 ?_
  rw [rounds_succ]
  generalize (w.alloc (.cells #[.int .i64 1, .int .i64 5, .int .i64 1, .int .i64 1] 175)).alloc (.cells #[.int .i64 3] 3) = W0 at *
  go_wp2_with (first | (at_builtin; refine wpList_app rfl (.tmp 31) (.tmp 35) 22 rfl Tryd.underlying22 info_int rfl (by omega) (by omega) hown0 rfl rfl rfl rfl (by simp [Value.oneCell']) (by omega) hz0 ?_; intro v1 w1 hown1 hg1; have hb1 := blk_own hb0 hown0 (by omega) hg1; have hc1 := (blk_facts hb1).1; have hz1 := Nat.le_trans hz0 hg1.size; have hB1 := below_own hB0 hown0 hg1 (by omega) (by omega); obtain ⟨A1, d1, rfl⟩ := own_shape hown1; clear hown0 hb0 hc0 hz0 hB0) | (at_builtin; refine wpList_app rfl (.tmp 43) (.tmp 47) 22 rfl Tryd.underlying22 info_int rfl (by omega) (by omega) hown1 rfl rfl rfl rfl (by simp [Value.oneCell']) (by omega) hz1 ?_; intro v2 w2 hown2 hg2; have hb2 := blk_own hb1 hown1 (by omega) hg2; have hc2 := (blk_facts hb2).1; have hz2 := Nat.le_trans hz1 hg2.size; have hB2 := below_own hB1 hown1 hg2 (by omega) (by omega); obtain ⟨A2, d2, rfl⟩ := own_shape hown2; clear hown1 hb1 hc1 hz1 hB1))
  rw [rounds_succ]
  go_wp2_with (first | (at_builtin; refine wpList_app rfl (.tmp 31) (.tmp 35) 22 rfl Tryd.underlying22 info_int rfl (by omega) (by omega) hown2 rfl rfl rfl rfl (by simp [Value.oneCell']) (by omega) hz2 ?_; intro v3 w3 hown3 hg3; have hb3 := blk_own hb2 hown2 (by omega) hg3; have hc3 := (blk_facts hb3).1; have hz3 := Nat.le_trans hz2 hg3.size; have hB3 := below_own hB2 hown2 hg3 (by omega) (by omega); obtain ⟨A3, d3, rfl⟩ := own_shape hown3; clear hown2 hb2 hc2 hz2 hB2) | (at_builtin; refine wpList_app rfl (.tmp 43) (.tmp 47) 22 rfl Tryd.underlying22 info_int rfl (by omega) (by omega) hown3 rfl rfl rfl rfl (by simp [Value.oneCell']) (by omega) hz3 ?_; intro v4 w4 hown4 hg4; have hb4 := blk_own hb3 hown3 (by omega) hg4; have hc4 := (blk_facts hb4).1; have hz4 := Nat.le_trans hz3 hg4.size; have hB4 := below_own hB3 hown3 hg4 (by omega) (by omega); obtain ⟨A4, d4, rfl⟩ := own_shape hown4; clear hown3 hb3 hc3 hz3 hB3))
  rw [rounds_succ]
  have hr : RI 3 w4 A4 5 [3, 4, 2, 5, 1] := R1.of_own hown4 (by omega)
  clear hown4 hb4
  go_wp2
  go_ret
  exact ⟨A4, 5, d4, rfl, hr, hB4⟩
theorem lanes_c (w : World) : Calls Tryd.prog 147 #[.agg #[.int .i64 1, .int .i64 5, .int .i64 1, .int .i64 1]] w fun e w' => ∃ A n c, e = .returned (.tuple #[.slice A n c, .int .i64 0]) ∧ RI 3 w' A n [3, 4, 2, 5, 1] ∧ Below w.heap.size w w' := by
  go_enter Tryd.func147, Tryd.ntmps147
  go_wp2_with fail
  refine (pool_c _).mono ?_; rintro e w1 ⟨rfl, B1⟩
  have hB1 := below_box B1
  have hc := (blk_facts (blk_below (heap_alloc_new w (.cells #[.int .i64 1, .int .i64 5, .int .i64 1, .int .i64 1] 175)) B1)).1
  go_wp2_with fail
  refine (lanesOf_c _).mono ?_; rintro e w2 ⟨A, n, c, rfl, hr, B2⟩
  go_wp2
  go_ret2
  exact ⟨A, n, c, rfl, hr, below_next hB1 B2⟩
end Go.Proofs.YtjfppcejcbfngaaDoor
