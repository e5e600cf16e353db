/- What the statements of tumbkeep end with: judge.Rank of one time. -/
import Derived.Test.YtjfppcejcbfngaaDoorReady2
import Derived.Test.YtjfppcejcbfngaaDoorMaps0
namespace Go.Proofs.YtjfppcejcbfngaaDoor
open Go.RowKit
open Go.Maps (Keyed string_keyed)
open Go.WideMaps (keyOf_string_mk)
set_option linter.unusedVariables false

theorem atKey_nil (k : Lit) (d : DataW Unit) : (DataW.map ([] : List (Lit × DataW Unit))).atKey k d = d := by simp [DataW.atKey]
set_option maxRecDepth 100000 in
set_option maxHeartbeats 1600000 in
theorem seed1_c (b : Nat) (w : World) (h : w.heap[b]? = some (.cells #[.string ⟨#[97]⟩, .int .i64 6000] 153 (0, 0))) :
    Calls Tryd.prog 181 #[.slice (some ⟨b, 0, none⟩) 1 1] w fun e w' => e = .returned (.int .i64 0) ∧ Below w.heap.size w w' := by
  have hc := (blk_facts h).1
  have hb := lt_of_heap h
  have hmm := @run_makeMap Tryd.prog
  have hm0 := mb_new w
  have hc1 := (blk_facts (blk_alloc h (.map #[] 0))).1
  go_enter Tryd.func181, Tryd.ntmps181
  go_wp2
  refine wp_loop_rounds 2 ?_
  rw [rounds_succ]
  have hq0 := blk_alloc (w := w) h (.map #[] 0)
  have hn0 := heap_alloc_new (w.alloc (.map #[] 0)) (.cells #[.string ⟨#[97]⟩, .int .i64 6000] 153)
  go_wp2_with fail
  refine (keyA _).mono ?_; rintro e w1 ⟨rfl, B1⟩
  have hm1 : MB w1 w.heap.size 0 (.map []) := (hm0.alloc _).kept (row := none) (grown_of_below B1) (by simp)
  have hn1 := (blk_facts (blk_below hn0 B1)).1
  simp only [alloc_size'] at hn1
  have hB1 := below_box (below_box B1)
  obtain ⟨v, hrun, hat⟩ := mb_lookup hm1 ⟨#[97]⟩ (by unfold maxLen; decide)
  rw [atKey_nil] at hat
  obtain rfl : false = v := by injection hat with e; injection e
  clear hat hm0 hn0 hq0 hc1 hc B1
  go_wp2_with (first | (go_at_call 109; refine (within_c _ _ _ _).mono ?_; rintro e w' ⟨rfl, rfl⟩) | (at_mapUpdate; refine wpList_mapUpdate_own _ rfl _ _ _ 237 rfl 9 4 (string_keyed Tryd.underlying9) Tryd.underlying237 _ _ 0 _ rfl hm1 (by unfold maxLen; omega) _ _ _ rfl rfl (keyOf_string_mk Tryd.underlying9 (by unfold maxLen; decide)) _ [] (plainElem_bool Tryd.underlying4 true) ?_; intro w2 hown2 hg2))
  have hB2 := hB1.trans (grown_below hg2 (Nat.le_refl _) hB1.size)
  rw [rounds_succ]
  go_wp2
  go_ret
  exact ⟨rfl, hB2⟩
theorem verd0_c (w : World) :
    Calls Tryd.prog 182 #[.slice none 0 0] w fun e w' => e = .returned (.int .i64 0) ∧ w = w' := by
  go_enter Tryd.func182, Tryd.ntmps182
  go_wp2
  refine wp_loop_rounds 1 ?_
  rw [rounds_succ]
  go_wp2
  go_ret
  exact ⟨rfl, rfl⟩
theorem ins0_c (v f : Value) (w : World) :
    Calls Tryd.prog 222 #[v, .int .i64 0, .int .i64 1, f] w fun e w' => e = .returned (.tuple #[]) ∧ w = w' := by
  go_enter Tryd.func222, Tryd.ntmps222
  go_wp2
  refine wp_loop_rounds 1 ?_
  rw [rounds_succ]
  go_wp2
  go_end0
  exact ⟨rfl, rfl⟩
theorem stable1_c (v f : Value) (w : World) :
    Calls Tryd.prog 207 #[v, .int .i64 1, f] w fun e w' => e = .returned (.tuple #[]) ∧ w = w' := by
  go_enter Tryd.func207, Tryd.ntmps207
  go_wp2
  refine wp_loop_rounds 1 ?_
  rw [rounds_succ]
  go_wp2_with fail
  refine (ins0_c _ _ _).mono ?_; rintro e w' ⟨rfl, rfl⟩
  go_wp2
  refine wp_loop_rounds 1 ?_
  rw [rounds_succ]
  go_wp2
  go_end0
  exact ⟨rfl, rfl⟩
theorem sort1_c (A : Option Addr) (c : Nat) (f : Value) (w : World) :
    Calls Tryd.prog 183 #[.slice A 1 c, f] w fun e w' => e = .returned (.tuple #[]) ∧ w = w' := by
  go_enter Tryd.func183, Tryd.ntmps183
  go_wp2_with fail
  refine (stable1_c _ _ _).mono ?_; rintro e w' ⟨rfl, rfl⟩
  go_wp2
  go_end0
  exact ⟨rfl, rfl⟩
end Go.Proofs.YtjfppcejcbfngaaDoor
