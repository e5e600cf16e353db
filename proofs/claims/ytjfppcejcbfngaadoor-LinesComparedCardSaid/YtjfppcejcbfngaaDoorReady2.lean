/- What the statements of tumbkeep end with: pad.Right of one clock. -/
import Derived.Test.YtjfppcejcbfngaaDoorReady1
namespace Go.Proofs.YtjfppcejcbfngaaDoor
open Go.RowKit
set_option linter.unusedVariables false

def kA : ByteArray := ⟨#[97]⟩
theorem keyA (w : World) : Calls Tryd.prog 108 #[.string ⟨#[97]⟩] w fun e w' => e = .returned (.bool true) ∧ Below w.heap.size w w' := by
  have := isKey_c ⟨#[97]⟩ w
  rwa [show keyB ⟨#[97]⟩ = true from by kernel_rfl] at this
theorem moment_c (n : Int) (w : World) (h0 : 0 ≤ n) (h1 : n < 345686400000) : Calls Tryd.prog 171 #[.int .i64 n] w fun e w' => e = .returned (.bool true) ∧ w = w' := by
  go_enter Tryd.func171, Tryd.ntmps171
  go_wp2
  go_ret
  exact ⟨rfl, rfl⟩
set_option maxRecDepth 100000 in
set_option maxHeartbeats 1600000 in
theorem clock1_c (b : Nat) (w : World) (h : w.heap[b]? = some (.cells #[.string ⟨#[97]⟩, .int .i64 10, .int .i64 5] 178 (0, 0))) :
    Calls Tryd.prog 170 #[.slice (some ⟨b, 0, none⟩) 1 1] w fun e w' => e = .returned (.int .i64 0) ∧ Below w.heap.size w w' := by
  have hc := (blk_facts h).1
  have hb := lt_of_heap h
  clear h
  go_enter Tryd.func170, Tryd.ntmps170
  go_wp2
  refine wp_loop_rounds 2 ?_
  rw [rounds_succ]
  go_wp2_with (go_at_call 108; refine (keyA _).mono ?_; rintro e w1 ⟨rfl, B1⟩; have hc1 := (blk_facts (blk_below (heap_alloc_new w (.cells #[.string ⟨#[97]⟩, .int .i64 10, .int .i64 5] 178)) B1)).1; have hB1 := below_box B1)
  go_wp2_with (first | (go_at_call 171; refine (moment_c _ _ (by omega) (by omega)).mono ?_; rintro e w' ⟨rfl, rfl⟩) | (go_at_call 109; refine (within_c _ _ _ _).mono ?_; rintro e w' ⟨rfl, rfl⟩))
  go_quiet (fail)
  go_wp2
  rw [rounds_succ]
  go_wp2
  go_ret
  exact ⟨rfl, below_drewN hB1 _⟩
set_option maxRecDepth 100000 in
theorem right0_c (b : Nat) (w : World) (h : w.heap[b]? = some (.cells #[.string ⟨#[97]⟩, .int .i64 10, .int .i64 5] 178 (0, 0))) :
    Calls Tryd.prog 172 #[.slice (some ⟨b, 0, none⟩) 1 1, .string ⟨#[97]⟩, .int .i64 20] w fun e w' => e = .returned (.int .i64 15) ∧ Below w.heap.size w w' := by
  have hc := (blk_facts h).1
  have hb := lt_of_heap h
  clear h
  go_enter Tryd.func172, Tryd.ntmps172
  go_wp2
  refine wp_loop_rounds 2 ?_
  rw [rounds_succ]
  go_wp2
  rw [rounds_succ]
  go_wp2
  go_ret
  exact ⟨rfl, below_new _ _⟩
theorem right_c (b : Nat) (w : World) (h : w.heap[b]? = some (.cells #[.string ⟨#[97]⟩, .int .i64 10, .int .i64 5] 178 (0, 0))) :
    Calls Tryd.prog 148 #[.slice (some ⟨b, 0, none⟩) 1 1, .string ⟨#[97]⟩, .int .i64 20] w fun e w' => e = .returned (.tuple #[.int .i64 15, .int .i64 0]) ∧ Below w.heap.size w w' := by
  go_enter Tryd.func148, Tryd.ntmps148
  go_wp2_with fail
  refine (clock1_c _ _ h).mono ?_; rintro e w1 ⟨rfl, B1⟩
  have h1 := blk_below h B1
  clear h
  go_wp2_with fail
  refine (keyA _).mono ?_; rintro e w2 ⟨rfl, B2⟩
  have h2 := blk_below h1 B2
  have hB2 := below_next B1 B2
  clear h1
  go_wp2_with fail
  refine (moment_c _ _ (by omega) (by omega)).mono ?_; rintro e w' ⟨rfl, rfl⟩
  go_wp2_with fail
  refine (right0_c _ _ h2).mono ?_; rintro e w3 ⟨rfl, B3⟩
  go_wp2
  go_ret2
  exact ⟨rfl, below_next hB2 B3⟩
end Go.Proofs.YtjfppcejcbfngaaDoor
