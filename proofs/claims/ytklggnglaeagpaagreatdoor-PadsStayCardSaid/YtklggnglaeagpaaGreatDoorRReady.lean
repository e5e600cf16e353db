/- What the statements of tumbkeep end with. -/
import Derived.Test.YtklggnglaeagpaaGreatDoorRReady4
namespace Go.Proofs.YtklggnglaeagpaaGreatDoor
open Go.RowKit
set_option linter.unusedVariables false

set_option maxRecDepth 100000 in
set_option maxHeartbeats 1600000 in
theorem ready_c (w : World) : Calls Tryz.prog 29 #[] w fun e w' => e = .returned (.bool true) ∧ Below w.heap.size w w' := by
  go_enter Tryz.func29, Tryz.ntmps29
  go_wp2_with fail
  refine (write12_c _).mono ?_; rintro e w1 ⟨rfl, B1⟩
  go_wp2_with fail
  refine (lanes_c _).mono ?_; rintro e w2 ⟨A2, n2, c2, rfl, hr2, B2⟩
  have hB2 := below_next B1 B2
  have hn2 := hr2.len
  simp only [List.length_cons, List.length_nil] at hn2
  subst hn2
  go_wp2_with fail
  refine (right_c _ _ (heap_alloc_new w2 _)).mono ?_; rintro e w3 ⟨rfl, B3⟩
  have hr3 := (hr2.alloc _).below B3
  have hB3 := below_next hB2 (below_box B3)
  clear hr2 hB2 B1 B2 B3
  go_wp2_with fail
  refine (rankA_c _ _ (heap_alloc_new w3 _)).mono ?_; rintro e w4 ⟨A4, c4, rfl, hown4, B4⟩
  have hr4 := (hr3.alloc _).below B4
  have hB4 := below_next hB3 (below_box B4)
  clear hr3 hB3 B4 hown4
  go_wp2_with fail
  refine (equal_c _ _ _ _ _ _ _ _ _ (hr4.alloc _) (R1.lit (enc := Value.int .i64) (e := 3) w4 #[.int .i64 3, .int .i64 4, .int .i64 2, .int .i64 5, .int .i64 1] [3, 4, 2, 5, 1] rfl (le_big (by decide)))).mono ?_; rintro e w5 ⟨rfl, B5⟩
  rw [show eqB [3, 4, 2, 5, 1] [3, 4, 2, 5, 1] = true from rfl]
  go_wp2
  go_ret
  exact ⟨rfl, below_next hB4 (below_box B5)⟩
end Go.Proofs.YtklggnglaeagpaaGreatDoor
