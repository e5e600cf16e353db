/- What the statements on judges end with. -/
import Derived.Test.YtnkhdofcmanipaaGreatDoorTaReady4
import Derived.Test.YtnkhdofcmanipaaGreatDoorTaP23
namespace Go.Proofs.YtnkhdofcmanipaaGreatDoor
open Go.RowKit
set_option linter.unusedVariables false

set_option maxRecDepth 100000 in
set_option maxHeartbeats 1600000 in
theorem judged_c (w : World) : Calls Tryz.prog 16 #[] w fun e w' => e = .returned (.bool true) ∧ Below w.heap.size w w' := by
  go_enter Tryz.func16, Tryz.ntmps16
  go_wp2_with fail
  refine (rankA_c _ _ (heap_alloc_new w _)).mono ?_; rintro e w1 ⟨A, c, rfl, hown, B1⟩
  have hB1 := below_box B1
  have hr : RRk w1 A 1 [⟨⟨#[97]⟩, 1, 6000, 0⟩] := RN.of_own rkE_len hown rfl (by omega)
  clear hown B1
  have hr2 := hr.alloc (.cells #[.string ⟨#[97]⟩, .int .i64 1, .int .i64 6000, .int .i64 0] 48)
  have hown2 : (w1.alloc (.cells #[.string ⟨#[97]⟩, .int .i64 1, .int .i64 6000, .int .i64 0] 48)).heap[w1.heap.size]? = _ := heap_alloc_new w1 _
  have hr3 : RRk (w1.alloc (.cells #[.string ⟨#[97]⟩, .int .i64 1, .int .i64 6000, .int .i64 0] 48)) (some ⟨w1.heap.size, 0, none⟩) 1 [⟨⟨#[97]⟩, 1, 6000, 0⟩] := by
    refine ⟨rfl, by omega, fun _ => ⟨_, 0, _, _, rfl, hown2, fun j x hx i v hv => ?_⟩⟩
    cases j with
    | zero => obtain rfl : (⟨⟨#[97]⟩, 1, 6000, 0⟩ : Rk) = x := by simpa using hx
              simpa [rkE] using hv
    | succ j => simp at hx
  have hB2 := hB1.alloc hB1.size (.cells #[.string ⟨#[97]⟩, .int .i64 1, .int .i64 6000, .int .i64 0] 48)
  clear hown2 hr hB1
  go_wp2_with fail
  refine (equalRk_c _ _ _ _ _ _ _ _ _ hr2 hr3).mono ?_; rintro e w' ⟨rfl, q, rfl⟩
  rw [decide_eq_true (rfl : [(⟨⟨#[97]⟩, 1, 6000, 0⟩ : Rk)] = [⟨⟨#[97]⟩, 1, 6000, 0⟩])]
  go_wp2
  go_ret
  exact ⟨rfl, below_drewN hB2 q⟩
end Go.Proofs.YtnkhdofcmanipaaGreatDoor
