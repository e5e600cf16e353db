/- How many lengths a race has: the program's and the reference's. -/
import Derived.Test.YtpepdkgkdbnakaaGreatDoorKeys
namespace Go.Proofs.YtpepdkgkdbnakaaGreatDoor
open Go.RowKit
set_option linter.unusedVariables false

theorem lengths_c (r : Race) (w : World) (h : raceErr r = 0) : Calls Tryz.prog 312 #[r.val] w fun e w' => e = .returned (.int .i64 (lenV r)) ∧ Below w.heap.size w w' := by
  obtain ⟨h1, h2⟩ := lenV_bd h
  obtain ⟨_, _, _, _, _, hc, h3, h4, h5, h6, _, _, _, h7⟩ := raceErr_ok h
  obtain ⟨key, metres, stroke, course, legs, sex, young, old⟩ := r
  have hm : 1 ≤ metres / course ∧ metres / course ≤ 60 := by dsimp only at *; rcases hc with hc | hc <;> rw [hc] at h7 ⊢ <;> omega
  dsimp only [Race.val, Race.cells, lenV] at *
  have hc0 : 25 ≤ course := by omega
  have hb := below_new w (.cells #[.string key, .int .i64 metres, .int .i64 stroke, .int .i64 course, .int .i64 legs, .int .i64 sex, .int .i64 young, .int .i64 old] 139)
  clear h h7 hc
  go_enter Tryz.func312, Tryz.ntmps312
  go_wp2
  go_quiet (fail)
  go_wp2
  go_ret
  exact ⟨rfl, below_drewN hb _⟩
theorem lengthsOf_c (r : Race) (w : World) (h : raceErr r = 0) : Calls Tryz.prog 93 #[r.val] w fun e w' => e = .returned (.int .i64 (lenV r)) ∧ Below w.heap.size w w' := by
  obtain ⟨h1, h2⟩ := lenV_bd h
  obtain ⟨_, _, _, _, _, hc, h3, h4, h5, h6, _, _, _, h7⟩ := raceErr_ok h
  obtain ⟨key, metres, stroke, course, legs, sex, young, old⟩ := r
  have hm : 1 ≤ metres / course ∧ metres / course ≤ 60 := by dsimp only at *; rcases hc with hc | hc <;> rw [hc] at h7 ⊢ <;> omega
  dsimp only [Race.val, Race.cells, lenV] at *
  have hc0 : 25 ≤ course := by omega
  have hb := below_new w (.cells #[.string key, .int .i64 metres, .int .i64 stroke, .int .i64 course, .int .i64 legs, .int .i64 sex, .int .i64 young, .int .i64 old] 139)
  clear h h7 hc
  go_enter Tryz.func93, Tryz.ntmps93
  go_wp2
  go_quiet (fail)
  go_wp2
  go_ret
  exact ⟨rfl, below_drewN hb _⟩
theorem Lengths_ok (r : Race) (w : World) (h : raceErr r = 0) : Calls Tryz.prog 247 #[r.val] w fun e w' => e = .returned (.tuple #[.int .i64 (lenV r), .int .i64 0]) ∧ Below w.heap.size w w' := by
  have Hc := fun W => checkRace_c r W
  rw [h] at Hc
  have Hl := fun W => lengths_c r W h
  clear h
  generalize lenV r = y at *
  obtain ⟨key, metres, stroke, course, legs, sex, young, old⟩ := r
  dsimp only [Race.val, Race.cells] at *
  have Hc' := Lib.hid Hc; clear Hc
  have Hl' := Lib.hid Hl; clear Hl
  go_enter Tryz.func247, Tryz.ntmps247
  go_wp2_with fail
  refine (Hc'.out _).mono ?_; rintro e w1 ⟨rfl, hb1⟩; obtain ⟨C1, F1⟩ := bcell hb1; have hB1 := below_box hb1
  go_wp2_with fail
  refine (Hl'.out _).mono ?_; rintro e w2 ⟨rfl, hb2⟩; have hB2 := below_next hB1 hb2
  go_wp2
  go_ret2
  exact ⟨rfl, hB2⟩
theorem Lengths_err (r : Race) (w : World) (h : raceErr r ≠ 0) : Calls Tryz.prog 247 #[r.val] w fun e w' => e = .returned (.tuple #[.int .i64 0, .int .i64 (raceErr r)]) ∧ Below w.heap.size w w' := by
  have Hc := fun W => checkRace_c r W
  generalize raceErr r = x at *
  obtain ⟨key, metres, stroke, course, legs, sex, young, old⟩ := r
  dsimp only [Race.val, Race.cells] at *
  have Hc' := Lib.hid Hc; clear Hc
  have hx : (x != 0) = true := by simpa using h
  clear h
  go_enter Tryz.func247, Tryz.ntmps247
  go_wp2_with fail
  refine (Hc'.out _).mono ?_; rintro e w1 ⟨rfl, hb1⟩; obtain ⟨C1, F1⟩ := bcell hb1; have hB1 := below_box hb1
  go_wp2
  go_ret2
  exact ⟨rfl, hB1⟩
end Go.Proofs.YtpepdkgkdbnakaaGreatDoor
