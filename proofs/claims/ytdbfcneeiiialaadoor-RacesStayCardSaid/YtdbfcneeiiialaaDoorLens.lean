/- How many lengths a race has: the program's and the reference's. -/
import Derived.Test.YtdbfcneeiiialaaDoorKeys
namespace Go.Proofs.YtdbfcneeiiialaaDoor
open Go.RowKit
set_option linter.unusedVariables false

theorem lengths_c (r : Race) (w : World) (h : raceErr r = 0) : Calls Tryd.prog 46 #[r.val] w fun e w' => e = .returned (.int .i64 (lenV r)) ∧ Below w.heap.size w w' := by
  obtain ⟨h1, h2⟩ := lenV_bd h
  obtain ⟨_, _, _, _, _, hc, h3, h4, h5, h6, _, _, _, h7⟩ := raceErr_ok h
  obtain ⟨key, metres, stroke, course, legs, sex, young, old⟩ := r
  have hm : 1 ≤ metres / course ∧ metres / course ≤ 60 := by dsimp only at *; rcases hc with hc | hc <;> rw [hc] at h7 ⊢ <;> omega
  dsimp only [Race.val, Race.cells, lenV] at *
  have hc0 : 25 ≤ course := by omega
  have hb := below_new w (.cells #[.string key, .int .i64 metres, .int .i64 stroke, .int .i64 course, .int .i64 legs, .int .i64 sex, .int .i64 young, .int .i64 old] 27)
  clear h h7 hc
  go_enter Tryd.func46, Tryd.ntmps46
  go_wp2
  go_quiet (fail)
  go_wp2
  go_ret
  exact ⟨rfl, below_drewN hb _⟩
theorem lengthsOf_c (r : Race) (w : World) (h : raceErr r = 0) : Calls Tryd.prog 17 #[r.val] w fun e w' => e = .returned (.int .i64 (lenV r)) ∧ Below w.heap.size w w' := by
  obtain ⟨h1, h2⟩ := lenV_bd h
  obtain ⟨_, _, _, _, _, hc, h3, h4, h5, h6, _, _, _, h7⟩ := raceErr_ok h
  obtain ⟨key, metres, stroke, course, legs, sex, young, old⟩ := r
  have hm : 1 ≤ metres / course ∧ metres / course ≤ 60 := by dsimp only at *; rcases hc with hc | hc <;> rw [hc] at h7 ⊢ <;> omega
  dsimp only [Race.val, Race.cells, lenV] at *
  have hc0 : 25 ≤ course := by omega
  have hb := below_new w (.cells #[.string key, .int .i64 metres, .int .i64 stroke, .int .i64 course, .int .i64 legs, .int .i64 sex, .int .i64 young, .int .i64 old] 27)
  clear h h7 hc
  go_enter Tryd.func17, Tryd.ntmps17
  go_wp2
  go_quiet (fail)
  go_wp2
  go_ret
  exact ⟨rfl, below_drewN hb _⟩
end Go.Proofs.YtdbfcneeiiialaaDoor
