/- Numbers within bounds; keys. -/
import Derived.Test.YtdbfcneeiiialaaDoorStructs
import Derived.Test.YtdbfcneeiiialaaDoorKey0
namespace Go.Proofs.YtdbfcneeiiialaaDoor
open Go.RowKit
set_option linter.unusedVariables false

def raceErr (r : Race) : Int :=
  if keyB r.key = false then 5
  else if ¬ (1 ≤ r.stroke ∧ r.stroke ≤ 5 ∧ 0 ≤ r.sex ∧ r.sex ≤ 2) then 4
  else if (r.course ≠ 25 ∧ r.course ≠ 50) ∨ ¬ (1 ≤ r.legs ∧ r.legs ≤ 4) ∨ ¬ (25 ≤ r.metres ∧ r.metres ≤ 1500) ∨ r.young < 0 ∨ r.old < r.young ∨ 120 < r.old then 1
  else if r.metres % r.course ≠ 0 then 3
  else if r.stroke = 5 ∧ ((r.legs = 1 ∧ r.metres % (4 * r.course) ≠ 0) ∨ (1 < r.legs ∧ r.legs ≠ 4)) then 16
  else 0

set_option maxHeartbeats 1600000 in
theorem checkRace_c (r : Race) (w : World) : Calls Tryd.prog 34 #[r.val] w fun e w' => e = .returned (.int .i64 (raceErr r)) ∧ Below w.heap.size w w' := by
  obtain ⟨key, metres, stroke, course, legs, sex, young, old⟩ := r
  dsimp only [Race.val, Race.cells]
  by_cases hc : course = 25 ∨ course = 50
  · by_cases hm : 25 ≤ metres ∧ metres ≤ 1500
    all_goals (rcases hc with rfl | rfl)
    all_goals
      go_enter Tryd.func34, Tryd.ntmps34
      go_wp2_with (first
        | (go_at_call 35; refine (isKey_c _ _).mono ?_; rintro e w1 ⟨rfl, hb1⟩; obtain ⟨C1, F1⟩ := bcell hb1; have hB1 := below_box hb1)
        | (go_at_call 33; refine (within_c _ _ _ _).mono ?_; rintro e w' ⟨rfl, rfl⟩))
      all_goals (go_ret; refine ⟨ret_i ?_, by with_reducible assumption⟩)
      all_goals (simp only [raceErr]; (repeat' split) <;> first | rfl | (exfalso; simp_all; done) | (exfalso; simp_all; omega))
  · have h25 : (course == 25) = false := by simp; omega
    have h50 : (course == 50) = false := by simp; omega
    have n25 : (course != 25) = true := by simp; omega
    have n50 : (course != 50) = true := by simp; omega
    have hc' := Lib.hid hc
    clear hc
    all_goals
      go_enter Tryd.func34, Tryd.ntmps34
      go_wp2_with (first
        | (go_at_call 35; refine (isKey_c _ _).mono ?_; rintro e w1 ⟨rfl, hb1⟩; obtain ⟨C1, F1⟩ := bcell hb1; have hB1 := below_box hb1)
        | (go_at_call 33; refine (within_c _ _ _ _).mono ?_; rintro e w' ⟨rfl, rfl⟩))
      all_goals (go_ret; refine ⟨ret_i ?_, by with_reducible assumption⟩)
      all_goals (have hc := hc'.out; simp only [raceErr]; (repeat' split) <;> first | rfl | (exfalso; simp_all; done) | (exfalso; simp_all; omega))
def lenV (r : Race) : Int := r.metres / r.course * r.legs
theorem raceErr_ok {r : Race} (h : raceErr r = 0) : keyB r.key = true ∧ 1 ≤ r.stroke ∧ r.stroke ≤ 5 ∧ 0 ≤ r.sex ∧ r.sex ≤ 2 ∧ (r.course = 25 ∨ r.course = 50) ∧ 1 ≤ r.legs ∧ r.legs ≤ 4 ∧ 25 ≤ r.metres ∧ r.metres ≤ 1500 ∧ 0 ≤ r.young ∧ r.young ≤ r.old ∧ r.old ≤ 120 ∧ r.metres % r.course = 0 := by
  unfold raceErr at h
  split at h; · cases h
  split at h; · cases h
  split at h; · cases h
  split at h; · cases h
  rename_i h1 h2 h3 h4
  refine ⟨by simpa using h1, ?_⟩
  omega
theorem lenV_bd {r : Race} (h : raceErr r = 0) : 1 ≤ lenV r ∧ lenV r ≤ 240 := by
  obtain ⟨_, _, _, _, _, hc, h1, h2, h3, h4, _, _, _, h5⟩ := raceErr_ok h
  unfold lenV
  have hm : 1 ≤ r.metres / r.course ∧ r.metres / r.course ≤ 60 := by rcases hc with hc | hc <;> rw [hc] at h5 ⊢ <;> omega
  have := mul_bd (a := r.metres / r.course) (b := r.legs) (A := 60) (B := 4) (by omega) hm.2 (by omega) h2
  have h6 : 1 * 1 ≤ r.metres / r.course * r.legs := Int.mul_le_mul hm.1 h1 (by omega) (by omega)
  omega
end Go.Proofs.YtdbfcneeiiialaaDoor
