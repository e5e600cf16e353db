/- The stream's plain race is right, and has at most 16 lengths. -/
import Derived.Test.YtklggnglaeagpaaGreatDoorRLens
import Derived.Test.YtklggnglaeagpaaGreatDoorRDraws
namespace Go.Proofs.YtklggnglaeagpaaGreatDoor
open Go.RowKit
set_option linter.unusedVariables false

theorem raceErr_of {r : Race} (h1 : keyB r.key = true) (h2 : 1 ≤ r.stroke ∧ r.stroke ≤ 5) (h3 : 0 ≤ r.sex ∧ r.sex ≤ 2) (h4 : r.course = 25 ∨ r.course = 50) (h5 : 1 ≤ r.legs ∧ r.legs ≤ 4) (h6 : 25 ≤ r.metres ∧ r.metres ≤ 1500) (h7 : 0 ≤ r.young ∧ r.young ≤ r.old ∧ r.old ≤ 120) (h8 : r.metres % r.course = 0)
    (h9 : ¬ (r.stroke = 5 ∧ ((r.legs = 1 ∧ r.metres % (4 * r.course) ≠ 0) ∨ (1 < r.legs ∧ r.legs ≠ 4)))) : raceErr r = 0 := by
  unfold raceErr
  rw [if_neg (by rw [h1]; decide), if_neg (by omega), if_neg (by omega), if_neg (by omega), if_neg h9]
theorem plainRace_ok (zs : Zs) (k : Nat) : raceErr (plainRace zs k).1 = 0 := by
  have hk := @pickV_mem _ _ zs k ([ra, rb] : List ByteArray) (by simp)
  have hc := @pickV_mem _ _ zs (k + 1) ([25, 50] : List Int) (by simp)
  have hl := @pickV_mem _ _ zs (k + 3) ([1, 1, 1, 2, 4] : List Int) (by simp)
  have hy := @pickV_mem _ _ zs (k + 5) ([0, 11] : List Int) (by simp)
  have ho := @pickV_mem _ _ zs (k + 6) ([12, 18, 120] : List Int) (by simp)
  have n2 := @nextV_bd zs (k + 2) 4 (by omega)
  have n4 := @nextV_bd zs (k + 4) 3 (by omega)
  have n7 := @nextV_bd zs (k + 7) 4 (by omega)
  have e1 : keyB ra = true := by kernel_rfl
  have e2 : keyB rb = true := by kernel_rfl
  unfold plainRace
  generalize pickV zs k [ra, rb] = key at *
  generalize pickV zs (k + 1) ([25, 50] : List Int) = c at *
  generalize pickV zs (k + 3) ([1, 1, 1, 2, 4] : List Int) = g at *
  generalize pickV zs (k + 5) ([0, 11] : List Int) = y at *
  generalize pickV zs (k + 6) ([12, 18, 120] : List Int) = o at *
  generalize nextV zs (k + 2) 4 = a at *
  generalize nextV zs (k + 4) 3 = b at *
  generalize nextV zs (k + 7) 4 = d at *
  have hkey : keyB key = true := by
    rcases List.mem_cons.mp hk with rfl | hk
    · exact e1
    · rcases List.mem_cons.mp hk with rfl | hk
      · exact e2
      · cases hk
  simp at hc hl hy ho
  have hm : c * (1 + d) % c = 0 := Int.mul_emod_right c (1 + d)
  have hm2 : 4 * c % c = 0 := by rw [Int.mul_comm]; exact Int.mul_emod_right c 4
  have hd : d = 0 ∨ d = 1 ∨ d = 2 ∨ d = 3 := by omega
  have hcm : 25 ≤ c * (1 + d) ∧ c * (1 + d) ≤ 1500 := by rcases hd with rfl | rfl | rfl | rfl <;> omega
  split
  · refine raceErr_of hkey ?_ ?_ hc ?_ ?_ ?_ hm2 ?_ <;> dsimp only <;> (try omega)
    rintro ⟨_, h | h⟩
    · rcases hc with rfl | rfl <;> simp at h
    · omega
  · refine raceErr_of hkey ?_ ?_ hc ?_ hcm ?_ hm ?_ <;> dsimp only <;> omega
end Go.Proofs.YtklggnglaeagpaaGreatDoor
