/- The official time of a right touch: the reference's. -/
import Derived.Test.YthopkmcabjnfnaaGreatDoorTouch2
namespace Go.Proofs.YthopkmcabjnfnaaGreatDoor
open Go.RowKit
set_option linter.unusedVariables false

theorem good_t {pad btn W : Int} (h0 : 0 < pad) (h1 : 0 < btn → pad - btn ≤ 30 ∧ btn - pad ≤ 30) (h2 : btn ≤ 0 → 0 < W → pad - W ≤ 30 ∧ W - pad ≤ 30) : goodB pad btn W = true := by
  unfold goodB nearB
  rw [decide_eq_true h0]
  split
  · rename_i h; simpa using h1 h
  · split
    · rename_i h h'; simpa using h2 (by omega) h'
    · rfl
theorem good_f {pad btn W : Int} (h : pad ≤ 0 ∨ (0 < btn ∧ ¬ (pad - btn ≤ 30 ∧ btn - pad ≤ 30)) ∨ (btn ≤ 0 ∧ 0 < W ∧ ¬ (pad - W ≤ 30 ∧ W - pad ≤ 30))) : goodB pad btn W = false := by
  unfold goodB nearB
  rcases h with h | ⟨h, h'⟩ | ⟨h, h', h''⟩
  · rw [decide_eq_false (by omega)]; rfl
  · rw [if_pos h, decide_eq_false h', Bool.and_false]
  · rw [if_neg (by omega), if_pos h', decide_eq_false h'', Bool.and_false]
end Go.Proofs.YthopkmcabjnfnaaGreatDoor
