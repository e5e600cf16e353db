/- What a law about pads carries: signals, clocks, and the box of a race. -/
import Derived.Test.YtjafcnblgeibpaaDoorPadC
import Derived.Test.YtjafcnblgeibpaaDoorFill
namespace Go.Proofs.YtjafcnblgeibpaaDoor
open Go.RowKit Go.Shelf Go.Lib Go.Sort
set_option linter.unusedVariables false

theorem or3_cl (r : Race) (cl : List Ck) (l : List Sg) : orV [raceErr r, clkErr cl, sigErr l] = if raceErr r ≠ 0 then raceErr r else bothErr cl l := by
  unfold bothErr
  simp only [orV]
  by_cases h0 : raceErr r ≠ 0
  · rw [if_pos h0, if_pos h0]
  · rw [if_neg h0, if_neg h0]
    by_cases h : clkErr cl ≠ 0
    · rw [if_pos h, if_pos h]
    · rw [if_neg h, if_neg h]
      by_cases h2 : sigErr l ≠ 0
      · rw [if_pos h2]
      · rw [if_neg h2, Decidable.not_not.1 h2]
theorem lenNat {r : Race} (h : raceErr r = 0) : lenV r = ((lenV r).toNat : Int) ∧ 1 ≤ (lenV r).toNat := by have := lenV_bd h; omega
theorem bothErr_of {cl : List Ck} {l : List Sg} (h1 : clkErr cl = 0) (h2 : sigErr l = 0) : bothErr cl l = 0 := by unfold bothErr; rw [if_neg (by simpa using h1)]; exact h2
end Go.Proofs.YtjafcnblgeibpaaDoor
