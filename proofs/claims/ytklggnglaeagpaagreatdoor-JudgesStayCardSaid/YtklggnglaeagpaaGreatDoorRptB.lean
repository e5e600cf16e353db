import Derived.Test.YtklggnglaeagpaaGreatDoorSgN
import Derived.Test.YtklggnglaeagpaaGreatDoorRptA
/- Two halves of a list, and the merge of the halves: plain (for DevicesAgree). -/
namespace Go.Proofs.YtklggnglaeagpaaGreatDoor
set_option linter.unusedVariables false
section
variable {α : Type}

/-- what the second list has and the first has not -/
def restB [DecidableEq α] (a b : List α) : List α := b.filter (fun x => decide (x ∉ a))
end
section
open Go.RowKit Go.Shelf Go.Lib Go.Sort
theorem ci_zero {a b : Int} : Lib.compareInt a b = 0 ↔ a = b := by unfold Lib.compareInt; split <;> (try split) <;> simp <;> omega
theorem ci_neg {a b : Int} : Lib.compareInt a b < 0 ↔ a < b := by unfold Lib.compareInt; split <;> (try split) <;> simp <;> omega
end
end Go.Proofs.YtklggnglaeagpaaGreatDoor
/- The order of reports; the merge of the halves of a list of reports: plain. -/
namespace Go.Proofs.YtklggnglaeagpaaGreatDoor
open Go.RowKit Go.Shelf Go.Lib Go.Sort
set_option linter.unusedVariables false

theorem rpKey_neg {x y : Rp} : rpCf x y < 0 ↔ x.tm < y.tm ∨ (x.tm = y.tm ∧ cmpB x.id y.id < 0) := by
  rw [rpCf_val]
  have h0 := @ci_zero x.tm y.tm
  have h1 := @ci_neg x.tm y.tm
  split <;> omega
theorem rpLt_iff (x y : Rp) : ltOf rpCf x y = true ↔ x.tm < y.tm ∨ (x.tm = y.tm ∧ cmpB x.id y.id < 0) := by
  have e : ltOf rpCf x y = decide (rpCf x y < 0) := rfl
  rw [e, decide_eq_true_iff, rpKey_neg]
theorem rpLt_no (x y : Rp) : ltOf rpCf x y = false ↔ ¬ (x.tm < y.tm ∨ (x.tm = y.tm ∧ cmpB x.id y.id < 0)) := by
  rw [← rpLt_iff, Bool.not_eq_true]
theorem rpSWO : SWO (ltOf rpCf) := by
  refine ⟨fun x => ?_, fun x y z => ?_, fun x y z => ?_⟩
  · rw [rpLt_no]
    have := @cmpB_zero x.id x.id
    have h := this.2 rfl
    omega
  · rw [rpLt_iff, rpLt_iff, rpLt_iff]
    rintro (h1 | ⟨h1, h1'⟩) (h2 | ⟨h2, h2'⟩)
    · exact .inl (by omega)
    · exact .inl (by omega)
    · exact .inl (by omega)
    · exact .inr ⟨by omega, cmpB_trans h1' h2'⟩
  · rw [rpLt_no, rpLt_no, rpLt_no]
    intro h1 h2 h3
    have hxy : y.tm ≤ x.tm := by omega
    have hyz : z.tm ≤ y.tm := by omega
    rcases h3 with h3 | ⟨h3, h4⟩
    · omega
    have e1 : x.tm = y.tm := by omega
    have e2 : y.tm = z.tm := by omega
    have h1' : ¬ cmpB x.id y.id < 0 := fun h => h1 (.inr ⟨e1, h⟩)
    have h2' : ¬ cmpB y.id z.id < 0 := fun h => h2 (.inr ⟨e2, h⟩)
    by_cases q1 : x.id = y.id
    · rw [q1] at h4; exact h2' h4
    by_cases q2 : y.id = z.id
    · rw [← q2] at h4; exact h1' h4
    have a1 : cmpB x.id y.id ≠ 0 := fun h => q1 (cmpB_zero.1 h)
    have a2 : cmpB y.id z.id ≠ 0 := fun h => q2 (cmpB_zero.1 h)
    have b1 : cmpB y.id x.id < 0 := cmpB_neg.2 (by omega)
    have b2 : cmpB z.id y.id < 0 := cmpB_neg.2 (by omega)
    have b3 := cmpB_neg.1 (cmpB_trans b2 b1)
    omega
end Go.Proofs.YtklggnglaeagpaaGreatDoor
