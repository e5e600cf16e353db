/- Two halves of a list, and the merge of the halves: plain (for DevicesAgree). -/
import Derived.Test.YtklggnglaeagpaaGreatDoorRSgN
namespace Go.Proofs.YtklggnglaeagpaaGreatDoor
set_option linter.unusedVariables false
section
variable {α : Type}

/-- what the second list has and the first has not -/
def restB [DecidableEq α] (a b : List α) : List α := b.filter (fun x => decide (x ∉ a))
end
section
open Go.RowKit Go.Shelf Go.Lib Go.Sort
theorem ci_zero {a b : Int} : Lib.compareInt a b = 0 ↔ a = b := by unfold Lib.compareInt; split <;> (try split) <;> simp <;> omega
theorem ci_neg {a b : Int} : Lib.compareInt a b < 0 ↔ a < b := by unfold Lib.compareInt; split <;> (try split) <;> simp <;> omega
theorem sgKey_zero {x y : Sg} : sgCf x y = 0 ↔ x.dev = y.dev ∧ x.no = y.no := by
  rw [sgCf_val]
  have h0 := @ci_zero x.no y.no
  constructor
  · intro h
    split at h
    · rename_i h1; exact absurd h h1
    · rename_i h1
      have h2 : cmpB x.dev y.dev = 0 := by omega
      have h3 := cb_zero _ _ h2
      refine ⟨?_, h0.1 h⟩
      cases hx : x.dev; cases hy : y.dev
      rw [hx, hy] at h3
      simpa using h3
  · rintro ⟨h1, h2⟩
    have h3 : cmpB x.dev y.dev = 0 := by rw [h1]; exact cb_self _
    rw [if_neg (by omega)]
    exact h0.2 h2
theorem sgKey_neg {x y : Sg} : sgCf x y < 0 ↔ cmpB x.dev y.dev < 0 ∨ (cmpB x.dev y.dev = 0 ∧ x.no < y.no) := by
  rw [sgCf_val]
  have h1 := @ci_neg x.no y.no
  split <;> omega
theorem sgLt_iff (x y : Sg) : ltOf sgCf x y = true ↔ cmpB x.dev y.dev < 0 ∨ (cmpB x.dev y.dev = 0 ∧ x.no < y.no) := by
  have e : ltOf sgCf x y = decide (sgCf x y < 0) := rfl
  rw [e, decide_eq_true_iff, sgKey_neg]
theorem sgLt_no (x y : Sg) : ltOf sgCf x y = false ↔ ¬ (cmpB x.dev y.dev < 0 ∨ (cmpB x.dev y.dev = 0 ∧ x.no < y.no)) := by
  rw [← sgLt_iff, Bool.not_eq_true]
theorem sgSWO : SWO (ltOf sgCf) := by
  refine ⟨fun x => ?_, fun x y z => ?_, fun x y z => ?_⟩
  · rw [sgLt_no]
    have := @cmpB_zero x.dev x.dev
    have h := this.2 rfl
    omega
  · rw [sgLt_iff, sgLt_iff, sgLt_iff]
    rintro (h1 | ⟨h1, h1'⟩) (h2 | ⟨h2, h2'⟩)
    · exact .inl (cmpB_trans h1 h2)
    · rw [cmpB_zero.1 h2] at h1; exact .inl h1
    · rw [← cmpB_zero.1 h1] at h2; exact .inl h2
    · rw [cmpB_zero.1 h1]; exact .inr ⟨h2, by omega⟩
  · rw [sgLt_no, sgLt_no, sgLt_no]
    intro h1 h2 h3
    by_cases e1 : x.dev = y.dev
    · by_cases e2 : y.dev = z.dev
      · have a1 := cmpB_zero.2 e1
        have a2 := cmpB_zero.2 e2
        have a3 := cmpB_zero.2 (e1.trans e2)
        omega
      · rw [e1] at h3
        have a2 : cmpB y.dev z.dev ≠ 0 := fun h => e2 (cmpB_zero.1 h)
        omega
    · by_cases e2 : y.dev = z.dev
      · rw [← e2] at h3
        have a1 : cmpB x.dev y.dev ≠ 0 := fun h => e1 (cmpB_zero.1 h)
        omega
      · have a1 : cmpB x.dev y.dev ≠ 0 := fun h => e1 (cmpB_zero.1 h)
        have a2 : cmpB y.dev z.dev ≠ 0 := fun h => e2 (cmpB_zero.1 h)
        have b1 : cmpB y.dev x.dev < 0 := cmpB_neg.2 (by omega)
        have b2 : cmpB z.dev y.dev < 0 := cmpB_neg.2 (by omega)
        have b3 := cmpB_neg.1 (cmpB_trans b2 b1)
        omega
/-- two lists in order with the same elements are one list, where no key comes twice -/
theorem sorted_uniq : ∀ {a b : List Sg}, a.Perm b → (a.Pairwise fun x y => sgCf x y < 0) → (b.Pairwise fun x y => ltOf sgCf y x = false) → a = b
  | [], b, h, _, _ => h.nil_eq
  | x :: a, [], h, _, _ => absurd h.length_eq (by simp)
  | x :: a, y :: b, h, h1, h2 => by
    rw [List.pairwise_cons] at h1 h2
    have e : x = y := by
      rcases List.mem_cons.1 (h.subset (List.mem_cons_self ..)) with e | hm
      · exact e
      · have h3 := h2.1 x hm
        rcases List.mem_cons.1 (h.symm.subset (List.mem_cons_self ..)) with e | hm2
        · exact e.symm
        · have h4 := h1.1 y hm2
          rw [sgKey_neg, ← sgLt_iff] at h4
          rw [h4] at h3
          cases h3
    subst e
    rw [sorted_uniq ((List.perm_cons x).1 h) h1.2 h2.2]
/-- of one list in order, equal keys are equal signals -/
theorem key_same {l : List Sg} (h : l.Pairwise fun x y => sgCf x y < 0) {x y : Sg} (hx : x ∈ l) (hy : y ∈ l) (e : sgCf x y = 0) : x = y := by
  obtain ⟨i, hi, rfl⟩ := List.getElem_of_mem hx
  obtain ⟨j, hj, rfl⟩ := List.getElem_of_mem hy
  rw [List.pairwise_iff_getElem] at h
  rcases Nat.lt_trichotomy i j with hij | hij | hij
  · have := h i j hi hj hij; omega
  · subst hij; rfl
  · have h1 := h j i hj hi hij
    obtain ⟨e1, e2⟩ := sgKey_zero.1 e
    have := sgKey_zero.2 (⟨e1.symm, e2.symm⟩ : (l[j]).dev = (l[i]).dev ∧ _)
    omega
theorem sigGo_okP : ∀ (l : List Sg) (D : DataW Unit) (o : Option Sg), sigGo D o l = 0 → (∀ x ∈ l, sg1 x = 0) ∧ (l.Pairwise fun x y => sgCf x y < 0) ∧ (∀ y, o = some y → ∀ x ∈ l, sgCf y x < 0)
  | [], D, o, _ => ⟨by simp, .nil, by simp⟩
  | x :: l, D, o, h => by
    unfold sigGo at h
    split at h
    · rename_i h1; exact absurd h h1
    · rename_i h1
      split at h
      · cases h
      · rename_i h2
        obtain ⟨a1, a2, a3⟩ := sigGo_okP l _ _ h
        have a4 := a3 x rfl
        refine ⟨fun z hz => ?_, List.pairwise_cons.2 ⟨a4, a2⟩, fun y e z hz => ?_⟩
        · rcases List.mem_cons.1 hz with rfl | hz
          · omega
          · exact a1 z hz
        · subst e
          have h3 : sgCf y x < 0 := by
            have h4 : ¬ decide (0 ≤ sgCf y x) = true := h2
            simpa using h4
          rcases List.mem_cons.1 hz with rfl | hz
          · exact h3
          · have b1 := (sgLt_iff y x).2 (sgKey_neg.1 h3)
            have b2 := (sgLt_iff x z).2 (sgKey_neg.1 (a4 z hz))
            exact sgKey_neg.2 ((sgLt_iff y z).1 (sgSWO.trans y x z b1 b2))
theorem sigErr_sorted {l : List Sg} (h : sigErr l = 0) : (∀ x ∈ l, sg1 x = 0) ∧ l.Pairwise fun x y => sgCf x y < 0 := by
  unfold sigErr at h
  split at h
  · cases h
  · obtain ⟨a, b, _⟩ := sigGo_okP _ _ _ h
    exact ⟨a, b⟩
end
end Go.Proofs.YtklggnglaeagpaaGreatDoor
