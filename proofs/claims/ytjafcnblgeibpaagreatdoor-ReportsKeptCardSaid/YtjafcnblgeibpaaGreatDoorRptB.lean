/- The order of reports; the merge of the halves of a list of reports: plain. -/
import Derived.Test.YtjafcnblgeibpaaGreatDoorRptA
import Derived.Test.YtjafcnblgeibpaaGreatDoorP52
namespace Go.Proofs.YtjafcnblgeibpaaGreatDoor
open Go.RowKit Go.Shelf Go.Lib Go.Sort
set_option linter.unusedVariables false

theorem rpKey_zero {x y : Rp} : rpCf x y = 0 ↔ x.tm = y.tm ∧ x.id = y.id := by
  rw [rpCf_val]
  have h0 := @ci_zero x.tm y.tm
  have h1 := @cmpB_zero x.id y.id
  constructor
  · intro h
    split at h
    · rename_i h2; exact absurd h h2
    · rename_i h2
      exact ⟨h0.1 (by omega), h1.1 h⟩
  · rintro ⟨e1, e2⟩
    rw [if_neg (by have := h0.2 e1; omega)]
    exact h1.2 e2
theorem rpKey_neg {x y : Rp} : rpCf x y < 0 ↔ x.tm < y.tm ∨ (x.tm = y.tm ∧ cmpB x.id y.id < 0) := by
  rw [rpCf_val]
  have h0 := @ci_zero x.tm y.tm
  have h1 := @ci_neg x.tm y.tm
  split <;> omega
theorem rpLt_iff (x y : Rp) : ltOf rpCf x y = true ↔ x.tm < y.tm ∨ (x.tm = y.tm ∧ cmpB x.id y.id < 0) := by
  have e : ltOf rpCf x y = decide (rpCf x y < 0) := rfl
  rw [e, decide_eq_true_iff, rpKey_neg]
theorem rpLt_no (x y : Rp) : ltOf rpCf x y = false ↔ ¬ (x.tm < y.tm ∨ (x.tm = y.tm ∧ cmpB x.id y.id < 0)) := by
  rw [← rpLt_iff, Bool.not_eq_true]
theorem rpSWO : SWO (ltOf rpCf) := by
  refine ⟨fun x => ?_, fun x y z => ?_, fun x y z => ?_⟩
  · rw [rpLt_no]
    have := @cmpB_zero x.id x.id
    have h := this.2 rfl
    omega
  · rw [rpLt_iff, rpLt_iff, rpLt_iff]
    rintro (h1 | ⟨h1, h1'⟩) (h2 | ⟨h2, h2'⟩)
    · exact .inl (by omega)
    · exact .inl (by omega)
    · exact .inl (by omega)
    · exact .inr ⟨by omega, cmpB_trans h1' h2'⟩
  · rw [rpLt_no, rpLt_no, rpLt_no]
    intro h1 h2 h3
    have hxy : y.tm ≤ x.tm := by omega
    have hyz : z.tm ≤ y.tm := by omega
    rcases h3 with h3 | ⟨h3, h4⟩
    · omega
    have e1 : x.tm = y.tm := by omega
    have e2 : y.tm = z.tm := by omega
    have h1' : ¬ cmpB x.id y.id < 0 := fun h => h1 (.inr ⟨e1, h⟩)
    have h2' : ¬ cmpB y.id z.id < 0 := fun h => h2 (.inr ⟨e2, h⟩)
    by_cases q1 : x.id = y.id
    · rw [q1] at h4; exact h2' h4
    by_cases q2 : y.id = z.id
    · rw [← q2] at h4; exact h1' h4
    have a1 : cmpB x.id y.id ≠ 0 := fun h => q1 (cmpB_zero.1 h)
    have a2 : cmpB y.id z.id ≠ 0 := fun h => q2 (cmpB_zero.1 h)
    have b1 : cmpB y.id x.id < 0 := cmpB_neg.2 (by omega)
    have b2 : cmpB z.id y.id < 0 := cmpB_neg.2 (by omega)
    have b3 := cmpB_neg.1 (cmpB_trans b2 b1)
    omega
/-- two lists in order with the same elements are one list, where no key comes twice -/
theorem sorted_uniqR : ∀ {a b : List Rp}, a.Perm b → (a.Pairwise fun x y => rpCf x y < 0) → (b.Pairwise fun x y => ltOf rpCf y x = false) → a = b
  | [], b, h, _, _ => h.nil_eq
  | x :: a, [], h, _, _ => absurd h.length_eq (by simp)
  | x :: a, y :: b, h, h1, h2 => by
    rw [List.pairwise_cons] at h1 h2
    have e : x = y := by
      rcases List.mem_cons.1 (h.subset (List.mem_cons_self ..)) with e | hm
      · exact e
      · have h3 := h2.1 x hm
        rcases List.mem_cons.1 (h.symm.subset (List.mem_cons_self ..)) with e | hm2
        · exact e.symm
        · have h4 := h1.1 y hm2
          rw [rpKey_neg, ← rpLt_iff] at h4
          rw [h4] at h3
          cases h3
    subst e
    rw [sorted_uniqR ((List.perm_cons x).1 h) h1.2 h2.2]
/-- the merge of the halves of a list in order is the list -/
theorem merge_allR {l : List (Rp × Int)} {out : List Rp} (h : (l.map Prod.fst).Pairwise fun x y => rpCf x y < 0) (hp : out.Perm (hfA l ++ restB (hfA l) (hfB l))) (hs : out.Pairwise fun x y => ltOf rpCf y x = false) : out = l.map Prod.fst := by
  have hn : (l.map Prod.fst).Nodup := h.imp fun {x y} hxy e => by subst e; have := rpKey_zero.2 (⟨rfl, rfl⟩ : x.tm = x.tm ∧ x.id = x.id); omega
  exact (sorted_uniqR ((half_perm l hn).symm.trans hp.symm) h hs).symm
theorem merge_allR' {l : List (Rp × Int)} {out : List Rp} (h : (l.map Prod.fst).Pairwise fun x y => rpCf x y < 0) (hp : out.Perm (hfB l ++ restB (hfB l) (hfA l))) (hs : out.Pairwise fun x y => ltOf rpCf y x = false) : out = l.map Prod.fst := by
  have hn : (l.map Prod.fst).Nodup := h.imp fun {x y} hxy e => by subst e; have := rpKey_zero.2 (⟨rfl, rfl⟩ : x.tm = x.tm ∧ x.id = x.id); omega
  exact (sorted_uniqR ((half_perm' l hn).symm.trans hp.symm) h hs).symm
end Go.Proofs.YtjafcnblgeibpaaGreatDoor
