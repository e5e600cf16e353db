/- Fixes in order: plain. Printed by wip/genfxb.py. -/
import Derived.Test.YtnkhdofcmanipaaGreatDoorFaFxA
import Derived.Test.YtnkhdofcmanipaaGreatDoorFaSortB
namespace Go.Proofs.YtnkhdofcmanipaaGreatDoor
open Go.RowKit Go.Shelf Go.Lib Go.Sort
set_option linter.unusedVariables false

theorem cx_zero {a b : Int} : Lib.compareInt a b = 0 ↔ a = b := by unfold Lib.compareInt; split <;> (try split) <;> simp <;> omega
theorem cx_neg {a b : Int} : Lib.compareInt a b < 0 ↔ a < b := by unfold Lib.compareInt; split <;> (try split) <;> simp <;> omega
theorem or5_neg (u v1 v2 v3 v4 : Int) : orV [u, v1, v2, v3, v4] < 0 ↔ u < 0 ∨ (u = 0 ∧ (v1 < 0 ∨ (v1 = 0 ∧ (v2 < 0 ∨ (v2 = 0 ∧ (v3 < 0 ∨ (v3 = 0 ∧ v4 < 0))))))) := by
  simp only [orV]
  (repeat' split) <;> omega
theorem or5_zero (u v1 v2 v3 v4 : Int) : orV [u, v1, v2, v3, v4] = 0 ↔ u = 0 ∧ v1 = 0 ∧ v2 = 0 ∧ v3 = 0 ∧ v4 = 0 := by
  simp only [orV]
  (repeat' split) <;> omega
/-- the order of the numbers of fixes -/
def fxL (x y : Fx) : Prop := x.ht < y.ht ∨ (x.ht = y.ht ∧ (x.ln < y.ln ∨ (x.ln = y.ln ∧ (x.le < y.le ∨ (x.le = y.le ∧ x.vr < y.vr)))))
theorem fxKey_neg {x y : Fx} : fxCf x y < 0 ↔ cmpB x.rc y.rc < 0 ∨ (cmpB x.rc y.rc = 0 ∧ fxL x y) := by
  unfold fxCf fxL
  rw [or5_neg, cx_neg, cx_neg, cx_neg, cx_neg, cx_zero, cx_zero, cx_zero]
theorem fxKey_zero {x y : Fx} : fxCf x y = 0 ↔ x.rc = y.rc ∧ x.ht = y.ht ∧ x.ln = y.ln ∧ x.le = y.le ∧ x.vr = y.vr := by
  unfold fxCf
  rw [or5_zero, cx_zero, cx_zero, cx_zero, cx_zero, cmpB_zero]
theorem fxLt_iff (x y : Fx) : ltOf fxCf x y = true ↔ cmpB x.rc y.rc < 0 ∨ (cmpB x.rc y.rc = 0 ∧ fxL x y) := by
  have e : ltOf fxCf x y = decide (fxCf x y < 0) := rfl
  rw [e, decide_eq_true_iff, fxKey_neg]
theorem fxLt_no (x y : Fx) : ltOf fxCf x y = false ↔ ¬ (cmpB x.rc y.rc < 0 ∨ (cmpB x.rc y.rc = 0 ∧ fxL x y)) := by
  rw [← fxLt_iff, Bool.not_eq_true]
theorem fxSWO : SWO (ltOf fxCf) := by
  refine ⟨fun x => ?_, fun x y z => ?_, fun x y z => ?_⟩
  · rw [fxLt_no]
    have := @cmpB_zero x.rc x.rc
    have h := this.2 rfl
    unfold fxL
    omega
  · rw [fxLt_iff, fxLt_iff, fxLt_iff]
    rintro (h1 | ⟨h1, h1'⟩) (h2 | ⟨h2, h2'⟩)
    · exact .inl (cmpB_trans h1 h2)
    · rw [cmpB_zero.1 h2] at h1; exact .inl h1
    · rw [← cmpB_zero.1 h1] at h2; exact .inl h2
    · rw [cmpB_zero.1 h1]; exact .inr ⟨h2, by unfold fxL at *; omega⟩
  · rw [fxLt_no, fxLt_no, fxLt_no]
    intro h1 h2 h3
    unfold fxL at *
    by_cases e1 : x.rc = y.rc
    · by_cases e2 : y.rc = z.rc
      · have a1 := cmpB_zero.2 e1
        have a2 := cmpB_zero.2 e2
        have a3 := cmpB_zero.2 (e1.trans e2)
        omega
      · rw [e1] at h3
        have a2 : cmpB y.rc z.rc ≠ 0 := fun h => e2 (cmpB_zero.1 h)
        omega
    · by_cases e2 : y.rc = z.rc
      · rw [← e2] at h3
        have a1 : cmpB x.rc y.rc ≠ 0 := fun h => e1 (cmpB_zero.1 h)
        omega
      · have a1 : cmpB x.rc y.rc ≠ 0 := fun h => e1 (cmpB_zero.1 h)
        have a2 : cmpB y.rc z.rc ≠ 0 := fun h => e2 (cmpB_zero.1 h)
        have b1 : cmpB y.rc x.rc < 0 := cmpB_neg.2 (by omega)
        have b2 : cmpB z.rc y.rc < 0 := cmpB_neg.2 (by omega)
        have b3 := cmpB_neg.1 (cmpB_trans b2 b1)
        omega
theorem fx_trans {x y z : Fx} (h1 : fxCf x y < 0) (h2 : fxCf y z < 0) : fxCf x z < 0 :=
  fxKey_neg.2 ((fxLt_iff x z).1 (fxSWO.trans x y z ((fxLt_iff x y).2 (fxKey_neg.1 h1)) ((fxLt_iff y z).2 (fxKey_neg.1 h2))))
/-- two lists in order with the same elements are one list, where no key comes twice -/
theorem fxSorted_uniq : ∀ {a b : List Fx}, a.Perm b → (a.Pairwise fun x y => fxCf x y < 0) → (b.Pairwise fun x y => ltOf fxCf y x = false) → a = b
  | [], b, h, _, _ => h.nil_eq
  | x :: a, [], h, _, _ => absurd h.length_eq (by simp)
  | x :: a, y :: b, h, h1, h2 => by
    rw [List.pairwise_cons] at h1 h2
    have e : x = y := by
      rcases List.mem_cons.1 (h.subset (List.mem_cons_self ..)) with e | hm
      · exact e
      · have h3 := h2.1 x hm
        rcases List.mem_cons.1 (h.symm.subset (List.mem_cons_self ..)) with e | hm2
        · exact e.symm
        · have h4 := h1.1 y hm2
          replace h4 : ltOf fxCf x y = true := decide_eq_true h4
          rw [h4] at h3
          cases h3
    subst e
    rw [fxSorted_uniq ((List.perm_cons x).1 h) h1.2 h2.2]
/-- of one list in order, equal keys are equal fixes -/
theorem fxKey_same {l : List Fx} (h : l.Pairwise fun x y => fxCf x y < 0) {x y : Fx} (hx : x ∈ l) (hy : y ∈ l) (e : fxCf x y = 0) : x = y := by
  obtain ⟨i, hi, rfl⟩ := List.getElem_of_mem hx
  obtain ⟨j, hj, rfl⟩ := List.getElem_of_mem hy
  rw [List.pairwise_iff_getElem] at h
  rcases Nat.lt_trichotomy i j with hij | hij | hij
  · have := h i j hi hj hij; omega
  · subst hij; rfl
  · have h1 := h j i hj hi hij
    obtain ⟨e1, e2, e3, e4, e5⟩ := fxKey_zero.1 e
    have := fxKey_zero.2 (⟨e1.symm, e2.symm, e3.symm, e4.symm, e5.symm⟩ : (l[j]).rc = (l[i]).rc ∧ _)
    omega
theorem fxGo_ok : ∀ (l : List Fx) (o : Option Fx), fxGo o l = 0 ↔ (∀ x ∈ l, fx1 x = 0) ∧ (l.Pairwise fun x y => fxCf x y < 0) ∧ (∀ y, o = some y → ∀ x ∈ l, fxCf y x < 0)
  | [], o => by
    constructor
    · intro _; exact ⟨fun x hx => (by cases hx), .nil, fun y _ x hx => (by cases hx)⟩
    · intro _; cases o <;> rfl
  | x :: l, o => by
    have ih := fxGo_ok l (some x)
    have hb : badFx o x = true ↔ ∃ y, o = some y ∧ 0 ≤ fxCf y x := by
      unfold badFx
      cases o with
      | none => simp
      | some y => simp
    unfold fxGo
    constructor
    · intro h
      split at h
      · rename_i h1; exact absurd h h1
      · rename_i h1
        split at h
        · cases h
        · rename_i h2
          obtain ⟨a1, a2, a3⟩ := ih.1 h
          have a4 := a3 x rfl
          have a5 : ∀ y, o = some y → fxCf y x < 0 := fun y e => Int.not_le.1 fun h9 => h2 (hb.2 ⟨y, e, h9⟩)
          refine ⟨fun z hz => ?_, List.pairwise_cons.2 ⟨a4, a2⟩, fun y e z hz => ?_⟩
          · rcases List.mem_cons.1 hz with rfl | hz
            · omega
            · exact a1 z hz
          · rcases List.mem_cons.1 hz with rfl | hz
            · exact a5 y e
            · exact fx_trans (a5 y e) (a4 z hz)
    · rintro ⟨a1, a2, a3⟩
      rw [List.pairwise_cons] at a2
      rw [if_neg (by rw [a1 x (List.mem_cons_self ..)]; simp), if_neg (fun h => by
        obtain ⟨y, e, h9⟩ := hb.1 h
        have := a3 y e x (List.mem_cons_self ..)
        omega)]
      exact ih.2 ⟨fun z hz => a1 z (List.mem_cons_of_mem _ hz), a2.2, fun y e z hz => by
        obtain rfl := Option.some.inj e
        exact a2.1 z hz⟩
theorem fxErr_iff (l : List Fx) : fxErr l = 0 ↔ l.length ≤ 300 ∧ (∀ x ∈ l, fx1 x = 0) ∧ (l.Pairwise fun x y => fxCf x y < 0) := by
  unfold fxErr
  split
  · constructor
    · intro h; cases h
    · rintro ⟨h, _⟩; omega
  · rw [fxGo_ok]
    constructor
    · rintro ⟨a, b, _⟩; exact ⟨by omega, a, b⟩
    · rintro ⟨_, a, b⟩; exact ⟨a, b, fun y e => (by cases e)⟩
end Go.Proofs.YtnkhdofcmanipaaGreatDoor
