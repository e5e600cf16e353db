/- pad.Merge and pad.Lacks. Printed by wip/genmerg.py. -/
import Derived.Test.YtklggnglaeagpaaGreatDoorRBinS
import Derived.Test.YtklggnglaeagpaaGreatDoorRSetG
import Derived.Test.YtklggnglaeagpaaGreatDoorRPadF
namespace Go.Proofs.YtklggnglaeagpaaGreatDoor
open Go.RowKit Go.Shelf Go.Lib Go.Sort
set_option linter.unusedVariables false

/-- what a merge puts behind the first list; none: two signals of one key differ -/
def mrg (a : List Sg) : List Sg → Option (List Sg)
  | [] => some []
  | x :: r => match a.find? (fun y => sgCf y x == 0) with
    | none => (mrg a r).map (x :: ·)
    | some y => if y = x then mrg a r else none
theorem mrg_new {a b : List Sg} {k : Nat} {x : Sg} {P : List Sg} (hx : b[k]? = some x) (h : ∀ y ∈ a, sgCf y x ≠ 0) (hF : mrg a b = (mrg a (b.drop k)).map (P ++ ·)) : mrg a b = (mrg a (b.drop (k + 1))).map ((P ++ [x]) ++ ·) := by
  rw [hF, drop_at hx]
  have e : a.find? (fun y => sgCf y x == 0) = none := by
    rw [List.find?_eq_none]
    intro y hy
    simpa using h y hy
  simp only [mrg, e]
  cases mrg a (b.drop (k + 1)) <;> simp
theorem mrg_find {a : List Sg} {x y : Sg} (hs : a.Pairwise fun x y => sgCf x y < 0) (hy : y ∈ a) (h : sgCf y x = 0) : a.find? (fun y => sgCf y x == 0) = some y := by
  cases e : a.find? (fun y => sgCf y x == 0) with
  | none =>
    rw [List.find?_eq_none] at e
    exact absurd h (by simpa using e y hy)
  | some z =>
    have hz := List.mem_of_find?_eq_some e
    have h2 := List.find?_some e
    have h3 : sgCf z x = 0 := by simpa using h2
    obtain ⟨a1, a2⟩ := sgKey_zero.1 h
    obtain ⟨b1, b2⟩ := sgKey_zero.1 h3
    rw [key_same hs hz hy (sgKey_zero.2 ⟨b1.trans a1.symm, b2.trans a2.symm⟩)]
theorem mrg_old {a b : List Sg} {k : Nat} {x : Sg} {P : List Sg} (hs : a.Pairwise fun x y => sgCf x y < 0) (hx : b[k]? = some x) (hy : x ∈ a) (hF : mrg a b = (mrg a (b.drop k)).map (P ++ ·)) : mrg a b = (mrg a (b.drop (k + 1))).map (P ++ ·) := by
  rw [hF, drop_at hx]
  have e := mrg_find hs hy (sgKey_zero.2 ⟨rfl, rfl⟩ : sgCf x x = 0)
  simp only [mrg, e, if_pos]
theorem mrg_bad {a b : List Sg} {k : Nat} {x y : Sg} {P : List Sg} (hs : a.Pairwise fun x y => sgCf x y < 0) (hx : b[k]? = some x) (hy : y ∈ a) (h : sgCf y x = 0) (hne : y ≠ x) (hF : mrg a b = (mrg a (b.drop k)).map (P ++ ·)) : mrg a b = none := by
  rw [hF, drop_at hx]
  have e := mrg_find hs hy h
  simp only [mrg, e, if_neg hne]
  rfl
/-- of lists of which equal keys are equal signals: what the second has and the first has not -/
theorem mrg_rest {a : List Sg} (hs : a.Pairwise fun x y => sgCf x y < 0) : ∀ {b : List Sg}, (∀ x ∈ b, ∀ y ∈ a, sgCf y x = 0 → y = x) → mrg a b = some (restB a b)
  | [], _ => rfl
  | x :: r, h => by
    have ih := mrg_rest hs (b := r) (fun z hz => h z (List.mem_cons_of_mem _ hz))
    have hx := h x (List.mem_cons_self ..)
    by_cases hm : x ∈ a
    · have e := mrg_find hs hm (sgKey_zero.2 ⟨rfl, rfl⟩ : sgCf x x = 0)
      simp only [mrg, e, if_pos, ih]
      unfold restB
      rw [List.filter_cons_of_neg (by simpa using hm)]
    · have e : a.find? (fun y => sgCf y x == 0) = none := by
        rw [List.find?_eq_none]
        intro y hy
        have : sgCf y x ≠ 0 := fun h0 => hm (hx y hy h0 ▸ hy)
        simpa using this
      simp only [mrg, e, ih]
      unfold restB
      rw [List.filter_cons_of_pos (by simpa using hm)]
      rfl
/-- what a merge is -/
def MrgR (a b : List Sg) (E : Int) (out : List Sg) : Prop :=
  (sigErr a ≠ 0 ∧ E = sigErr a ∧ out = []) ∨ (sigErr a = 0 ∧ sigErr b ≠ 0 ∧ E = sigErr b ∧ out = []) ∨
  (sigErr a = 0 ∧ sigErr b = 0 ∧ ((mrg a b = none ∧ E = 13 ∧ out = []) ∨ ∃ p s, mrg a b = some p ∧ SgSorted (a ++ p) s ∧ ((sigErr s ≠ 0 ∧ E = sigErr s ∧ out = []) ∨ (sigErr s = 0 ∧ E = 0 ∧ out = s))))
theorem sgCmp_enters : ∀ args w, (callFunc 125 args).run Tryz.prog w = .ok (.enter 125 args) w := enters_of Tryz.func125 (by kernel_rfl) rfl
theorem flat_app1 (l : List Sg) (x : Sg) : (l ++ [x]).flatMap sgE = l.flatMap sgE ++ sgE x := by rw [List.flatMap_append]; simp
end Go.Proofs.YtklggnglaeagpaaGreatDoor
