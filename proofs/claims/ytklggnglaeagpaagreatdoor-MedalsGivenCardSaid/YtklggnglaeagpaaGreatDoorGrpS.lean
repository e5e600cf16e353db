/- Runs of equal times: heat.groups, tumbref1.zone; plain laws on them. -/
import Derived.Test.YtklggnglaeagpaaGreatDoorGoneC
import Derived.Test.YtklggnglaeagpaaGreatDoorApp2
import Derived.Deep.QuietTactic
import Derived.Deep.DeepCutAuto
import Derived.Deep.CutBlock
import Derived.BigQuiet
import Derived.BigGuardPart
namespace Go.Proofs.YtklggnglaeagpaaGreatDoor
open Go.RowKit Go.Shelf Go.Lib Go.Sort
set_option linter.unusedVariables false

/-- how many at the head of a list have a time -/
def runN (t : Int) : List Sd → Nat
  | [] => 0
  | x :: r => if x.time = t then runN t r + 1 else 0
theorem runN_le (t : Int) : ∀ l : List Sd, runN t l ≤ l.length
  | [] => Nat.le_refl _
  | x :: r => by
    unfold runN
    have := runN_le t r
    split <;> simp <;> omega
/-- the end of the run that begins at i -/
def runE (L : List Sd) (i : Nat) : Nat := match L[i]? with
  | none => i + 1
  | some x => i + 1 + runN x.time (L.drop (i + 1))
theorem runE_at {L : List Sd} {i : Nat} {x : Sd} (h : L[i]? = some x) : runE L i = i + 1 + runN x.time (L.drop (i + 1)) := by unfold runE; rw [h]
theorem runE_gt (L : List Sd) (i : Nat) : i < runE L i := by unfold runE; split <;> omega
theorem runE_le {L : List Sd} {i : Nat} (h : i < L.length) : runE L i ≤ L.length := by
  obtain ⟨x, hx⟩ := at_of_lt h
  rw [runE_at hx]
  have := runN_le x.time (L.drop (i + 1))
  rw [List.length_drop] at this
  omega
theorem runN_same {t : Int} {L : List Sd} {q : Nat} {y : Sd} (hy : L[q]? = some y) (ht : y.time = t) : q + runN t (L.drop q) = q + 1 + runN t (L.drop (q + 1)) := by
  rw [drop_at hy, show runN t (y :: L.drop (q + 1)) = if y.time = t then runN t (L.drop (q + 1)) + 1 else 0 from rfl, if_pos ht]
  omega
theorem runN_stop {t : Int} {L : List Sd} {q : Nat} {y : Sd} (hy : L[q]? = some y) (ht : y.time ≠ t) : q + runN t (L.drop q) = q := by
  rw [drop_at hy, show runN t (y :: L.drop (q + 1)) = if y.time = t then runN t (L.drop (q + 1)) + 1 else 0 from rfl, if_neg ht]
  rfl
theorem runN_end {t : Int} {L : List Sd} {q : Nat} (hq : L.length ≤ q) : q + runN t (L.drop q) = q := by
  rw [drop_end hq]
  rfl
/-- the runs that are split between two finals, from i on -/
def grpL (f : Fl) (L : List Sd) (i : Nat) : List (Nat × Nat) :=
  if h : i < L.length then (if cls f i ≠ cls f (runE L i - 1) then [(i, runE L i)] else []) ++ grpL f L (runE L i) else []
termination_by L.length - i
decreasing_by have := runE_gt L i; omega
theorem grpL_at {f : Fl} {L : List Sd} {i : Nat} (h : i < L.length) : grpL f L i = (if cls f i ≠ cls f (runE L i - 1) then [(i, runE L i)] else []) ++ grpL f L (runE L i) := by
  rw [grpL]
  exact dif_pos h
theorem grpL_end {f : Fl} {L : List Sd} {i : Nat} (h : L.length ≤ i) : grpL f L i = [] := by
  rw [grpL]
  exact dif_neg (by omega)
theorem grpL_bd (f : Fl) (L : List Sd) (i : Nat) : ∀ g ∈ grpL f L i, i ≤ g.1 ∧ g.1 < g.2 ∧ g.2 ≤ L.length := by
  rw [grpL]
  split
  · rename_i h
    intro g hg
    have h1 := runE_gt L i
    have h2 := runE_le h
    rcases List.mem_append.1 hg with hg | hg
    · split at hg
      · obtain rfl := List.mem_singleton.1 hg
        exact ⟨Nat.le_refl _, h1, h2⟩
      · cases hg
    · have := grpL_bd f L (runE L i) g hg
      omega
  · intro g hg
    cases hg
termination_by L.length - i
decreasing_by have := runE_gt L i; omega
theorem grpL_len (f : Fl) (L : List Sd) (i : Nat) : (grpL f L i).length ≤ L.length - i := by
  rw [grpL]
  split
  · rename_i h
    have h1 := runE_gt L i
    have h2 := runE_le h
    have h3 := grpL_len f L (runE L i)
    rw [List.length_append]
    have : (if cls f i ≠ cls f (runE L i - 1) then [(i, runE L i)] else []).length ≤ 1 := by split <;> simp
    omega
  · simp
termination_by L.length - i
decreasing_by have := runE_gt L i; omega
def grpV (f : Fl) (L : List Sd) : List (Nat × Nat) := grpL f L 0
def grE (x : Nat × Nat) : List Value := [.int .i64 x.1, .int .i64 x.2]
theorem grE_len : ∀ x, (grE x).length = 2 := fun _ => rfl
theorem flat_snocG (l : List (Nat × Nat)) (x : Nat × Nat) : (l ++ [x]).flatMap grE = l.flatMap grE ++ grE x := by rw [List.flatMap_append]; simp
end Go.Proofs.YtklggnglaeagpaaGreatDoor
