import Derived.Test.YtnkhdofcmanipaaGreatDoorTaSortR
import Derived.Test.YtnkhdofcmanipaaGreatDoorTaBestR
import Derived.Deep.RegionHeld3
/- api.Where as data; the order of wheres and of swims; plain lemmas on the insertion sort. -/
namespace Go.Proofs.YtnkhdofcmanipaaGreatDoor
open Go.RowKit Go.Shelf Go.Lib Go.Sort
set_option linter.unusedVariables false

section
variable {α β : Type} [Inhabited α] [Inhabited β]
/-- the insertion sort of a mapped row is the mapped row of the sort -/
theorem swp_map (f : α → β) (d : Array α) (i j : Nat) (hi : i < d.size) (hj : j < d.size) : swp (d.map f) i j = (swp d i j).map f := by
  apply Array.ext_getElem?
  intro k
  have e1 : (d.map f)[i]! = f d[i]! := by rw [getElem!_pos (d.map f) i (by simpa using hi), getElem!_pos d i hi, Array.getElem_map]
  have e2 : (d.map f)[j]! = f d[j]! := by rw [getElem!_pos (d.map f) j (by simpa using hj), getElem!_pos d j hj, Array.getElem_map]
  unfold swp
  rw [e1, e2]
  simp only [Array.getElem?_map, Array.getElem?_setIfInBounds, Array.size_setIfInBounds, Array.size_map]
  repeat' split
  all_goals simp_all
theorem insInner_map (ltA : α → α → Bool) (ltB : β → β → Bool) (f : α → β) (h : ∀ x y, ltB (f x) (f y) = ltA x y) (a : Nat) : ∀ (j : Nat) (d : Array α), j < d.size → insInner ltB a j (d.map f) = (insInner ltA a j d).map f
  | 0, _, _ => rfl
  | j + 1, d, hj => by
    have e1 : (d.map f)[j + 1]! = f d[j + 1]! := by rw [getElem!_pos (d.map f) (j + 1) (by simpa using hj), getElem!_pos d (j + 1) hj, Array.getElem_map]
    have e2 : (d.map f)[j]! = f d[j]! := by rw [getElem!_pos (d.map f) j (by simp; omega), getElem!_pos d j (by omega), Array.getElem_map]
    unfold insInner
    rw [e1, e2, h]
    split
    · rw [swp_map f d (j + 1) j hj (by omega), insInner_map ltA ltB f h a j _ (by rw [size_swp]; omega)]
    · rfl
theorem insOuter_map (ltA : α → α → Bool) (ltB : β → β → Bool) (f : α → β) (h : ∀ x y, ltB (f x) (f y) = ltA x y) (a b : Nat) : ∀ (m i : Nat) (d : Array α), b - i ≤ m → b ≤ d.size → insOuter ltB a b i (d.map f) = (insOuter ltA a b i d).map f
  | 0, i, d, hm, hb => by
    unfold insOuter
    rw [if_neg (by omega), if_neg (by omega)]
  | m + 1, i, d, hm, hb => by
    unfold insOuter
    split
    · rw [insInner_map ltA ltB f h a i d (by omega), insOuter_map ltA ltB f h a b m (i + 1) _ (by omega) (by rw [insInner_size]; exact hb)]
    · rfl
theorem insL_map (ltA : α → α → Bool) (ltB : β → β → Bool) (f : α → β) (h : ∀ x y, ltB (f x) (f y) = ltA x y) (l : List α) : insL ltB (l.map f) = (insL ltA l).map f := by
  unfold insL insertionSort
  have e : (l.map f).toArray = l.toArray.map f := by simp
  rw [e, List.length_map, insOuter_map ltA ltB f h 0 l.length _ 1 l.toArray (Nat.le_refl _) (by simp)]
  simp
theorem insL_nil (lt : α → α → Bool) : insL lt ([] : List α) = [] := List.eq_nil_of_length_eq_zero (insL_len lt [])
end
theorem sub_list {α : Type} {p : α → Prop} (l : List α) (h : ∀ x ∈ l, p x) : ∃ l' : List { x // p x }, l'.map Subtype.val = l := by
  induction l with
  | nil => exact ⟨[], rfl⟩
  | cons x r ih =>
    obtain ⟨r', hr⟩ := ih (fun y hy => h y (by simp [hy]))
    exact ⟨⟨x, h x (by simp)⟩ :: r', by rw [List.map_cons, hr]⟩

structure Wh where
  who : ByteArray
  num : Int
  den : Int
deriving DecidableEq
instance : Inhabited Wh := ⟨⟨⟨#[]⟩, 0, 0⟩⟩
def whOk (x : Wh) : Prop := 0 ≤ x.num ∧ x.num ≤ 4400000000 ∧ 0 < x.den ∧ x.den ≤ 360000
abbrev WhB := { x : Wh // whOk x }
instance : Inhabited WhB := ⟨⟨⟨⟨#[]⟩, 0, 1⟩, by decide, by decide, by decide, by decide⟩⟩
/-! ## where somebody is -/
instance : Inhabited Sw := ⟨⟨⟨#[]⟩, none, 0, 0, []⟩⟩
/-! ## the closure -/
end Go.Proofs.YtnkhdofcmanipaaGreatDoor

/- race.at: where all are at a time, from the farthest on; checkTime, At, Order. -/
namespace Go.Proofs.YtnkhdofcmanipaaGreatDoor
open Go.RowKit Go.Sort
set_option linter.unusedVariables false

def strs (l : List ByteArray) : List Value := l.map Value.string
end Go.Proofs.YtnkhdofcmanipaaGreatDoor

/- Who leads, and for how long: as data. -/
namespace Go.Proofs.YtnkhdofcmanipaaGreatDoor
open Go.RowKit
set_option linter.unusedVariables false

section
variable {α : Type}
end
end Go.Proofs.YtnkhdofcmanipaaGreatDoor

/- Phases: what they are like; who leads is who is farthest. Plain. -/
namespace Go.Proofs.YtnkhdofcmanipaaGreatDoor
open Go.RowKit
set_option linter.unusedVariables false

section
variable {α : Type}
structure PhOk (L : Nat → List α) (out : List (Nat × Nat × List α)) (n : Nat) : Prop where
  emp : out = [] → n = 0
  at_ : ∀ j y, out[j]? = some y → y.1 < y.2.1 ∧ y.2.1 ≤ n ∧ (j = 0 → y.1 = 0) ∧ (∀ t, y.1 ≤ t → t < y.2.1 → L t = y.2.2) ∧ (j + 1 = out.length → y.2.1 = n)
  nxt : ∀ j y z, out[j]? = some y → out[j + 1]? = some z → y.2.1 = z.1 ∧ y.2.2 ≠ z.2.2
theorem snoc_at {β : Type} {l : List β} {x y : β} {j : Nat} (h : (l ++ [x])[j]? = some y) : (j < l.length ∧ l[j]? = some y) ∨ (j = l.length ∧ x = y) := by
  rcases Nat.lt_trichotomy j l.length with h1 | h1 | h1
  · rw [List.getElem?_append_left h1] at h; exact .inl ⟨h1, h⟩
  · subst h1; rw [List.getElem?_append_right (Nat.le_refl _)] at h; simp at h; exact .inr ⟨rfl, h⟩
  · rw [List.getElem?_eq_none (by simp; omega)] at h; cases h
theorem PhOk.app {L : Nat → List α} {out : List (Nat × Nat × List α)} {n : Nat} (h : PhOk L out n) (hne : ∀ y, out[out.length - 1]? = some y → y.2.2 ≠ L n) : PhOk L (out ++ [(n, n + 1, L n)]) (n + 1) := by
  refine ⟨fun e => by simp at e, fun j y hy => ?_, fun j y z hy hz => ?_⟩
  · rcases snoc_at hy with ⟨h1, h2⟩ | ⟨rfl, rfl⟩
    · obtain ⟨q1, q2, q3, q4, q5⟩ := h.at_ j y h2
      exact ⟨q1, by omega, q3, q4, fun e => by simp at e; omega⟩
    · refine ⟨by simp, Nat.le_refl _, fun e => h.emp (List.eq_nil_of_length_eq_zero e), fun t t0 t1 => ?_, fun _ => rfl⟩
      simp at t0 t1 ⊢
      rw [show t = n by omega]
  · rcases snoc_at hz with ⟨h1, h2⟩ | ⟨h1, rfl⟩
    · exact h.nxt j y z (by rw [List.getElem?_append_left (by omega)] at hy; exact hy) h2
    · rw [List.getElem?_append_left (by omega)] at hy
      obtain ⟨q1, q2, q3, q4, q5⟩ := h.at_ j y hy
      exact ⟨q5 h1, hne y (by rw [← h1]; exact hy)⟩
end
section
variable {α : Type}
def far_le (x y : Int × Int) : Prop := x.1 * y.2 ≤ y.1 * x.2
/-- the farthest ones: those of the list than whom nobody is farther -/
structure LdOk (f : α → Int × Int) (seen acc : List α) (b : Int × Int) : Prop where
  emp : acc = [] → seen = []
  pos : acc ≠ [] → 0 < b.2
  top : ∀ y ∈ seen, acc ≠ [] → far_le (f y) b
  mem : ∀ x, x ∈ acc ↔ x ∈ seen ∧ far_le b (f x)
end
end Go.Proofs.YtnkhdofcmanipaaGreatDoor

/- The insertion sort: a permutation, ascending; stable where the list stood in a second order. Plain. -/
namespace Go.Proofs.YtnkhdofcmanipaaGreatDoor
open Go.RowKit Go.Sort
set_option linter.unusedVariables false

/-! ## who is farther is first; of equals, whose name is less -/
end Go.Proofs.YtnkhdofcmanipaaGreatDoor
