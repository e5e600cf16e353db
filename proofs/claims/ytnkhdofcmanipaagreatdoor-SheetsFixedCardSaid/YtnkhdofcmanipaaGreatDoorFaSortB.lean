import Derived.Test.YtnkhdofcmanipaaGreatDoorShelf
import Derived.Test.YtnkhdofcmanipaaGreatDoorFaStructs
import Derived.Test.YtnkhdofcmanipaaGreatDoorSortG
import Derived.Sort.LotA
import Derived.Sort.OwnSortedInts
import Derived.Laws.AppendOwnNone
import Derived.Lib.RowBridge
/- The insertion sort on lists; rows of structs sorted; slices.Sort and Compact of ints. -/
namespace Go.Proofs.YtnkhdofcmanipaaGreatDoor
open Go.RowKit Go.Shelf Go.Lib Go.Sort
set_option linter.unusedVariables false

section
variable {α : Type} [Inhabited α] (enc : α → List Value) (size : Nat)
theorem flatK_flat (hs : ∀ x, (enc x).length = size) (hp : 0 < size) (l : List α) : (flatK enc size l.toArray).toList = l.flatMap enc := by
  have hlen : ∀ l : List α, (l.flatMap enc).length = l.length * size := by
    intro l
    induction l with
    | nil => simp
    | cons x r ih => rw [List.flatMap_cons, List.length_append, hs, ih, List.length_cons, Nat.succ_mul]; omega
  apply List.ext_getElem?
  intro t
  by_cases ht : t < l.length * size
  · have hk : t / size < l.length := by rw [Nat.div_lt_iff_lt_mul hp]; exact ht
    have hq : t % size < size := Nat.mod_lt _ hp
    have he : t = t / size * size + t % size := by rw [Nat.mul_comm]; exact (Nat.div_add_mod t size).symm
    have h1 : (flatK enc size l.toArray).toList[t]? = some ((enc l.toArray[t / size]!)[t % size]!) := by
      rw [Array.getElem?_toList]
      unfold flatK
      rw [Array.getElem?_map, Array.getElem?_range, if_pos (by simpa using ht)]
      rfl
    rw [h1]
    have hx : l[t / size]? = some (l.toArray[t / size]!) := by simp [hk]
    have hv : (enc (l.toArray[t / size]!))[t % size]? = some ((enc l.toArray[t / size]!)[t % size]!) := by
      have : t % size < (enc (l.toArray[t / size]!)).length := by rw [hs]; exact hq
      generalize enc (l.toArray[t / size]!) = E at *
      rw [getElem!_def, List.getElem?_eq_getElem this]
    have h2 := flat_at hs l (t / size) _ (t % size) _ hx hv
    rw [← he] at h2
    exact h2.symm
  · rw [List.getElem?_eq_none (by simp; omega), List.getElem?_eq_none (by rw [hlen]; omega)]
theorem take_putCells_id (cur : Array Value) (F : Array Value) (h : F.size ≤ cur.size) : (putCells id 0 F cur).toList.take F.size = F.toList := by
  apply List.ext_getElem?
  intro j
  by_cases hj : j < F.size
  · rw [List.getElem?_take_of_lt hj, Array.getElem?_toList]
    simp [putCells, hj, show j < cur.size by omega]
  · rw [List.getElem?_take_eq_none (by omega), List.getElem?_eq_none (by simp; omega)]
theorem own_sortedK (hs : ∀ x, (enc x).length = size) (hp : 0 < size) {w : World} {base g cap n : Nat} {e : TypeId} {l l' : List α} (h : w.ownsRow base e size (.slice (some ⟨g, 0, none⟩) n cap) n (l.flatMap enc)) (hl : l'.length = n) (m : Nat) (os : Array Obj) :
    (sortWorldK enc size w g 0 m l'.toArray os).ownsRow base e size (.slice (some ⟨g, 0, none⟩) n cap) n (l'.flatMap enc) ∧ w.grownBy (sortWorldK enc size w g 0 m l'.toArray os) (some g) := by
  rcases h.2 with ⟨h0, _⟩ | ⟨g', cap', cur, hv, hbase, hgb, r1, r2, r3, r4⟩
  · cases h0
  · injection hv with e1 _ e3
    injection e1 with e1
    injection e1 with e1 _ _
    subst e1
    subst e3
    have hF := flatK_flat enc size hs hp l'
    have hsz : (flatK enc size l'.toArray).size = n * size := by simp [hl]
    have hlt := lt_of_heap hgb
    have hnc : n * size ≤ cap * size := Nat.mul_le_mul_right _ r1
    have hheap : (sortWorldK enc size w g 0 m l'.toArray os).heap[g]? = some (.cells (putCells id 0 (flatK enc size l'.toArray) cur) e (0, 0)) := by
      unfold sortWorldK putRowK
      rw [heap_grow_old _ _ (by simpa [putRow, mapBlock, Sort.ahead] using hlt)]
      simp [putRow, mapBlock, Sort.ahead, Array.getElem?_modify, hgb, onCells]
    refine ⟨⟨?_, .inr ⟨g, cap, _, rfl, hbase, hheap, r1, r2, by simp [putCells, r3], ?_⟩⟩, ?_⟩
    · rw [← hF, Array.length_toList, hsz]
    · rw [← hsz, take_putCells_id _ _ (by rw [hsz, r3]; exact hnc), hF]
    · unfold sortWorldK putRowK
      refine ⟨rfl, rfl, rfl, by simp [putRow, mapBlock, Sort.ahead], fun k hk hne => ?_⟩
      rw [heap_grow_old _ _ (by simpa [putRow, mapBlock, Sort.ahead] using hk)]
      have hgk : g ≠ k := fun e => hne (by rw [e])
      simp [putRow, mapBlock, Sort.ahead, Array.getElem?_modify, hgk]
theorem holdsK_own (hs : ∀ x, (enc x).length = size) (hp : 0 < size) {w : World} {base g cap n : Nat} {e : TypeId} {l : List α} (h : w.ownsRow base e size (.slice (some ⟨g, 0, none⟩) n cap) n (l.flatMap enc)) : HoldsK enc size w g 0 l.toArray := by
  have hF := flatK_flat enc size hs hp l
  intro j hj
  have hj' : j < (l.flatMap enc).length := by rw [← hF]; simpa using hj
  refine ⟨?_, by rw [Nat.zero_add]; exact h.frozenAt j⟩
  rw [Nat.zero_add, h.cellAt j (by rw [← h.1]; exact hj'), ← hF, Array.getElem?_toList]
  generalize flatK enc size l.toArray = F at *
  rw [getElem!_def, Array.getElem?_eq_getElem hj]
  rfl
end
theorem own_len {α : Type} {enc : α → List Value} {size : Nat} (hs : ∀ x, (enc x).length = size) (hp : 0 < size) {w : World} {base n : Nat} {e : TypeId} {v : Value} {l : List α} (h : w.ownsRow base e size v n (l.flatMap enc)) : l.length = n := by
  have h1 := h.1
  have h2 : ∀ l : List α, (l.flatMap enc).length = l.length * size := by
    intro l
    induction l with
    | nil => simp
    | cons x r ih => rw [List.flatMap_cons, List.length_append, hs, ih, List.length_cons, Nat.succ_mul]; omega
  rw [h2] at h1
  exact Nat.eq_of_mul_eq_mul_right hp h1
/-- the insertion sort, on lists -/
def insL {α : Type} [Inhabited α] (lt : α → α → Bool) (l : List α) : List α := (Sort.insertionSort lt l.toArray 0 l.length).toList
theorem insInner_size {α : Type} [Inhabited α] (lt : α → α → Bool) (a : Nat) : ∀ (j : Nat) (d : Array α), (insInner lt a j d).size = d.size
  | 0, _ => rfl
  | j + 1, d => by
    unfold insInner
    split
    · rw [insInner_size lt a j, size_swp]
    · rfl
theorem insOuter_size {α : Type} [Inhabited α] (lt : α → α → Bool) (a b : Nat) : ∀ (m i : Nat) (d : Array α), b - i ≤ m → (insOuter lt a b i d).size = d.size
  | 0, i, d, h => by unfold insOuter; rw [if_neg (by omega)]
  | m + 1, i, d, h => by
    unfold insOuter
    split
    · rw [insOuter_size lt a b m (i + 1) _ (by omega), insInner_size]
    · rfl
theorem insS_size {α : Type} [Inhabited α] (lt : α → α → Bool) (d : Array α) (a b : Nat) : (insertionSort lt d a b).size = d.size := insOuter_size lt a b _ _ d (Nat.le_refl _)
theorem insL_len {α : Type} [Inhabited α] (lt : α → α → Bool) (l : List α) : (insL lt l).length = l.length := by
  unfold insL; rw [Array.length_toList, insS_size]; rfl

theorem grow_of {w w' : World} (h : Below w.heap.size w w') (hd : w.drawn ≤ w'.drawn) : ∃ q os, w' = grow (w.drewN q) os := by
  refine ⟨w'.drawn - w.drawn, w'.heap.extract w.heap.size w'.heap.size, ?_⟩
  obtain ⟨h1, h2, h3, h4, h5⟩ := h
  obtain ⟨hp, tp, dr, os, ou⟩ := w
  obtain ⟨hp', tp', dr', os', ou'⟩ := w'
  simp only at h1 h2 h3 h4 h5 hd
  subst h1 h2 h3
  unfold grow World.drewN
  simp only [World.mk.injEq, and_true, true_and]
  refine ⟨?_, by omega⟩
  apply Array.ext_getElem?
  intro k
  rw [Array.getElem?_append]
  split
  · rename_i hk; exact h5 k hk
  · rename_i hk
    rw [Array.getElem?_extract]
    split
    · congr 1; omega
    · exact Array.getElem?_eq_none (by omega)
theorem insL_spec {α : Type} [Inhabited α] {lt : α → α → Bool} (hS : SWO lt) (l : List α) : (insL lt l).Perm l ∧ ∀ (i j : Nat) (x y : α), i < j → (insL lt l)[i]? = some x → (insL lt l)[j]? = some y → lt y x = false := by
  unfold insL
  have hP := insertionSort_holds (lt := lt) hS l.toArray 0 l.toArray.size (Nat.zero_le _) (Nat.le_refl _)
  rw [show l.toArray.size = l.length from rfl] at hP
  generalize Sort.insertionSort lt l.toArray 0 l.length = R at *
  obtain ⟨⟨p1, p2, p3⟩, hP2⟩ := hP
  have hz : R.size = l.length := by simpa using p1
  refine ⟨?_, fun i j x y hij hx hy => ?_⟩
  · have e1 : R.extract 0 l.length = R := by rw [← hz]; exact Array.extract_size
    have e2 : l.toArray.extract 0 l.length = l.toArray := by rw [show l.length = l.toArray.size from rfl]; exact Array.extract_size
    rw [e1, e2] at p3
    exact p3
  · rw [Array.getElem?_toList] at hx hy
    have hj : j < R.size := (Array.getElem?_eq_some_iff.1 hy).1
    have h := hP2 i j (Nat.zero_le _) hij (by omega)
    rw [getElem!_def, getElem!_def, hx, hy] at h
    exact h
end Go.Proofs.YtnkhdofcmanipaaGreatDoor
