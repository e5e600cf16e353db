/- Sorting a part of a row of the call's own: slices.SortStableFunc of all[lo:hi]. -/
import Derived.Test.YtjafcnblgeibpaaGreatDoorOrdC
namespace Go.Proofs.YtjafcnblgeibpaaGreatDoor
open Go.RowKit Go.Shelf Go.Lib Go.Sort
set_option linter.unusedVariables false

theorem mid_put (cur F : Array Value) (N off : Nat) (xs : List Value) (h : cur.toList.take N = xs) (h1 : off + F.size ≤ N) (h2 : N ≤ cur.size) : (putCells id off F cur).toList.take N = xs.take off ++ (F.toList ++ xs.drop (off + F.size)) := by
  have hx : ∀ j, j < N → cur[j]? = xs[j]? := fun j hj => by rw [← h, List.getElem?_take_of_lt hj, Array.getElem?_toList]
  have hxl : xs.length = N := by rw [← h, List.length_take, Array.length_toList]; omega
  have hsz : (putCells id off F cur).size = cur.size := by simp [putCells]
  apply List.ext_getElem?
  intro j
  by_cases hN : j < N
  · rw [List.getElem?_take_of_lt hN, Array.getElem?_toList]
    have hcj : j < cur.size := by omega
    unfold putCells
    rw [Array.getElem?_mapIdx]
    by_cases ha : j < off
    · rw [List.getElem?_append_left (by rw [List.length_take]; omega), List.getElem?_take_of_lt ha, ← hx j hN, Array.getElem?_eq_getElem hcj]
      simp; omega
    · rw [List.getElem?_append_right (by rw [List.length_take]; omega), List.length_take, show min off xs.length = off by omega]
      by_cases hb : j < off + F.size
      · rw [List.getElem?_append_left (by rw [Array.length_toList]; omega), Array.getElem?_toList, Array.getElem?_eq_getElem hcj, Array.getElem?_eq_getElem (show j - off < F.size by omega)]
        simp only [Option.map_some, id]
        rw [if_pos ⟨by omega, hb⟩, getElem!_pos F (j - off) (by omega)]
      · rw [List.getElem?_append_right (by rw [Array.length_toList]; omega), List.getElem?_drop, Array.length_toList, show off + F.size + (j - off - F.size) = j by omega, ← hx j hN, Array.getElem?_eq_getElem hcj]
        simp; omega
  · rw [List.getElem?_eq_none (by rw [List.length_take, Array.length_toList, hsz]; omega), List.getElem?_eq_none (by simp only [List.length_append, List.length_take, List.length_drop, Array.length_toList]; omega)]
theorem flat_mid {α : Type} {enc : α → List Value} {size : Nat} (hs : ∀ x, (enc x).length = size) (P S Q : List α) : ((P ++ (S ++ Q)).flatMap enc).take (P.length * size) = P.flatMap enc ∧ ((P ++ (S ++ Q)).flatMap enc).drop (P.length * size + S.length * size) = Q.flatMap enc := by
  have h1 : (P.flatMap enc).length = P.length * size := flat_len hs P
  have h2 : (S.flatMap enc).length = S.length * size := flat_len hs S
  rw [List.flatMap_append, List.flatMap_append]
  refine ⟨by rw [← h1, List.take_left], ?_⟩
  rw [← h1, ← h2, ← List.append_assoc, ← List.length_append, List.drop_left]
section
variable {α : Type} [Inhabited α] {enc : α → List Value} {size : Nat}
theorem own_sortedMid (hs : ∀ x, (enc x).length = size) (hp : 0 < size) {w : World} {base g cap n : Nat} {e : TypeId} {P S Q S' : List α} (h : w.ownsRow base e size (.slice (some ⟨g, 0, none⟩) n cap) n ((P ++ (S ++ Q)).flatMap enc)) (hl : S'.length = S.length) (m : Nat) (os : Array Obj) :
    (sortWorldK enc size w g (P.length * size) m S'.toArray os).ownsRow base e size (.slice (some ⟨g, 0, none⟩) n cap) n ((P ++ (S' ++ Q)).flatMap enc) ∧ w.grownBy (sortWorldK enc size w g (P.length * size) m S'.toArray os) (some g) := by
  rcases h.2 with ⟨h0, _⟩ | ⟨g', cap', cur, hv, hbase, hgb, r1, r2, r3, r4⟩
  · cases h0
  · injection hv with e1 _ e3
    injection e1 with e1
    injection e1 with e1 _ _
    subst e1
    subst e3
    have hF := flatK_flat enc size hs hp S'
    have hsz : (flatK enc size S'.toArray).size = S.length * size := by simp [hl]
    have hlt := lt_of_heap hgb
    have hnc : n * size ≤ cap * size := Nat.mul_le_mul_right _ r1
    have hln := h.1
    rw [flat_len hs, List.length_append, List.length_append, Nat.add_mul, Nat.add_mul] at hln
    have hheap : (sortWorldK enc size w g (P.length * size) m S'.toArray os).heap[g]? = some (.cells (putCells id (P.length * size) (flatK enc size S'.toArray) cur) e (0, 0)) := by
      unfold sortWorldK putRowK
      rw [heap_grow_old _ _ (by simpa [putRow, mapBlock, Sort.ahead] using hlt)]
      simp [putRow, mapBlock, Sort.ahead, Array.getElem?_modify, hgb, onCells]
    obtain ⟨t1, t2⟩ := flat_mid hs P S Q
    refine ⟨⟨?_, .inr ⟨g, cap, _, rfl, hbase, hheap, r1, r2, by simp [putCells, r3], ?_⟩⟩, ?_⟩
    · rw [flat_len hs, List.length_append, List.length_append, hl, Nat.add_mul, Nat.add_mul]; exact hln
    · rw [mid_put cur _ (n * size) (P.length * size) _ r4 (by rw [hsz]; omega) (by rw [r3]; exact hnc), hsz, t1, t2, hF, List.flatMap_append, List.flatMap_append]
    · unfold sortWorldK putRowK
      refine ⟨rfl, rfl, rfl, by simp [putRow, mapBlock, Sort.ahead], fun k hk hne => ?_⟩
      rw [heap_grow_old _ _ (by simpa [putRow, mapBlock, Sort.ahead] using hk)]
      have hgk : g ≠ k := fun e => hne (by rw [e])
      simp [putRow, mapBlock, Sort.ahead, Array.getElem?_modify, hgk]
theorem holdsK_mid (hs : ∀ x, (enc x).length = size) (hp : 0 < size) {w : World} {base g cap n : Nat} {e : TypeId} {P S Q : List α} (h : w.ownsRow base e size (.slice (some ⟨g, 0, none⟩) n cap) n ((P ++ (S ++ Q)).flatMap enc)) : HoldsK enc size w g (P.length * size) S.toArray := by
  have hF := flatK_flat enc size hs hp S
  have hP : (P.flatMap enc).length = P.length * size := flat_len hs P
  intro j hj
  have hj' : j < (S.flatMap enc).length := by rw [← hF]; simpa using hj
  have hln := h.1
  have hidx : P.length * size + j < n * size := by
    rw [← h.1, List.flatMap_append, List.flatMap_append, List.length_append, List.length_append, hP]; omega
  refine ⟨?_, h.frozenAt _⟩
  rw [h.cellAt _ hidx, List.flatMap_append, List.flatMap_append, ← hP, List.getElem?_append_right (by omega), Nat.add_sub_cancel_left, List.getElem?_append_left hj', ← hF, Array.getElem?_toList]
  generalize flatK enc size S.toArray = F at *
  rw [getElem!_def, Array.getElem?_eq_getElem hj]
  rfl
end
theorem sdInsM_c {α : Type} [Inhabited α] (enc : α → List Value) (hs : ∀ x, (enc x).length = 2) (h1 : ∀ x, ∀ v ∈ enc x, v.oneCell' = true) (cf : α → α → Int) (g : Nat) (cb : Array Value) (eg : ∀ args w, (callFunc g args).run Tryz.prog w = .ok (.enter g args) w) (blk off cap a b : Nat) (d : Array α) (w : World) (hC : CmpLays Tryz.prog g cb enc 2 cf blk off d.size w) (hH : HoldsK enc 2 w blk off d) (hblk : blk < w.heap.size) (hab : a ≤ b) (hb : b ≤ d.size) (hsz : d.size ≤ 1000) :
    Calls Tryz.prog 191 #[.slice (some ⟨blk, off, none⟩) d.size cap, .int .i64 a, .int .i64 b, .func (.func g) #[] cb] w fun e w' => e = .returned (.tuple #[]) ∧ ∃ n os, w' = sortWorldK enc 2 w blk off n (Sort.insertionSort (ltOf cf) d a b) os :=
  AnyQ.insertionSortCmpFunc Tryz.laysSE 2 Tryz.isAgg86 Tryz.sizeOf86 enc hs h1 cf g cb blk off cap a b d w eg hC hH hblk hab hb (by omega)
set_option maxHeartbeats 1600000 in
set_option maxRecDepth 100000 in
theorem sdStableM_c {α : Type} [Inhabited α] (enc : α → List Value) (hs : ∀ x, (enc x).length = 2) (h1 : ∀ x, ∀ v ∈ enc x, v.oneCell' = true) (cf : α → α → Int) (g : Nat) (cb : Array Value) (eg : ∀ args w, (callFunc g args).run Tryz.prog w = .ok (.enter g args) w) (blk off cap : Nat) (d : Array α) (w : World) (hC : CmpLays Tryz.prog g cb enc 2 cf blk off d.size w) (hH : HoldsK enc 2 w blk off d) (hblk : blk < w.heap.size) (hsz : d.size ≤ 19) :
    Calls Tryz.prog 156 #[.slice (some ⟨blk, off, none⟩) d.size cap, .int .i64 d.size, .func (.func g) #[] cb] w fun e w' => e = .returned (.tuple #[]) ∧ ∃ n os, w' = sortWorldK enc 2 w blk off n (Sort.insertionSort (ltOf cf) d 0 d.size) os := by
  have hI := Lib.hid (sdInsM_c enc hs h1 cf g cb eg blk off cap 0 d.size d w hC hH hblk (Nat.zero_le _) (Nat.le_refl _) (by omega))
  generalize Sort.insertionSort (ltOf cf) d 0 d.size = r at *
  clear hH hC eg h1 hs
  generalize d.size = n at *
  have h1 : ¬ (20 : Int) ≤ (n : Int) := by omega
  have h2 : ¬ (20 : Int) < (n : Int) := by omega
  go_enter Tryz.func156, Tryz.ntmps156
  go_wp2
  refine wp_loop_rounds 1 ?_
  rw [rounds_succ]
  go_wp2_with fail
  refine hI.out.mono ?_; rintro e w' ⟨rfl, q, os, rfl⟩
  go_wp2
  refine wp_loop_rounds 1 ?_
  rw [rounds_succ]
  go_wp2
  go_end0
  exact ⟨rfl, q, os, rfl⟩
/-- a part of a row of the call's own is sorted -/
theorem sdSortM_c {α : Type} [Inhabited α] (enc : α → List Value) (hs : ∀ x, (enc x).length = 2) (h1 : ∀ x, ∀ v ∈ enc x, v.oneCell' = true) (cf : α → α → Int) (g : Nat) (cb : Array Value) (eg : ∀ args w, (callFunc g args).run Tryz.prog w = .ok (.enter g args) w) (base b n cap c : Nat) (P S Q : List α) (w : World) (hC : CmpLays Tryz.prog g cb enc 2 cf b (P.length * 2) S.length w) (h : w.ownsRow base 86 2 (.slice (some ⟨b, 0, none⟩) n cap) n ((P ++ (S ++ Q)).flatMap enc)) (hn : S.length ≤ 19) :
    Calls Tryz.prog 90 #[.slice (some ⟨b, P.length * 2, none⟩) S.length c, .func (.func g) #[] cb] w fun e w' => e = .returned (.tuple #[]) ∧ w'.ownsRow base 86 2 (.slice (some ⟨b, 0, none⟩) n cap) n ((P ++ (insL (ltOf cf) S ++ Q)).flatMap enc) ∧ w.grownBy w' (some b) := by
  have hlt := (h.lt b rfl).2
  have hH := holdsK_mid hs (by omega) h
  have hS := sdStableM_c enc hs h1 cf g cb eg b (P.length * 2) c S.toArray w (by simpa using hC) hH hlt (by simpa using hn)
  have hR := own_sortedMid hs (by omega) h (S' := insL (ltOf cf) S) (by rw [insL_len])
  have e3 : Sort.insertionSort (ltOf cf) S.toArray 0 S.toArray.size = (insL (ltOf cf) S).toArray := by unfold insL; simp
  rw [e3] at hS
  simp only [List.size_toArray] at hS
  have hS' := Lib.hid hS
  clear hS hH hC eg
  have hR' := Lib.hid hR
  clear hR e3 h
  generalize insL (ltOf cf) S = L' at *
  generalize P.length * 2 = o at *
  generalize S.length = q at *
  go_enter Tryz.func90, Tryz.ntmps90
  go_wp2_with fail
  refine hS'.out.mono ?_; rintro e w' ⟨rfl, q, os, rfl⟩
  go_wp2
  go_end0
  exact ⟨rfl, hR'.out q os⟩
end Go.Proofs.YtjafcnblgeibpaaGreatDoor
