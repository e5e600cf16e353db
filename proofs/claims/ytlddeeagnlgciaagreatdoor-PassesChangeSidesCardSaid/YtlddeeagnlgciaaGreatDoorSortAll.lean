import Derived.Test.YtlddeeagnlgciaaGreatDoorSortG
import Derived.Test.YtlddeeagnlgciaaGreatDoorBestR
import Derived.Sort.LotA
/- slices.SortStableFunc of gaps by how far behind, at most 19 of them: a permutation, ascending. -/
namespace Go.Proofs.YtlddeeagnlgciaaGreatDoor
open Go.RowKit Go.Shelf Go.Lib Go.Sort
set_option linter.unusedVariables false

section
variable {α : Type} [Inhabited α] (enc : α → List Value) (size : Nat)
theorem flatK_flat (hs : ∀ x, (enc x).length = size) (hp : 0 < size) (l : List α) : (flatK enc size l.toArray).toList = l.flatMap enc := by
  have hlen : ∀ l : List α, (l.flatMap enc).length = l.length * size := by
    intro l
    induction l with
    | nil => simp
    | cons x r ih => rw [List.flatMap_cons, List.length_append, hs, ih, List.length_cons, Nat.succ_mul]; omega
  apply List.ext_getElem?
  intro t
  by_cases ht : t < l.length * size
  · have hk : t / size < l.length := by rw [Nat.div_lt_iff_lt_mul hp]; exact ht
    have hq : t % size < size := Nat.mod_lt _ hp
    have he : t = t / size * size + t % size := by rw [Nat.mul_comm]; exact (Nat.div_add_mod t size).symm
    have h1 : (flatK enc size l.toArray).toList[t]? = some ((enc l.toArray[t / size]!)[t % size]!) := by
      rw [Array.getElem?_toList]
      unfold flatK
      rw [Array.getElem?_map, Array.getElem?_range, if_pos (by simpa using ht)]
      rfl
    rw [h1]
    have hx : l[t / size]? = some (l.toArray[t / size]!) := by simp [hk]
    have hv : (enc (l.toArray[t / size]!))[t % size]? = some ((enc l.toArray[t / size]!)[t % size]!) := by
      have : t % size < (enc (l.toArray[t / size]!)).length := by rw [hs]; exact hq
      generalize enc (l.toArray[t / size]!) = E at *
      rw [getElem!_def, List.getElem?_eq_getElem this]
    have h2 := flat_at hs l (t / size) _ (t % size) _ hx hv
    rw [← he] at h2
    exact h2.symm
  · rw [List.getElem?_eq_none (by simp; omega), List.getElem?_eq_none (by rw [hlen]; omega)]
theorem take_putCells_id (cur : Array Value) (F : Array Value) (h : F.size ≤ cur.size) : (putCells id 0 F cur).toList.take F.size = F.toList := by
  apply List.ext_getElem?
  intro j
  by_cases hj : j < F.size
  · rw [List.getElem?_take_of_lt hj, Array.getElem?_toList]
    simp [putCells, hj, show j < cur.size by omega]
  · rw [List.getElem?_take_eq_none (by omega), List.getElem?_eq_none (by simp; omega)]
theorem own_sortedK (hs : ∀ x, (enc x).length = size) (hp : 0 < size) {w : World} {base g cap n : Nat} {e : TypeId} {l l' : List α} (h : w.ownsRow base e size (.slice (some ⟨g, 0, none⟩) n cap) n (l.flatMap enc)) (hl : l'.length = n) (m : Nat) (os : Array Obj) :
    (sortWorldK enc size w g 0 m l'.toArray os).ownsRow base e size (.slice (some ⟨g, 0, none⟩) n cap) n (l'.flatMap enc) ∧ w.grownBy (sortWorldK enc size w g 0 m l'.toArray os) (some g) := by
  rcases h.2 with ⟨h0, _⟩ | ⟨g', cap', cur, hv, hbase, hgb, r1, r2, r3, r4⟩
  · cases h0
  · injection hv with e1 _ e3
    injection e1 with e1
    injection e1 with e1 _ _
    subst e1
    subst e3
    have hF := flatK_flat enc size hs hp l'
    have hsz : (flatK enc size l'.toArray).size = n * size := by simp [hl]
    have hlt := lt_of_heap hgb
    have hnc : n * size ≤ cap * size := Nat.mul_le_mul_right _ r1
    have hheap : (sortWorldK enc size w g 0 m l'.toArray os).heap[g]? = some (.cells (putCells id 0 (flatK enc size l'.toArray) cur) e (0, 0)) := by
      unfold sortWorldK putRowK
      rw [heap_grow_old _ _ (by simpa [putRow, mapBlock, Sort.ahead] using hlt)]
      simp [putRow, mapBlock, Sort.ahead, Array.getElem?_modify, hgb, onCells]
    refine ⟨⟨?_, .inr ⟨g, cap, _, rfl, hbase, hheap, r1, r2, by simp [putCells, r3], ?_⟩⟩, ?_⟩
    · rw [← hF, Array.length_toList, hsz]
    · rw [← hsz, take_putCells_id _ _ (by rw [hsz, r3]; exact hnc), hF]
    · unfold sortWorldK putRowK
      refine ⟨rfl, rfl, rfl, by simp [putRow, mapBlock, Sort.ahead], fun k hk hne => ?_⟩
      rw [heap_grow_old _ _ (by simpa [putRow, mapBlock, Sort.ahead] using hk)]
      have hgk : g ≠ k := fun e => hne (by rw [e])
      simp [putRow, mapBlock, Sort.ahead, Array.getElem?_modify, hgk]
theorem holdsK_own (hs : ∀ x, (enc x).length = size) (hp : 0 < size) {w : World} {base g cap n : Nat} {e : TypeId} {l : List α} (h : w.ownsRow base e size (.slice (some ⟨g, 0, none⟩) n cap) n (l.flatMap enc)) : HoldsK enc size w g 0 l.toArray := by
  have hF := flatK_flat enc size hs hp l
  intro j hj
  have hj' : j < (l.flatMap enc).length := by rw [← hF]; simpa using hj
  refine ⟨?_, by rw [Nat.zero_add]; exact h.frozenAt j⟩
  rw [Nat.zero_add, h.cellAt j (by rw [← h.1]; exact hj'), ← hF, Array.getElem?_toList]
  generalize flatK enc size l.toArray = F at *
  rw [getElem!_def, Array.getElem?_eq_getElem hj]
  rfl
end

abbrev GpB := { g : Gp // -1000000 ≤ g.behind ∧ g.behind ≤ 1000000 }
instance : Inhabited GpB := ⟨⟨⟨⟨#[]⟩, 0, 0⟩, by decide, by decide⟩⟩
def gpB (x : GpB) : List Value := gpE x.1
def gapCf (x y : GpB) : Int := x.1.behind - y.1.behind
theorem gapSWO : SWO (ltOf gapCf) := by
  refine ⟨fun x => ?_, fun x y z h1 h2 => ?_, fun x y z h1 h2 => ?_⟩
  · unfold ltOf gapCf; simp
  · unfold ltOf gapCf at *; simp at *; omega
  · unfold ltOf gapCf at *; simp at *; omega
theorem gapCmp_c (x y : GpB) (W : World) : Calls Tryz.prog 83 #[.agg #[.string x.1.who, .int .i64 x.1.length, .int .i64 x.1.behind], .agg #[.string y.1.who, .int .i64 y.1.length, .int .i64 y.1.behind]] W fun e w' => e = .returned (.int .i64 (gapCf x y)) ∧ ∃ q os', w' = grow (W.drewN q) os' := by
  obtain ⟨⟨a, b, c⟩, hc0, hc1⟩ := x
  obtain ⟨⟨a', b', c'⟩, hd0, hd1⟩ := y
  unfold gapCf
  have k0 : -1000000 ≤ c := hc0
  have k1 : c ≤ 1000000 := hc1
  have k2 : -1000000 ≤ c' := hd0
  have k3 : c' ≤ 1000000 := hd1
  dsimp only at *
  have hw : IntKind.i64.wrap (c - c') = c - c' := IntWalk.i64_in _ (by omega)
  go_enter Tryz.func83, Tryz.ntmps83
  go_wp2
  go_ret
  exact ⟨rfl, 0, _, by rw [alloc_eq_grow, alloc_eq_grow, grow_grow]; rfl⟩
theorem gapIns_c (blk cap a b : Nat) (d : Array GpB) (w : World) (hH : HoldsK gpB 3 w blk 0 d) (hblk : blk < w.heap.size) (hab : a ≤ b) (hb : b ≤ d.size) (hsz : d.size ≤ 1000) :
    Calls Tryz.prog 193 #[.slice (some ⟨blk, 0, none⟩) d.size cap, .int .i64 a, .int .i64 b, .func (.func 83) #[] #[]] w fun e w' => e = .returned (.tuple #[]) ∧ ∃ n os, w' = sortWorldK gpB 3 w blk 0 n (Sort.insertionSort (ltOf gapCf) d a b) os := by
  have eg : ∀ args w, (callFunc 83 args).run Tryz.prog w = .ok (.enter 83 args) w := enters_of Tryz.func83 (by kernel_rfl) rfl
  exact AnyQ.insertionSortCmpFunc Tryz.laysSG 3 Tryz.isAgg51 Tryz.sizeOf51 gpB (fun _ => rfl) (fun x v hv => by simp [gpB, gpE] at hv; rcases hv with rfl | rfl | rfl <;> rfl) gapCf 83 #[] blk 0 cap a b d w eg (fun _ _ _ _ x y => gapCmp_c x y _) hH hblk hab hb (by omega)
set_option maxHeartbeats 1600000 in
set_option maxRecDepth 100000 in
theorem gapStable_c (blk cap : Nat) (d : Array GpB) (w : World) (hH : HoldsK gpB 3 w blk 0 d) (hblk : blk < w.heap.size) (hsz : d.size ≤ 19) :
    Calls Tryz.prog 150 #[.slice (some ⟨blk, 0, none⟩) d.size cap, .int .i64 d.size, .func (.func 83) #[] #[]] w fun e w' => e = .returned (.tuple #[]) ∧ ∃ n os, w' = sortWorldK gpB 3 w blk 0 n (Sort.insertionSort (ltOf gapCf) d 0 d.size) os := by
  have hI := Lib.hid (gapIns_c blk cap 0 d.size d w hH hblk (Nat.zero_le _) (Nat.le_refl _) (by omega))
  generalize Sort.insertionSort (ltOf gapCf) d 0 d.size = r at *
  clear hH
  generalize d.size = n at *
  have h1 : ¬ (20 : Int) ≤ (n : Int) := by omega
  have h2 : ¬ (20 : Int) < (n : Int) := by omega
  go_enter Tryz.func150, Tryz.ntmps150
  go_wp2
  refine wp_loop_rounds 1 ?_
  rw [rounds_succ]
  go_wp2_with fail
  refine hI.out.mono ?_; rintro e w' ⟨rfl, q, os, rfl⟩
  go_wp2
  refine wp_loop_rounds 1 ?_
  rw [rounds_succ]
  go_wp2
  go_end0
  exact ⟨rfl, q, os, rfl⟩
theorem gapSort_c (base b n c : Nat) (l : List GpB) (w : World) (h : w.ownsRow base 51 3 (.slice (some ⟨b, 0, none⟩) n c) n (l.flatMap gpB)) (hn : n ≤ 19) :
    Calls Tryz.prog 82 #[.slice (some ⟨b, 0, none⟩) n c, .func (.func 83) #[] #[]] w fun e w' => e = .returned (.tuple #[]) ∧ ∃ l' : List GpB, l'.Perm l ∧ (∀ (i j : Nat) (x y : GpB), i < j → l'[i]? = some x → l'[j]? = some y → x.1.behind ≤ y.1.behind) ∧ w'.ownsRow base 51 3 (.slice (some ⟨b, 0, none⟩) n c) n (l'.flatMap gpB) ∧ w.grownBy w' (some b) := by
  have hlt := (h.lt b rfl).2
  have hlen : l.length = n := by
    have h1 := h.1
    have h2 : ∀ l : List GpB, (l.flatMap gpB).length = l.length * 3 := by
      intro l
      induction l with
      | nil => rfl
      | cons x r ih => rw [List.flatMap_cons, List.length_append, ih, List.length_cons]; show 3 + _ = _; omega
    rw [h2] at h1; omega
  have hH := holdsK_own gpB 3 (fun _ => rfl) (by omega) h
  have hS := gapStable_c b c l.toArray w hH hlt (by simp; omega)
  have hP := insertionSort_holds (lt := ltOf gapCf) gapSWO l.toArray 0 l.toArray.size (Nat.zero_le _) (Nat.le_refl _)
  generalize hR : Sort.insertionSort (ltOf gapCf) l.toArray 0 l.toArray.size = R at *
  obtain ⟨⟨p1, p2, p3⟩, hP2⟩ := hP
  have hperm : R.toList.Perm l := by
    have e1 : R.extract 0 l.toArray.size = R := by rw [← p1]; exact Array.extract_size
    have e2 : l.toArray.extract 0 l.toArray.size = l.toArray := Array.extract_size
    rw [e1, e2] at p3
    exact p3
  have hRl : R.toList.length = n := by rw [hperm.length_eq]; exact hlen
  have hS' := Lib.hid (show Calls Tryz.prog 150 #[.slice (some ⟨b, 0, none⟩) n c, .int .i64 n, .func (.func 83) #[] #[]] w fun e w' => e = .returned (.tuple #[]) ∧ ∃ m os, w' = sortWorldK gpB 3 w b 0 m R os by
    have e : l.toArray.size = n := by simpa using hlen
    rw [e] at hS
    exact hS)
  clear hS hH
  go_enter Tryz.func82, Tryz.ntmps82
  go_wp2_with fail
  refine hS'.out.mono ?_; rintro e w' ⟨rfl, m, os, rfl⟩
  go_wp2
  go_end0
  have hO := own_sortedK gpB 3 (fun _ => rfl) (by omega) h hRl m os
  refine ⟨rfl, R.toList, hperm, fun i j x y hij hx hy => ?_, hO.1, hO.2⟩
  have hj : j < R.size := by have := lt_of_at hy; simpa using this
  have h1 := hP2 i j (Nat.zero_le _) hij (by rw [← p1]; exact hj)
  have ex : R[i]! = x := by
    rw [Array.getElem?_toList] at hx
    rw [getElem!_def, hx]
  have ey : R[j]! = y := by
    rw [Array.getElem?_toList] at hy
    rw [getElem!_def, hy]
  rw [ex, ey] at h1
  unfold ltOf gapCf at h1
  simp at h1
  omega
end Go.Proofs.YtlddeeagnlgciaaGreatDoor

/- slices.SortStableFunc and slices.SortFunc of few structs: the insertion sort; over any comparison. Printed by wip/gensort.py. -/
namespace Go.Proofs.YtlddeeagnlgciaaGreatDoor
open Go.RowKit Go.Shelf Go.Lib Go.Sort
set_option linter.unusedVariables false
theorem own_len {α : Type} {enc : α → List Value} {size : Nat} (hs : ∀ x, (enc x).length = size) (hp : 0 < size) {w : World} {base n : Nat} {e : TypeId} {v : Value} {l : List α} (h : w.ownsRow base e size v n (l.flatMap enc)) : l.length = n := by
  have h1 := h.1
  have h2 : ∀ l : List α, (l.flatMap enc).length = l.length * size := by
    intro l
    induction l with
    | nil => simp
    | cons x r ih => rw [List.flatMap_cons, List.length_append, hs, ih, List.length_cons, Nat.succ_mul]; omega
  rw [h2] at h1
  exact Nat.eq_of_mul_eq_mul_right hp h1
/-- the insertion sort, on lists -/
def insL {α : Type} [Inhabited α] (lt : α → α → Bool) (l : List α) : List α := (Sort.insertionSort lt l.toArray 0 l.length).toList
theorem insInner_size {α : Type} [Inhabited α] (lt : α → α → Bool) (a : Nat) : ∀ (j : Nat) (d : Array α), (insInner lt a j d).size = d.size
  | 0, _ => rfl
  | j + 1, d => by
    unfold insInner
    split
    · rw [insInner_size lt a j, size_swp]
    · rfl
theorem insOuter_size {α : Type} [Inhabited α] (lt : α → α → Bool) (a b : Nat) : ∀ (m i : Nat) (d : Array α), b - i ≤ m → (insOuter lt a b i d).size = d.size
  | 0, i, d, h => by unfold insOuter; rw [if_neg (by omega)]
  | m + 1, i, d, h => by
    unfold insOuter
    split
    · rw [insOuter_size lt a b m (i + 1) _ (by omega), insInner_size]
    · rfl
theorem insS_size {α : Type} [Inhabited α] (lt : α → α → Bool) (d : Array α) (a b : Nat) : (insertionSort lt d a b).size = d.size := insOuter_size lt a b _ _ d (Nat.le_refl _)
theorem insL_len {α : Type} [Inhabited α] (lt : α → α → Bool) (l : List α) : (insL lt l).length = l.length := by
  unfold insL; rw [Array.length_toList, insS_size]; rfl

theorem gpIns_c {α : Type} [Inhabited α] (enc : α → List Value) (hs : ∀ x, (enc x).length = 3) (h1 : ∀ x, ∀ v ∈ enc x, v.oneCell' = true) (cf : α → α → Int) (g : Nat) (cb : Array Value) (eg : ∀ args w, (callFunc g args).run Tryz.prog w = .ok (.enter g args) w) (blk cap a b : Nat) (d : Array α) (w : World) (hC : CmpLays Tryz.prog g cb enc 3 cf blk 0 d.size w) (hH : HoldsK enc 3 w blk 0 d) (hblk : blk < w.heap.size) (hab : a ≤ b) (hb : b ≤ d.size) (hsz : d.size ≤ 1000) :
    Calls Tryz.prog 193 #[.slice (some ⟨blk, 0, none⟩) d.size cap, .int .i64 a, .int .i64 b, .func (.func g) #[] cb] w fun e w' => e = .returned (.tuple #[]) ∧ ∃ n os, w' = sortWorldK enc 3 w blk 0 n (Sort.insertionSort (ltOf cf) d a b) os :=
  AnyQ.insertionSortCmpFunc Tryz.laysSG 3 Tryz.isAgg51 Tryz.sizeOf51 enc hs h1 cf g cb blk 0 cap a b d w eg hC hH hblk hab hb (by omega)
theorem gpIns0_c (p : Option Addr) (cap : Nat) (fv : Value) (w : World) :
    Calls Tryz.prog 193 #[.slice p 0 cap, .int .i64 0, .int .i64 0, fv] w fun e w' => e = .returned (.tuple #[]) ∧ w' = w := by
  go_enter Tryz.func193, Tryz.ntmps193
  go_wp2
  refine wp_loop_rounds 1 ?_
  rw [rounds_succ]
  go_wp2
  go_end0
  exact ⟨rfl, rfl⟩
set_option maxHeartbeats 1600000 in
set_option maxRecDepth 100000 in
theorem gpStable_c {α : Type} [Inhabited α] (enc : α → List Value) (hs : ∀ x, (enc x).length = 3) (h1 : ∀ x, ∀ v ∈ enc x, v.oneCell' = true) (cf : α → α → Int) (g : Nat) (cb : Array Value) (eg : ∀ args w, (callFunc g args).run Tryz.prog w = .ok (.enter g args) w) (blk cap : Nat) (d : Array α) (w : World) (hC : CmpLays Tryz.prog g cb enc 3 cf blk 0 d.size w) (hH : HoldsK enc 3 w blk 0 d) (hblk : blk < w.heap.size) (hsz : d.size ≤ 19) :
    Calls Tryz.prog 150 #[.slice (some ⟨blk, 0, none⟩) d.size cap, .int .i64 d.size, .func (.func g) #[] cb] w fun e w' => e = .returned (.tuple #[]) ∧ ∃ n os, w' = sortWorldK enc 3 w blk 0 n (Sort.insertionSort (ltOf cf) d 0 d.size) os := by
  have hI := Lib.hid (gpIns_c enc hs h1 cf g cb eg blk cap 0 d.size d w hC hH hblk (Nat.zero_le _) (Nat.le_refl _) (by omega))
  generalize Sort.insertionSort (ltOf cf) d 0 d.size = r at *
  clear hH hC eg h1 hs
  generalize d.size = n at *
  have h1 : ¬ (20 : Int) ≤ (n : Int) := by omega
  have h2 : ¬ (20 : Int) < (n : Int) := by omega
  go_enter Tryz.func150, Tryz.ntmps150
  go_wp2
  refine wp_loop_rounds 1 ?_
  rw [rounds_succ]
  go_wp2_with fail
  refine hI.out.mono ?_; rintro e w' ⟨rfl, q, os, rfl⟩
  go_wp2
  refine wp_loop_rounds 1 ?_
  rw [rounds_succ]
  go_wp2
  go_end0
  exact ⟨rfl, q, os, rfl⟩
/-- at no element nothing turns -/
theorem gpSort0_c (p : Option Addr) (cap : Nat) (fv : Value) (w : World) :
    Calls Tryz.prog 82 #[.slice p 0 cap, fv] w fun e w' => e = .returned (.tuple #[]) ∧ w' = w := by
  have hS : Calls Tryz.prog 150 #[.slice p 0 cap, .int .i64 0, fv] w fun e w' => e = .returned (.tuple #[]) ∧ w' = w := by
    have hI := Lib.hid (gpIns0_c p cap fv w)
    go_enter Tryz.func150, Tryz.ntmps150
    go_wp2
    refine wp_loop_rounds 1 ?_
    rw [rounds_succ]
    go_wp2_with fail
    refine hI.out.mono ?_; rintro e w' ⟨rfl, rfl⟩
    go_wp2
    refine wp_loop_rounds 1 ?_
    rw [rounds_succ]
    go_wp2
    go_end0
    exact ⟨rfl, rfl⟩
  go_enter Tryz.func82, Tryz.ntmps82
  go_wp2_with fail
  refine hS.mono ?_; rintro e w' ⟨rfl, rfl⟩
  go_wp2
  go_end0
  exact ⟨rfl, rfl⟩
/-- the call's own row is the insertion sort of what it was -/
theorem gpSort_c {α : Type} [Inhabited α] (enc : α → List Value) (hs : ∀ x, (enc x).length = 3) (h1 : ∀ x, ∀ v ∈ enc x, v.oneCell' = true) (cf : α → α → Int) (g : Nat) (cb : Array Value) (eg : ∀ args w, (callFunc g args).run Tryz.prog w = .ok (.enter g args) w) (base b n c : Nat) (l : List α) (w : World) (hC : CmpLays Tryz.prog g cb enc 3 cf b 0 n w) (h : w.ownsRow base 51 3 (.slice (some ⟨b, 0, none⟩) n c) n (l.flatMap enc)) (hn : n ≤ 19) :
    Calls Tryz.prog 82 #[.slice (some ⟨b, 0, none⟩) n c, .func (.func g) #[] cb] w fun e w' => e = .returned (.tuple #[]) ∧ w'.ownsRow base 51 3 (.slice (some ⟨b, 0, none⟩) n c) n ((insL (ltOf cf) l).flatMap enc) ∧ w.grownBy w' (some b) := by
  have hlt := (h.lt b rfl).2
  have hlen : l.length = n := own_len hs (by omega) h
  have hH := holdsK_own enc 3 hs (by omega) h
  have hS := gpStable_c enc hs h1 cf g cb eg b c l.toArray w (by simpa [hlen] using hC) hH hlt (by simp; omega)
  have hR := own_sortedK enc 3 hs (by omega) h (l' := insL (ltOf cf) l) (by rw [insL_len, hlen])
  have e3 : Sort.insertionSort (ltOf cf) l.toArray 0 l.toArray.size = (insL (ltOf cf) l).toArray := by unfold insL; simp
  rw [e3] at hS
  simp only [List.size_toArray, hlen] at hS
  have hS' := Lib.hid hS
  clear hS hH hC eg
  have hR' := Lib.hid hR
  clear hR e3
  generalize insL (ltOf cf) l = L' at *
  go_enter Tryz.func82, Tryz.ntmps82
  go_wp2_with fail
  refine hS'.out.mono ?_; rintro e w' ⟨rfl, q, os, rfl⟩
  go_wp2
  go_end0
  exact ⟨rfl, hR'.out q os⟩
theorem whIns_c {α : Type} [Inhabited α] (enc : α → List Value) (hs : ∀ x, (enc x).length = 3) (h1 : ∀ x, ∀ v ∈ enc x, v.oneCell' = true) (cf : α → α → Int) (g : Nat) (cb : Array Value) (eg : ∀ args w, (callFunc g args).run Tryz.prog w = .ok (.enter g args) w) (blk cap a b : Nat) (d : Array α) (w : World) (hC : CmpLays Tryz.prog g cb enc 3 cf blk 0 d.size w) (hH : HoldsK enc 3 w blk 0 d) (hblk : blk < w.heap.size) (hab : a ≤ b) (hb : b ≤ d.size) (hsz : d.size ≤ 1000) :
    Calls Tryz.prog 246 #[.slice (some ⟨blk, 0, none⟩) d.size cap, .int .i64 a, .int .i64 b, .func (.func g) #[] cb] w fun e w' => e = .returned (.tuple #[]) ∧ ∃ n os, w' = sortWorldK enc 3 w blk 0 n (Sort.insertionSort (ltOf cf) d a b) os :=
  AnyQ.insertionSortCmpFunc Tryz.laysSW 3 Tryz.isAgg134 Tryz.sizeOf134 enc hs h1 cf g cb blk 0 cap a b d w eg hC hH hblk hab hb (by omega)
theorem whIns0_c (p : Option Addr) (cap : Nat) (fv : Value) (w : World) :
    Calls Tryz.prog 246 #[.slice p 0 cap, .int .i64 0, .int .i64 0, fv] w fun e w' => e = .returned (.tuple #[]) ∧ w' = w := by
  go_enter Tryz.func246, Tryz.ntmps246
  go_wp2
  refine wp_loop_rounds 1 ?_
  rw [rounds_succ]
  go_wp2
  go_end0
  exact ⟨rfl, rfl⟩
set_option maxHeartbeats 1600000 in
set_option maxRecDepth 100000 in
theorem whStable_c {α : Type} [Inhabited α] (enc : α → List Value) (hs : ∀ x, (enc x).length = 3) (h1 : ∀ x, ∀ v ∈ enc x, v.oneCell' = true) (cf : α → α → Int) (g : Nat) (cb : Array Value) (eg : ∀ args w, (callFunc g args).run Tryz.prog w = .ok (.enter g args) w) (blk cap : Nat) (d : Array α) (w : World) (hC : CmpLays Tryz.prog g cb enc 3 cf blk 0 d.size w) (hH : HoldsK enc 3 w blk 0 d) (hblk : blk < w.heap.size) (hsz : d.size ≤ 19) :
    Calls Tryz.prog 196 #[.slice (some ⟨blk, 0, none⟩) d.size cap, .int .i64 d.size, .func (.func g) #[] cb] w fun e w' => e = .returned (.tuple #[]) ∧ ∃ n os, w' = sortWorldK enc 3 w blk 0 n (Sort.insertionSort (ltOf cf) d 0 d.size) os := by
  have hI := Lib.hid (whIns_c enc hs h1 cf g cb eg blk cap 0 d.size d w hC hH hblk (Nat.zero_le _) (Nat.le_refl _) (by omega))
  generalize Sort.insertionSort (ltOf cf) d 0 d.size = r at *
  clear hH hC eg h1 hs
  generalize d.size = n at *
  have h1 : ¬ (20 : Int) ≤ (n : Int) := by omega
  have h2 : ¬ (20 : Int) < (n : Int) := by omega
  go_enter Tryz.func196, Tryz.ntmps196
  go_wp2
  refine wp_loop_rounds 1 ?_
  rw [rounds_succ]
  go_wp2_with fail
  refine hI.out.mono ?_; rintro e w' ⟨rfl, q, os, rfl⟩
  go_wp2
  refine wp_loop_rounds 1 ?_
  rw [rounds_succ]
  go_wp2
  go_end0
  exact ⟨rfl, q, os, rfl⟩
/-- at no element nothing turns -/
theorem whSort0_c (p : Option Addr) (cap : Nat) (fv : Value) (w : World) :
    Calls Tryz.prog 152 #[.slice p 0 cap, fv] w fun e w' => e = .returned (.tuple #[]) ∧ w' = w := by
  have hS : Calls Tryz.prog 196 #[.slice p 0 cap, .int .i64 0, fv] w fun e w' => e = .returned (.tuple #[]) ∧ w' = w := by
    have hI := Lib.hid (whIns0_c p cap fv w)
    go_enter Tryz.func196, Tryz.ntmps196
    go_wp2
    refine wp_loop_rounds 1 ?_
    rw [rounds_succ]
    go_wp2_with fail
    refine hI.out.mono ?_; rintro e w' ⟨rfl, rfl⟩
    go_wp2
    refine wp_loop_rounds 1 ?_
    rw [rounds_succ]
    go_wp2
    go_end0
    exact ⟨rfl, rfl⟩
  go_enter Tryz.func152, Tryz.ntmps152
  go_wp2_with fail
  refine hS.mono ?_; rintro e w' ⟨rfl, rfl⟩
  go_wp2
  go_end0
  exact ⟨rfl, rfl⟩
/-- the call's own row is the insertion sort of what it was -/
theorem whSort_c {α : Type} [Inhabited α] (enc : α → List Value) (hs : ∀ x, (enc x).length = 3) (h1 : ∀ x, ∀ v ∈ enc x, v.oneCell' = true) (cf : α → α → Int) (g : Nat) (cb : Array Value) (eg : ∀ args w, (callFunc g args).run Tryz.prog w = .ok (.enter g args) w) (base b n c : Nat) (l : List α) (w : World) (hC : CmpLays Tryz.prog g cb enc 3 cf b 0 n w) (h : w.ownsRow base 134 3 (.slice (some ⟨b, 0, none⟩) n c) n (l.flatMap enc)) (hn : n ≤ 19) :
    Calls Tryz.prog 152 #[.slice (some ⟨b, 0, none⟩) n c, .func (.func g) #[] cb] w fun e w' => e = .returned (.tuple #[]) ∧ w'.ownsRow base 134 3 (.slice (some ⟨b, 0, none⟩) n c) n ((insL (ltOf cf) l).flatMap enc) ∧ w.grownBy w' (some b) := by
  have hlt := (h.lt b rfl).2
  have hlen : l.length = n := own_len hs (by omega) h
  have hH := holdsK_own enc 3 hs (by omega) h
  have hS := whStable_c enc hs h1 cf g cb eg b c l.toArray w (by simpa [hlen] using hC) hH hlt (by simp; omega)
  have hR := own_sortedK enc 3 hs (by omega) h (l' := insL (ltOf cf) l) (by rw [insL_len, hlen])
  have e3 : Sort.insertionSort (ltOf cf) l.toArray 0 l.toArray.size = (insL (ltOf cf) l).toArray := by unfold insL; simp
  rw [e3] at hS
  simp only [List.size_toArray, hlen] at hS
  have hS' := Lib.hid hS
  clear hS hH hC eg
  have hR' := Lib.hid hR
  clear hR e3
  generalize insL (ltOf cf) l = L' at *
  go_enter Tryz.func152, Tryz.ntmps152
  go_wp2_with fail
  refine hS'.out.mono ?_; rintro e w' ⟨rfl, q, os, rfl⟩
  go_wp2
  go_end0
  exact ⟨rfl, hR'.out q os⟩

end Go.Proofs.YtlddeeagnlgciaaGreatDoor
