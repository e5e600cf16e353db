import Derived.Test.YtklggnglaeagpaaGreatDoorApp2
import Derived.Test.YtklggnglaeagpaaGreatDoorP23
import Derived.Laws.AppendOwnNone
import Derived.Lib.AppendZeros
import Derived.Test.YtklggnglaeagpaaGreatDoorSortR
import Derived.Test.YtklggnglaeagpaaGreatDoorSeedM
import Derived.Lib.SliceRun
/- slices.Concat of two rows of seeds; judge.Together of two heats. -/
namespace Go.Proofs.YtklggnglaeagpaaGreatDoor
open Go.RowKit
set_option linter.unusedVariables false

section
variable {P : Program} {w : World}
/-- `append(nil, make([]T, n)...)` -/
theorem wpList_zerosS {ops : Array Oper} {rest : List Oper} {o : Oper} {a : Act} {Q : Exit → Act → World → Prop} (hgd : o.guard = none) (s x : Operand) (t tn : TypeId)
    (ho : o.op = .call { callee := .builtin .append, args := #[s, x], argTypes := #[t, tn] })
    {e : TypeId} {z : Value} {size bytes : Nat} (ht : P.underlying t = some (.slice e)) (htn : P.underlying tn = some (.int .i64)) (hinfo : (P.info? e).map (fun i => (i.zero, i.size, i.bytes)) = some (some z, size, bytes))
    (n : Nat) (h0 : 0 < n) (hsz : 0 < size) (hn : n ≤ 1000000) (hby : bytes ≤ 1024) (hs : a.eval s = .slice none 0 0) (hx : a.eval x = .int .i64 n)
    (h : ∀ cap, n ≤ cap → cap ≤ maxLen → wpList P ops Q rest (a.put o.dst (.slice (some ⟨w.heap.size, 0, none⟩) n cap)) (w.drew.alloc (.cells (Builtin.zeroCells z.cells n ++ Builtin.zeroCells z.cells (cap - n)) e))) :
    wpList P ops Q (o :: rest) a w := by
  obtain ⟨i, hi, hz0, hz1, hz2⟩ := info_parts hinfo
  have hm : n * bytes ≤ 1000000 * 1024 := Nat.mul_le_mul hn hby
  refine wpList_plain hgd fun K hK => ?_
  have hr := Lib.run_append_nil_zeros (P := P) w t tn o.type e i z .i64 .i64 ht htn hi hz0 n h0 (by rw [hz1]; exact hsz) (by omega) (by rw [hz2]; omega)
  unfold Oper.wp execOp
  simp only [ho, resolve, invoke, builtin, Sem.run_bind, Sem.run_pure, Result.andThen_ok, List.map_toArray, List.map_cons, List.map_nil, hs, hx, hr]
  exact hK _ _ (h _ (grownCap_ge _ _ _ _) (grownCap_le_maxLen _ _ _ _ (by unfold maxLen; omega)))
end
theorem seed_src {w : World} {A : Option Addr} {n : Nat} {l : List Sd} (h : RSd w A n l) (hp : 0 < n) : ∃ b off, A = some ⟨b, off, none⟩ ∧ ∀ j u, (l.flatMap sdE)[j]? = some u → w.cell? ⟨b, off + j, none⟩ = some u := by
  obtain ⟨b, off, cs, fz, hA, hb, hc⟩ := h.2.2 hp
  refine ⟨b, off, hA, fun j u hu => ?_⟩
  have hj : j < l.length * 2 := by
    have := (List.getElem?_eq_some_iff.1 hu).1
    rw [flat_len sdE_len] at this; exact this
  obtain ⟨x, hx⟩ := at_of_lt (l := l) (k := j / 2) (by omega)
  have hlen : (sdE x).length = 2 := rfl
  have hv : ∃ v, (sdE x)[j % 2]? = some v := ⟨_, List.getElem?_eq_getElem (by rw [hlen]; omega)⟩
  obtain ⟨v, hv⟩ := hv
  have h1 := flat_at sdE_len l (j / 2) x (j % 2) v hx hv
  rw [show j / 2 * 2 + j % 2 = j by omega, hu] at h1
  obtain rfl := Option.some.inj h1
  have h2 := hc (j / 2) x hx (j % 2) u hv
  rw [show off + j / 2 * 2 + j % 2 = off + j by omega] at h2
  rw [cell_of_row w b _ cs _ fz hb]
  exact h2
theorem seeds_one (l : List Sd) : ∀ u ∈ l.flatMap sdE, u.oneCell' = true := by
  intro u hu
  obtain ⟨x, _, hx⟩ := List.mem_flatMap.1 hu
  simp only [sdE, List.mem_cons, List.not_mem_nil, or_false] at hx
  rcases hx with rfl | rfl <;> rfl
theorem growNilS_c (n : Nat) (w : World) (h0 : 0 < n) (hn : n ≤ 1000000) :
    Calls Tryz.prog 230 #[.slice none 0 0, .int .i64 n] w fun e w' => ∃ A c, e = .returned (.slice A 0 c) ∧ w'.ownsRow w.heap.size 40 2 (.slice A 0 c) 0 [] ∧ Below w.heap.size w w' := by
  have h1 : ¬ ((n : Int) < 0) := by omega
  have h2 : (0 : Int) < (n : Int) := by omega
  have h3 : IntKind.i64.wrap ((n : Int)) = (n : Int) := IntWalk.i64_in _ (by omega)
  go_enter Tryz.func230, Tryz.ntmps230
  go_wp2_with (at_builtin; refine wpList_zerosS rfl (.tmp 20) (.tmp 21) 26 3 rfl Tryz.underlying26 Tryz.underlying3 info_seed n h0 (by omega) hn (by omega) (by rfl) (by rfl) ?_; intro cap hc1 hc2)
  go_ret
  refine ⟨_, cap, rfl, ⟨rfl, .inr ⟨w.heap.size, cap, _, rfl, Nat.le_refl _, heap_alloc_new w.drew _, Nat.zero_le _, hc2, ?_, by simp⟩⟩, below_drewN (below_new w _) 1⟩
  rw [Array.size_append, size_zeroCells, size_zeroCells]
  show n * 2 + (cap - n) * 2 = cap * 2
  omega
theorem growNilS0_c (w : World) :
    Calls Tryz.prog 230 #[.slice none 0 0, .int .i64 0] w fun e w' => ∃ A c, e = .returned (.slice A 0 c) ∧ w'.ownsRow w.heap.size 40 2 (.slice A 0 c) 0 [] ∧ Below w.heap.size w w' := by
  go_enter Tryz.func230, Tryz.ntmps230
  go_wp2
  go_ret
  exact ⟨none, 0, rfl, World.ownsRow_nil _ _ _ _, Below.refl _ _⟩
theorem growNilSA_c (n : Nat) (w : World) (hn : n ≤ 1000000) :
    Calls Tryz.prog 230 #[.slice none 0 0, .int .i64 n] w fun e w' => ∃ A c, e = .returned (.slice A 0 c) ∧ w'.ownsRow w.heap.size 40 2 (.slice A 0 c) 0 [] ∧ Below w.heap.size w w' := by
  rcases Nat.eq_zero_or_pos n with h | h
  · subst h; exact growNilS0_c w
  · exact growNilS_c n w h hn
set_option maxHeartbeats 1600000 in
set_option maxRecDepth 100000 in
theorem concatS_c (A B : Option Addr) (n c m d z : Nat) (la lb : List Sd) (w : World) (hz : w.heap[z]? = some (.cells #[.slice A n c, .slice B m d] 26 (0, 0))) (ha : RSd w A n la) (hb : RSd w B m lb) (hA : A = none → c = 0) (hB : B = none → d = 0) (hn : n ≤ 1000) (hm : m ≤ 1000) :
    Calls Tryz.prog 118 #[.slice (some ⟨z, 0, none⟩) 2 2] w fun e w' => ∃ A' c', e = .returned (.slice A' (n + m) c') ∧ w'.ownsRow w.heap.size 40 2 (.slice A' (n + m) c') (n + m) ((la ++ lb).flatMap sdE) ∧ Below w.heap.size w w' := by
  have z0 := (blk_facts hz).1 0
  have z1 := (blk_facts hz).1 1
  have w1 : IntKind.i64.wrap ((n : Int)) = (n : Int) := IntWalk.i64_in _ (by omega)
  have w2 : IntKind.i64.wrap ((n : Int) + (m : Int)) = (n : Int) + (m : Int) := IntWalk.i64_in _ (by omega)
  have p1 : ¬ (n : Int) < 0 := by omega
  have p2 : ¬ (n : Int) + (m : Int) < 0 := by omega
  have hG := Lib.hid (growNilSA_c (n + m) w (by omega))
  rw [show ((n + m : Nat) : Int) = (n : Int) + (m : Int) by push_cast; rfl] at hG
  go_enter Tryz.func118, Tryz.ntmps118
  go_wp2
  refine wp_loop_rounds 3 ?_
  rw [rounds_succ]
  go_wp2
  rw [rounds_succ]
  go_wp2
  rw [rounds_succ]
  go_wp2_with fail
  refine hG.out.mono ?_; rintro e w3 ⟨GA, gc, rfl, hown, B3⟩
  have y0 := (blk_facts (blk_below hz B3)).1 0
  have hz3 := B3.size
  have ha3 := ha.below B3
  have hz4 := blk_below hz B3
  have hb0 := Lib.hid (fun W h => hb.below (w' := W) h)
  have hzz := Lib.hid (fun W h => blk_below (w' := W) hz h)
  clear z0 z1 hz hG ha hb
  go_wp2
  refine wp_loop_rounds 3 ?_
  rw [rounds_succ]
  go_wp2_with (at_builtin; refine wpList_appR rfl (.tmp 31) (.tmp 32) 26 rfl Tryz.underlying26 info_seed rfl (by omega) (by omega) hown rfl hA (seed_src ha3) rfl (by rw [flat_len sdE_len, ha3.len]) (seeds_one la) (by omega) hz3 ?_; intro v4 w4 hown4 hg4)
  have hB4 := below_own B3 hown hg4 hz3 (Nat.le_refl _)
  have y1 := (blk_facts (hzz.out _ hB4)).1 1
  have hb4 := hb0.out _ hB4
  have hz5 := hB4.size
  rw [List.nil_append, Nat.zero_add] at hown4
  clear hown hg4 B3 hzz hb0 y0 ha3 hz4
  rw [rounds_succ]
  go_wp2_with (at_builtin; refine wpList_appR rfl (.tmp 31) (.tmp 32) 26 rfl Tryz.underlying26 info_seed rfl (by omega) (by omega) hown4 rfl hB (seed_src hb4) rfl (by rw [flat_len sdE_len, hb4.len]) (seeds_one lb) (by omega) hz5 ?_; intro v6 w6 hown6 hg6)
  have hB6 := below_own hB4 hown4 hg6 hz5 (Nat.le_refl _)
  obtain ⟨A9, c9, rfl⟩ := own_shape hown6
  have hfin : w6.ownsRow w.heap.size 40 2 (.slice A9 (n + m) c9) (n + m) ((la ++ lb).flatMap sdE) := by rw [List.flatMap_append]; exact hown6
  clear hown4 hg6 y1 hb4 hown6 hB4
  rw [rounds_succ]
  go_wp2
  go_ret
  exact ⟨A9, c9, rfl, hfin, hB6⟩
set_option maxRecDepth 100000 in
theorem together_c (A B V : Option Addr) (n c m d z q cv : Nat) (la lb : List Sd) (v : List Vd) (w : World) (hz : w.heap[z]? = some (.cells #[.slice A n c, .slice B m d] 26 (0, 0))) (ha : RSd w A n la) (hb : RSd w B m lb) (hA : A = none → c = 0) (hB : B = none → d = 0) (hn : n + m ≤ 19) (hv : RVd w V q v) :
    Calls Tryz.prog 19 #[.slice (some ⟨z, 0, none⟩) 2 2, .slice V q cv] w (RetRk w (rankE (la ++ lb) v) (rankD 1 (la ++ lb) v)) := by
  have hC := Lib.hid (concatS_c A B n c m d z la lb w hz ha hb hA hB (by omega) (by omega))
  have hll : (la ++ lb).length = n + m := by rw [List.length_append, ha.len, hb.len]
  go_enter Tryz.func19, Tryz.ntmps19
  go_wp2_with fail
  refine hC.out.mono ?_; rintro e w1 ⟨A9, c9, rfl, ho, B1⟩
  have hR := RN.of_own sdE_len ho hll (by omega)
  have hv1 := hv.below B1
  clear hC ho
  go_wp2_with fail
  refine (rank_c A9 V (n + m) c9 q cv (la ++ lb) v 1 w1 hR hv1 (by omega) (by decide) (by decide)).mono ?_; rintro e w2 ⟨A8, n8, c8, rfl, hR2, B2, hN2⟩
  have hB := below_next B1 B2
  have hN := Lib.hid hN2
  clear hN2
  go_wp2
  go_ret2
  exact ⟨A8, n8, c8, rfl, hR2, hB, hN.out⟩
end Go.Proofs.YtklggnglaeagpaaGreatDoor

/- Seeds from the fastest one on: slices.Clone of seeds, heat.ordered, heat.Order and tumbref1.OrderOf of at most 19 seeds. -/
namespace Go.Proofs.YtklggnglaeagpaaGreatDoor
open Go.RowKit Go.Shelf Go.Lib Go.Sort
set_option linter.unusedVariables false

/-- a stable insertion, on the list from its end -/
def insR {α : Type} (lt : α → α → Bool) (x : α) : List α → List α
  | [] => [x]
  | y :: r => if lt x y then y :: insR lt x r else x :: y :: r
theorem insR_cons {α : Type} (lt : α → α → Bool) (x y : α) (r : List α) : insR lt x (y :: r) = if lt x y then y :: insR lt x r else x :: y :: r := rfl
theorem insR_mem {α : Type} {lt : α → α → Bool} {x z : α} : ∀ {P : List α}, z ∈ insR lt x P ↔ z = x ∨ z ∈ P
  | [] => by simp [insR]
  | y :: r => by
    unfold insR
    split
    · rw [List.mem_cons, insR_mem (P := r), List.mem_cons]
      constructor
      · rintro (h | h | h)
        · exact .inr (.inl h)
        · exact .inl h
        · exact .inr (.inr h)
      · rintro (h | h | h)
        · exact .inr (.inl h)
        · exact .inl h
        · exact .inr (.inr h)
    · rw [List.mem_cons]
theorem swp_mid {α : Type} [Inhabited α] (Q R : List α) (x y : α) : Sort.swp (Q ++ y :: x :: R).toArray (Q.length + 1) Q.length = (Q ++ x :: y :: R).toArray := by
  have e1 : (Q ++ y :: x :: R).toArray[Q.length]! = y := by simp
  have e2 : (Q ++ y :: x :: R).toArray[Q.length + 1]! = x := by simp
  unfold Sort.swp
  rw [e1, e2, List.setIfInBounds_toArray, List.setIfInBounds_toArray, List.set_append_right _ _ (by omega), List.set_append_right _ _ (by omega)]
  rw [show Q.length + 1 - Q.length = 1 by omega, Nat.sub_self]
  rfl
theorem insInner_list {α : Type} [Inhabited α] (lt : α → α → Bool) (x : α) : ∀ (P R : List α), Sort.insInner lt 0 P.length (P.reverse ++ x :: R).toArray = ((insR lt x P).reverse ++ R).toArray
  | [], R => rfl
  | y :: r, R => by
    have e0 : (y :: r).reverse ++ x :: R = r.reverse ++ y :: x :: R := by rw [List.reverse_cons, List.append_assoc]; rfl
    have e1 : (r.reverse ++ y :: x :: R).toArray[r.length]! = y := by simp
    have e2 : (r.reverse ++ y :: x :: R).toArray[r.length + 1]! = x := by simp
    rw [List.length_cons, e0]
    unfold Sort.insInner insR
    rw [e1, e2]
    cases h : lt x y with
    | true =>
      rw [if_pos (by simp), if_pos rfl]
      have hs := swp_mid r.reverse R x y
      rw [List.length_reverse] at hs
      rw [hs, insInner_list lt x r (y :: R), List.reverse_cons, List.append_assoc]
      rfl
    | false =>
      rw [if_neg (by simp), if_neg (by simp), List.reverse_cons, List.reverse_cons, List.append_assoc, List.append_assoc]
      rfl
theorem insOuter_list {α : Type} [Inhabited α] (lt : α → α → Bool) : ∀ (R P : List α), Sort.insOuter lt 0 (P.length + R.length) P.length (P.reverse ++ R).toArray = (R.foldl (fun P x => insR lt x P) P).reverse.toArray
  | [], P => by unfold Sort.insOuter; rw [if_neg (by simp), List.append_nil]; rfl
  | x :: R, P => by
    unfold Sort.insOuter
    rw [if_pos (by simp), insInner_list]
    have hl : (insR lt x P).length = P.length + 1 := by
      clear R
      induction P with
      | nil => rfl
      | cons y r ih => unfold insR; split <;> simp [ih]
    have ih := insOuter_list lt R (insR lt x P)
    rw [hl, show P.length + 1 + R.length = P.length + (R.length + 1) by omega] at ih
    exact ih
theorem insL_fold {α : Type} [Inhabited α] (lt : α → α → Bool) (l : List α) : insL lt l = (l.foldl (fun P x => insR lt x P) []).reverse := by
  unfold insL Sort.insertionSort
  cases l with
  | nil => unfold Sort.insOuter; rw [if_neg (by simp)]; rfl
  | cons x r =>
    have h := insOuter_list lt r [x]
    rw [show ([x] : List α).length + r.length = (x :: r).length by simp; omega] at h
    show (Sort.insOuter lt 0 (x :: r).length 1 (x :: r).toArray).toList = _
    have h2 : Sort.insOuter lt 0 (x :: r).length 1 (x :: r).toArray = (r.foldl (fun P x => insR lt x P) [x]).reverse.toArray := h
    rw [h2]
    rfl
theorem insR_sorted {α : Type} {lt : α → α → Bool} (hS : Sort.SWO lt) (x : α) : ∀ {P : List α}, P.Pairwise (fun y z => lt y z = false) → (insR lt x P).Pairwise (fun y z => lt y z = false)
  | [], _ => by simp [insR]
  | y :: r, h => by
    obtain ⟨h1, h2⟩ := List.pairwise_cons.1 h
    unfold insR
    cases hxy : lt x y with
    | true =>
      rw [if_pos rfl]
      refine List.pairwise_cons.2 ⟨fun z hz => ?_, insR_sorted hS x h2⟩
      rcases insR_mem.1 hz with rfl | hz
      · cases hyx : lt y z with
        | false => rfl
        | true => have := hS.trans _ _ _ hxy hyx; rw [hS.irrefl] at this; cases this
      · exact h1 z hz
    | false =>
      rw [if_neg (by simp)]
      refine List.pairwise_cons.2 ⟨fun z hz => ?_, h⟩
      rcases List.mem_cons.1 hz with rfl | hz
      · exact hxy
      · exact hS.ntrans _ _ _ hxy (h1 z hz)
theorem insR_filter {α : Type} {lt : α → α → Bool} (hS : Sort.SWO lt) (p : α → Bool) (x : α) : ∀ {P : List α}, P.Pairwise (fun y z => lt y z = false) → (insR lt x P).filter p = if p x then insR lt x (P.filter p) else P.filter p
  | [], _ => by
    unfold insR
    cases hp : p x <;> simp [hp]
  | y :: r, h => by
    obtain ⟨h1, h2⟩ := List.pairwise_cons.1 h
    have ih := insR_filter hS p x h2
    rw [insR_cons]
    cases hxy : lt x y with
    | true =>
      rw [if_pos rfl, List.filter_cons, ih, List.filter_cons]
      cases hx : p x <;> cases hy : p y <;> simp [hxy, insR_cons]
    | false =>
      rw [if_neg (by simp), List.filter_cons]
      cases hx : p x with
      | false => simp
      | true =>
        simp only [if_true]
        have hz : ∀ z ∈ (y :: r).filter p, lt x z = false := fun z hz => by
          rcases List.mem_cons.1 (List.mem_filter.1 hz).1 with rfl | hz
          · exact hxy
          · exact hS.ntrans _ _ _ hxy (h1 z hz)
        generalize (y :: r).filter p = L at *
        cases L with
        | nil => rfl
        | cons z s => rw [insR_cons, hz z (by simp)]; rfl
theorem fold_filter {α : Type} {lt : α → α → Bool} (hS : Sort.SWO lt) (p : α → Bool) : ∀ (l P : List α), P.Pairwise (fun y z => lt y z = false) → (l.foldl (fun P x => insR lt x P) P).filter p = (l.filter p).foldl (fun P x => insR lt x P) (P.filter p)
  | [], P, _ => rfl
  | x :: r, P, h => by
    rw [List.foldl_cons, fold_filter hS p r _ (insR_sorted hS x h), insR_filter hS p x h, List.filter_cons]
    cases p x <;> rfl
/-- who is taken out of a stable sort -/
theorem insL_filter {α : Type} [Inhabited α] {lt : α → α → Bool} (hS : Sort.SWO lt) (p : α → Bool) (l : List α) : (insL lt l).filter p = insL lt (l.filter p) := by
  rw [insL_fold, insL_fold, List.filter_reverse, fold_filter hS p l [] List.Pairwise.nil]
  rfl
theorem insR_congr {α : Type} {lt lt' : α → α → Bool} (x : α) : ∀ {P : List α}, (∀ y ∈ P, lt x y = lt' x y) → insR lt x P = insR lt' x P
  | [], _ => rfl
  | y :: r, h => by
    unfold insR
    rw [h y (by simp), insR_congr x fun z hz => h z (by simp [hz])]
theorem fold_congr {α : Type} {lt lt' : α → α → Bool} {p : α → Prop} (hc : ∀ x y, p x → p y → lt x y = lt' x y) : ∀ (l P : List α), (∀ x ∈ l, p x) → (∀ x ∈ P, p x) → l.foldl (fun P x => insR lt x P) P = l.foldl (fun P x => insR lt' x P) P
  | [], P, _, _ => rfl
  | x :: r, P, hl, hP => by
    have hx := hl x (by simp)
    have e := insR_congr (lt := lt) (lt' := lt') x (P := P) fun y hy => hc x y hx (hP y hy)
    rw [List.foldl_cons, List.foldl_cons, ← e]
    refine fold_congr hc r _ (fun z hz => hl z (by simp [hz])) fun z hz => ?_
    rcases insR_mem.1 hz with rfl | hz
    · exact hx
    · exact hP z hz
/-- two comparisons that agree sort alike -/
theorem insL_congr {α : Type} [Inhabited α] {lt lt' : α → α → Bool} {l : List α} (p : α → Prop) (hc : ∀ x y, p x → p y → lt x y = lt' x y) (hl : ∀ x ∈ l, p x) : insL lt l = insL lt' l := by
  rw [insL_fold, insL_fold, fold_congr hc l [] hl (fun x hx => by cases hx)]

instance : Inhabited Sd := ⟨⟨⟨#[]⟩, 0⟩⟩
def sdCf (x y : Sd) : Int := if x.time = 0 then (if y.time = 0 then 0 else 1) else if y.time = 0 then -1 else Lib.compareInt x.time y.time
def ordL (l : List Sd) : List Sd := insL (ltOf sdCf) l
theorem sdLt_iff (x y : Sd) : ltOf sdCf x y = true ↔ (x.time ≠ 0 ∧ y.time = 0) ∨ (x.time ≠ 0 ∧ y.time ≠ 0 ∧ x.time < y.time) := by
  have e : ltOf sdCf x y = decide (sdCf x y < 0) := rfl
  rw [e, decide_eq_true_iff]
  unfold sdCf
  have hc := @cmpI_neg x.time y.time
  have h3 := cmp3' x.time y.time
  by_cases h1 : x.time = 0
  · rw [if_pos h1]
    by_cases h2 : y.time = 0
    · rw [if_pos h2]; omega
    · rw [if_neg h2]; omega
  · rw [if_neg h1]
    by_cases h2 : y.time = 0
    · rw [if_pos h2]; omega
    · rw [if_neg h2]; omega
theorem sdLt_no (x y : Sd) : ltOf sdCf x y = false ↔ ¬ ((x.time ≠ 0 ∧ y.time = 0) ∨ (x.time ≠ 0 ∧ y.time ≠ 0 ∧ x.time < y.time)) := by
  rw [← sdLt_iff, Bool.not_eq_true]
theorem sdSWO : SWO (ltOf sdCf) := by
  refine ⟨fun x => ?_, fun x y z => ?_, fun x y z => ?_⟩
  · rw [sdLt_no]; omega
  · rw [sdLt_iff, sdLt_iff, sdLt_iff]; omega
  · rw [sdLt_no, sdLt_no, sdLt_no]; omega
theorem ord_perm (l : List Sd) : (ordL l).Perm l := (insL_spec sdSWO l).1
theorem ord_len (l : List Sd) : (ordL l).length = l.length := (ord_perm l).length_eq
set_option maxRecDepth 100000 in
theorem cloneSd_c (A : Option Addr) (n c : Nat) (l : List Sd) (w : World) (h : RSd w A n l) (hn : n ≤ 1000) :
    Calls Tryz.prog 17 #[.slice A n c] w fun e w' => ∃ A' c', e = .returned (.slice A' n c') ∧ w'.ownsRow w.heap.size 40 2 (.slice A' n c') n (l.flatMap sdE) ∧ Below w.heap.size w w' := by
  rcases A with _ | ad
  · have hn0 : n = 0 := by
      rcases Nat.eq_zero_or_pos n with h0 | hp
      · exact h0
      · obtain ⟨b, off, cs, fz, e, _⟩ := h.2.2 hp; cases e
    subst hn0
    have hl : l = [] := List.eq_nil_of_length_eq_zero h.len
    subst hl
    have hnil : ∀ W, (binOp .eql 26 (.slice none 0 c) (.slice none 0 0)).run Tryz.prog W = .ok (.bool true) W := fun W => Go.Lib.run_eql_slice_nil W _ _ none 0 c 0 0 Tryz.underlying26
    go_enter Tryz.func17, Tryz.ntmps17
    go_wp2
    go_ret
    exact ⟨none, 0, rfl, World.ownsRow_nil _ _ _ _, Below.refl _ _⟩
  · have hlen := h.len
    have hB := below_new w (.cells #[] 40)
    have hz : w.heap.size ≤ (w.alloc (.cells #[] 40)).heap.size := by simp
    have hown : (w.alloc (.cells #[] 40)).ownsRow w.heap.size 40 2 (.slice (some ⟨w.heap.size, 0, none⟩) 0 0) 0 ([] : List Value) := ⟨rfl, .inr ⟨w.heap.size, 0, #[], rfl, Nat.le_refl _, heap_alloc_new w _, Nat.le_refl _, Nat.zero_le _, by simp, rfl⟩⟩
    have hs := seed_src (h.below hB)
    have hnil : ∀ W, (binOp .eql 26 (.slice (some ad) n c) (.slice none 0 0)).run Tryz.prog W = .ok (.bool false) W := fun W => Go.Lib.run_eql_slice_nil W _ _ (some ad) n c 0 0 Tryz.underlying26
    go_enter Tryz.func17, Tryz.ntmps17
    go_wp2_with (at_builtin; refine wpList_appR rfl (.tmp 5) (.tmp 6) 26 rfl Tryz.underlying26 info_seed rfl (by omega) (by omega) hown rfl (fun e => by cases e) hs rfl (by rw [flat_len sdE_len, hlen]) (seeds_one l) (by omega) hz ?_; intro v4 w4 hown4 hg4)
    have hB4 := below_own hB hown hg4 hz (Nat.le_refl _)
    rw [List.nil_append, Nat.zero_add] at hown4
    obtain ⟨A9, c9, rfl⟩ := own_shape hown4
    go_wp2
    go_ret
    exact ⟨A9, c9, rfl, hown4, hB4⟩
theorem sdS_flat {p : Sd → Prop} (l : List { x : Sd // p x }) : l.flatMap (fun x => sdE x.1) = (l.map Subtype.val).flatMap sdE := by
  induction l with
  | nil => rfl
  | cons x r ih => rw [List.flatMap_cons, List.map_cons, List.flatMap_cons, ih]
set_option maxRecDepth 100000 in
theorem sdCmpB_c (x y : Sd) (W : World) (hx : 0 ≤ x.time ∧ x.time ≤ 360000) (hy : 0 ≤ y.time ∧ y.time ≤ 360000) :
    Calls Tryz.prog 360 (#[.agg (sdE x).toArray, .agg (sdE y).toArray] ++ #[]) W fun e w' => e = .returned (.int .i64 (sdCf x y)) ∧ Below W.heap.size W w' ∧ W.drawn ≤ w'.drawn := by
  have hV := Lib.hid (show sdCf x y = if x.time = 0 then (if y.time = 0 then 0 else 1) else if y.time = 0 then -1 else Lib.compareInt x.time y.time from rfl)
  generalize sdCf x y = V at *
  obtain ⟨xw, xt⟩ := x
  obtain ⟨yw, yt⟩ := y
  dsimp only [sdE] at *
  have hbx := blk_alloc (heap_alloc_new W (.cells #[.string xw, .int .i64 xt] 40)) (.cells #[.string yw, .int .i64 yt] 40)
  have hby := heap_alloc_new (W.alloc (.cells #[.string xw, .int .i64 xt] 40)) (.cells #[.string yw, .int .i64 yt] 40)
  rw [alloc_size] at hby
  have hB2 := (below_new W (.cells #[.string xw, .int .i64 xt] 40)).trans ((below_new (W.alloc (.cells #[.string xw, .int .i64 xt] 40)) (.cells #[.string yw, .int .i64 yt] 40)).mono (by simp))
  have hD2 : ((W.alloc (.cells #[.string xw, .int .i64 xt] 40)).alloc (.cells #[.string yw, .int .i64 yt] 40)).drawn = W.drawn := rfl
  have z9 := (blk_facts hbx).1 1
  have z10 := (blk_facts hby).1 1
  clear hbx hby
  have hC := Lib.hid (fun a b W => show Calls Tryz.prog 121 #[.int .i64 a, .int .i64 b] W fun e w' => e = .returned (.int .i64 (Lib.compareInt a b)) ∧ W = w' from (Tryz.cmp_Compare_int a b W).mono fun _ _ ⟨h1, h2⟩ => ⟨h1, h2.symm⟩)
  have hn := @cmpI_neg yt xt
  have ho := @cmpI_one yt xt
  by_cases h1 : xt = 0 <;> by_cases h2 : yt = 0
  · subst h1
    subst h2
    have hv := Lib.hid (show V = Lib.compareInt 0 0 from hV.out)
    clear hn ho hV 
    have hC' := Lib.hid (fun W => hC.out 0 0 W)
    rw [← hv.out] at hC'
    clear hC
    go_enter Tryz.func360, Tryz.ntmps360
    go_wp2_with fail
    refine (hC'.out _).mono ?_; rintro e w' ⟨rfl, rfl⟩
    go_wp2
    go_ret
    exact ⟨rfl, hB2, by rw [hD2]; exact Nat.le_refl _⟩
  · subst h1
    have e2 : (yt == 0) = false := beq_eq_false_iff_ne.2 h2
    have hv := Lib.hid (show V = Lib.compareInt yt 0 by rw [hV.out, if_pos rfl, if_neg h2]; exact (ho.2 (by omega)).symm)
    clear hn ho hV h2
    have hC' := Lib.hid (fun W => hC.out yt 0 W)
    rw [← hv.out] at hC'
    clear hC
    go_enter Tryz.func360, Tryz.ntmps360
    go_wp2_with fail
    refine (hC'.out _).mono ?_; rintro e w' ⟨rfl, rfl⟩
    go_wp2
    go_ret
    exact ⟨rfl, hB2, by rw [hD2]; exact Nat.le_refl _⟩
  · have e1 : (xt == 0) = false := beq_eq_false_iff_ne.2 h1
    subst h2
    have hv := Lib.hid (show V = Lib.compareInt 0 xt by rw [hV.out, if_neg h1, if_pos rfl]; exact (hn.2 (by omega)).symm)
    clear hn ho hV h1 
    have hC' := Lib.hid (fun W => hC.out 0 xt W)
    rw [← hv.out] at hC'
    clear hC
    go_enter Tryz.func360, Tryz.ntmps360
    go_wp2_with fail
    refine (hC'.out _).mono ?_; rintro e w' ⟨rfl, rfl⟩
    go_wp2
    go_ret
    exact ⟨rfl, hB2, by rw [hD2]; exact Nat.le_refl _⟩
  · have e1 : (xt == 0) = false := beq_eq_false_iff_ne.2 h1
    have e2 : (yt == 0) = false := beq_eq_false_iff_ne.2 h2
    have hv := Lib.hid (show V = Lib.compareInt xt yt by rw [hV.out, if_neg h1, if_neg h2])
    clear hn ho hV h1 h2
    have hC' := Lib.hid (fun W => hC.out xt yt W)
    rw [← hv.out] at hC'
    clear hC
    go_enter Tryz.func360, Tryz.ntmps360
    go_wp2_with fail
    refine (hC'.out _).mono ?_; rintro e w' ⟨rfl, rfl⟩
    go_wp2
    go_ret
    exact ⟨rfl, hB2, by rw [hD2]; exact Nat.le_refl _⟩
set_option maxRecDepth 100000 in
theorem sdCmpF_c (x y : Sd) (W : World) (hx : 0 < x.time ∧ x.time ≤ 360000) (hy : 0 < y.time ∧ y.time ≤ 360000) :
    Calls Tryz.prog 349 (#[.agg (sdE x).toArray, .agg (sdE y).toArray] ++ #[]) W fun e w' => e = .returned (.int .i64 (sdCf x y)) ∧ Below W.heap.size W w' ∧ W.drawn ≤ w'.drawn := by
  have hV := Lib.hid (show sdCf x y = Lib.compareInt x.time y.time by unfold sdCf; rw [if_neg (by omega), if_neg (by omega)])
  generalize sdCf x y = V at *
  obtain ⟨xw, xt⟩ := x
  obtain ⟨yw, yt⟩ := y
  dsimp only [sdE] at *
  have hbx := blk_alloc (heap_alloc_new W (.cells #[.string xw, .int .i64 xt] 40)) (.cells #[.string yw, .int .i64 yt] 40)
  have hby := heap_alloc_new (W.alloc (.cells #[.string xw, .int .i64 xt] 40)) (.cells #[.string yw, .int .i64 yt] 40)
  rw [alloc_size] at hby
  have hB2 := (below_new W (.cells #[.string xw, .int .i64 xt] 40)).trans ((below_new (W.alloc (.cells #[.string xw, .int .i64 xt] 40)) (.cells #[.string yw, .int .i64 yt] 40)).mono (by simp))
  have hD2 : ((W.alloc (.cells #[.string xw, .int .i64 xt] 40)).alloc (.cells #[.string yw, .int .i64 yt] 40)).drawn = W.drawn := rfl
  have z9 := (blk_facts hbx).1 1
  have z10 := (blk_facts hby).1 1
  clear hbx hby
  have hC := Lib.hid (fun W => show Calls Tryz.prog 121 #[.int .i64 xt, .int .i64 yt] W fun e w' => e = .returned (.int .i64 (Lib.compareInt xt yt)) ∧ W = w' from (Tryz.cmp_Compare_int xt yt W).mono fun _ _ ⟨h1, h2⟩ => ⟨h1, h2.symm⟩)
  rw [← hV.out] at hC
  go_enter Tryz.func349, Tryz.ntmps349
  go_wp2_with fail
  refine (hC.out _).mono ?_; rintro e w' ⟨rfl, rfl⟩
  go_wp2
  go_ret
  exact ⟨rfl, hB2, by rw [hD2]; exact Nat.le_refl _⟩
/-- seeds in a row of the call's own, from the fastest one on: tumbref1.OrderOf$1 -/
theorem sdSortB_c (l : List Sd) (w : World) (base n : Nat) (u : Value) (hown : w.ownsRow base 40 2 u n (l.flatMap sdE)) (hn : n ≤ 19) (hw : ∀ x ∈ l, 0 ≤ x.time ∧ x.time ≤ 360000) :
    Calls Tryz.prog 348 #[u, .func (.func 360) #[] #[]] w fun e w' => e = .returned (.tuple #[]) ∧ w'.ownsRow base 40 2 u n ((ordL l).flatMap sdE) ∧ w.grownBy w' u.ownBlock := by
  obtain ⟨A, c, rfl⟩ := own_shape hown
  have hlen := own_len sdE_len (by decide) hown
  rcases Nat.eq_zero_or_pos n with h0 | hp
  · subst h0
    have hl : l = [] := List.eq_nil_of_length_eq_zero hlen
    subst hl
    refine (sdSort0_c A c _ w).mono ?_
    rintro e w' ⟨rfl, rfl⟩
    exact ⟨rfl, by unfold ordL; rw [insL_nil]; exact hown, grown_refl _ _⟩
  obtain ⟨gb, rfl, hgb⟩ := own_someN hown hp
  obtain ⟨ls, hls⟩ := sub_list (p := fun x : Sd => 0 ≤ x.time ∧ x.time ≤ 360000) l hw
  have hl0 : 0 < ls.length := by have : (ls.map Subtype.val).length = n := by rw [hls, hlen]
                                 rw [List.length_map] at this; omega
  have hinh : Inhabited { x : Sd // 0 ≤ x.time ∧ x.time ≤ 360000 } := ⟨ls[0]⟩
  have e1 := insL_map (ltOf fun x y : { x : Sd // 0 ≤ x.time ∧ x.time ≤ 360000 } => sdCf x.1 y.1) (ltOf sdCf) Subtype.val (fun _ _ => rfl) ls
  rw [hls] at e1
  have hown' : w.ownsRow base 40 2 (.slice (some ⟨gb, 0, none⟩) n c) n (ls.flatMap fun x => sdE x.1) := by rw [sdS_flat, hls]; exact hown
  have eg : ∀ args w, (callFunc 360 args).run Tryz.prog w = .ok (.enter 360 args) w := enters_of Tryz.func360 (by kernel_rfl) rfl
  refine (sdSort_c (fun x : { x : Sd // 0 ≤ x.time ∧ x.time ≤ 360000 } => sdE x.1) (fun _ => rfl) (fun x v hv => by simp [sdE] at hv; rcases hv with rfl | rfl <;> rfl) (fun x y => sdCf x.1 y.1) _ _ eg base gb n c ls w (fun m os dk hdk x y => ?_) hown' hn).mono ?_
  · exact (sdCmpB_c x.1 y.1 _ x.2 y.2).mono fun _ _ ⟨he, hB, hD⟩ => ⟨he, grow_of hB hD⟩
  · rintro e w' ⟨rfl, ho, hg⟩
    rw [sdS_flat, ← e1] at ho
    exact ⟨rfl, ho, hg⟩
/-- seeds in a row of the call's own, from the fastest one on: tumbref1.finished$2 -/
theorem sdSortF_c (l : List Sd) (w : World) (base n : Nat) (u : Value) (hown : w.ownsRow base 40 2 u n (l.flatMap sdE)) (hn : n ≤ 19) (hw : ∀ x ∈ l, 0 < x.time ∧ x.time ≤ 360000) :
    Calls Tryz.prog 348 #[u, .func (.func 349) #[] #[]] w fun e w' => e = .returned (.tuple #[]) ∧ w'.ownsRow base 40 2 u n ((ordL l).flatMap sdE) ∧ w.grownBy w' u.ownBlock := by
  obtain ⟨A, c, rfl⟩ := own_shape hown
  have hlen := own_len sdE_len (by decide) hown
  rcases Nat.eq_zero_or_pos n with h0 | hp
  · subst h0
    have hl : l = [] := List.eq_nil_of_length_eq_zero hlen
    subst hl
    refine (sdSort0_c A c _ w).mono ?_
    rintro e w' ⟨rfl, rfl⟩
    exact ⟨rfl, by unfold ordL; rw [insL_nil]; exact hown, grown_refl _ _⟩
  obtain ⟨gb, rfl, hgb⟩ := own_someN hown hp
  obtain ⟨ls, hls⟩ := sub_list (p := fun x : Sd => 0 < x.time ∧ x.time ≤ 360000) l hw
  have hl0 : 0 < ls.length := by have : (ls.map Subtype.val).length = n := by rw [hls, hlen]
                                 rw [List.length_map] at this; omega
  have hinh : Inhabited { x : Sd // 0 < x.time ∧ x.time ≤ 360000 } := ⟨ls[0]⟩
  have e1 := insL_map (ltOf fun x y : { x : Sd // 0 < x.time ∧ x.time ≤ 360000 } => sdCf x.1 y.1) (ltOf sdCf) Subtype.val (fun _ _ => rfl) ls
  rw [hls] at e1
  have hown' : w.ownsRow base 40 2 (.slice (some ⟨gb, 0, none⟩) n c) n (ls.flatMap fun x => sdE x.1) := by rw [sdS_flat, hls]; exact hown
  have eg : ∀ args w, (callFunc 349 args).run Tryz.prog w = .ok (.enter 349 args) w := enters_of Tryz.func349 (by kernel_rfl) rfl
  refine (sdSort_c (fun x : { x : Sd // 0 < x.time ∧ x.time ≤ 360000 } => sdE x.1) (fun _ => rfl) (fun x v hv => by simp [sdE] at hv; rcases hv with rfl | rfl <;> rfl) (fun x y => sdCf x.1 y.1) _ _ eg base gb n c ls w (fun m os dk hdk x y => ?_) hown' hn).mono ?_
  · exact (sdCmpF_c x.1 y.1 _ x.2 y.2).mono fun _ _ ⟨he, hB, hD⟩ => ⟨he, grow_of hB hD⟩
  · rintro e w' ⟨rfl, ho, hg⟩
    rw [sdS_flat, ← e1] at ho
    exact ⟨rfl, ho, hg⟩
/-- who is entered, from the fastest one on -/
def orderV (l : List Sd) : List ByteArray := if seedErr l = 0 then (ordL l).map Sd.who else []
def RetNm (w : World) (E : Int) (L : List ByteArray) (e : Ending) (w' : World) : Prop := ∃ A n c, e = .returned (.tuple #[.slice A n c, .int .i64 E]) ∧ RS 9 w' A n L ∧ Below w.heap.size w w'
theorem strs_app (l : List ByteArray) (x : ByteArray) : (l ++ [x]).map Value.string = l.map Value.string ++ [.string x] := by rw [List.map_append]; rfl
theorem RS.of_own {w : World} {base : Nat} {e : TypeId} {A : Option Addr} {n c : Nat} {l : List ByteArray} (h : w.ownsRow base e 1 (.slice A n c) n (l.map Value.string)) (hn : n ≤ 140737488355328) : RS e w A n l := R1.of_own h hn
structure NL (w : World) (u : Value) (L : List ByteArray) (wx : World) : Prop where
  own : wx.ownsRow w.heap.size 9 1 u L.length (L.map Value.string)
  bel : Below w.heap.size w wx
theorem NL.below {w wx w' : World} {u : Value} {L : List ByteArray} (h : NL w u L wx) (B : Below wx.heap.size wx w') : NL w u L w' := ⟨own_below h.own B, below_next h.bel B⟩
theorem NL.app {w wx w' : World} {u v' : Value} {L : List ByteArray} {x : ByteArray} (h : NL w u L wx) (ho : w'.ownsRow w.heap.size 9 1 v' (L.length + 1) (L.map Value.string ++ [.string x])) (hg : wx.grownBy w' u.ownBlock) : NL w v' (L ++ [x]) w' :=
  ⟨by rw [strs_app, List.length_append]; exact ho, below_own h.bel h.own hg h.bel.size (Nat.le_refl _)⟩
theorem NL.start (w : World) : NL w (.slice none 0 0) [] w := ⟨World.ownsRow_nil _ _ _ _, Below.refl _ _⟩
set_option maxHeartbeats 1600000 in
set_option maxRecDepth 100000 in
theorem orderRef_c (A : Option Addr) (n c : Nat) (l : List Sd) (w : World) (h : RSd w A n l) (hn : n ≤ 19) (h0 : seedErr l = 0) : Calls Tryz.prog 277 #[.slice A n c] w fun e w' => ∃ A' n' c', e = .returned (.slice A' n' c') ∧ RS 9 w' A' n' (orderV l) ∧ Below w.heap.size w w' := by
  obtain ⟨_, hso⟩ := seedErr_ok h0
  have hst : ∀ x ∈ l, 0 ≤ x.time ∧ x.time ≤ 360000 := fun x hx => (hso x hx).2
  have hCl := Lib.hid (cloneSd_c A n c l w h (by omega))
  have hV : orderV l = (ordL l).map Sd.who := if_pos h0
  have hol : (ordL l).length = n := by rw [ord_len]; exact h.len
  rw [hV]
  clear hV h0 hso
  generalize hOo : ordL l = O at *
  have hOl := Lib.hid hol
  have hOo' := Lib.hid hOo
  clear hol hOo
  go_enter Tryz.func277, Tryz.ntmps277
  go_wp2_with fail
  refine hCl.out.mono ?_; rintro e w0 ⟨A1, c1, rfl, ho0, B0⟩
  have hS := Lib.hid (sdSortB_c l w0 _ n _ ho0 hn hst)
  rw [hOo'.out] at hS
  have hB := Lib.hid (fun w' (hg : w0.grownBy w' (Value.slice A1 n c1).ownBlock) => below_own B0 ho0 hg B0.size (Nat.le_refl _))
  clear hCl ho0 h
  go_wp2_with fail
  refine hS.out.mono ?_; rintro e w1 ⟨rfl, ho, hg2⟩
  have hB1 := hB.out _ hg2
  have hR1 : RSd w1 A1 n O := RN.of_own sdE_len ho hOl.out (by omega)
  have hR := Lib.hid (fun W h => hR1.below (w' := W) h)
  clear hS hg2 ho hR1 B0 hB
  go_wp2_with fail
  go_loopw [3, 12] (fun u i wr => ∃ k : Nat, k ≤ n ∧ i = .int .i64 k ∧ NL w1 u ((O.take k).map Sd.who) wr) (fun _ i _ => n - (intOf i).toNat)
  case atStart => exact ⟨0, Nat.zero_le _, rfl, NL.start w1⟩
  case round =>
    obtain ⟨k, hk, rfl, K⟩ := hrel
    obtain ⟨Au, cu, rfl⟩ := own_shape K.own
    have hlk := Lib.hid (show ((O.take k).map Sd.who).length = k by rw [List.length_map, List.length_take, hOl.out]; omega)
    rw [hlk.out] at K ⊢
    by_cases hlt : k < n
    · obtain ⟨b, off, x, rfl, hbl, hx, c0, c1⟩ := RSd_at2 (hR.out _ K.bel) hlt
      have htk := Lib.hid (show (O.take (k + 1)).map Sd.who = (O.take k).map Sd.who ++ [x.who] by rw [List.take_add_one, hx, List.map_append]; rfl)
      obtain ⟨who, time⟩ := x
      dsimp only at *
      have K5 := K.below (below_new wr (.cells #[.string who, .int .i64 time] 40))
      have z0 := (blk_facts (heap_alloc_new wr (.cells #[.string who, .int .i64 time] 40))).1 0
      have hown := K5.own
      have hsz := K5.bel.size
      rw [hlk.out] at hown
      have hA := Lib.hid (fun v' w' ho hg => K5.app (v' := v') (x := who) (w' := w') ho hg)
      rw [hlk.out] at hA
      clear hx K K5
      go_wp2_with (at_builtin; refine wpList_app rfl (.tmp 16) (.tmp 19) 97 rfl Tryz.underlying97 info_strS rfl (by omega) (by omega) hown rfl rfl (by first | rfl | (simp; done)) (by rfl) (by simp [Value.oneCell']) (by omega) hsz ?_; intro v4 w4 hown4 hg4)
      have K4 := hA.out v4 w4 hown4 hg4
      clear hown4 hg4 hown hA z0
      go_roundw
      case rel => exact ⟨k + 1, by omega, by go_num, by rw [htk.out]; exact K4⟩
      case measure => simp [intOf]; omega
    · obtain rfl : k = n := by omega
      have hrs : RS 9 wr Au k (O.map Sd.who) := by
        have h := K.own
        rw [hlk.out, List.take_of_length_le (by rw [hOl.out]; exact Nat.le_refl _)] at h
        exact RS.of_own h (by omega)
      have hbel := below_next hB1 K.bel
      clear K hR
      go_wp2
      go_ret
      exact ⟨Au, k, cu, rfl, hrs, hbel⟩
end Go.Proofs.YtklggnglaeagpaaGreatDoor
