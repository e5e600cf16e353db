import Derived.Test.YtklggnglaeagpaaGreatDoorPP23
import Derived.Laws.AppendOwnNone
import Derived.Lib.AppendZeros
import Derived.Test.YtklggnglaeagpaaGreatDoorPSortR
import Derived.Test.YtklggnglaeagpaaGreatDoorPSeedM
import Derived.Lib.SliceRun
/- slices.Concat of two rows of seeds; judge.Together of two heats. -/
namespace Go.Proofs.YtklggnglaeagpaaGreatDoor
open Go.RowKit
set_option linter.unusedVariables false

section
variable {P : Program} {w : World}
end
theorem seed_src {w : World} {A : Option Addr} {n : Nat} {l : List Sd} (h : RSd w A n l) (hp : 0 < n) : ∃ b off, A = some ⟨b, off, none⟩ ∧ ∀ j u, (l.flatMap sdE)[j]? = some u → w.cell? ⟨b, off + j, none⟩ = some u := by
  obtain ⟨b, off, cs, fz, hA, hb, hc⟩ := h.2.2 hp
  refine ⟨b, off, hA, fun j u hu => ?_⟩
  have hj : j < l.length * 2 := by
    have := (List.getElem?_eq_some_iff.1 hu).1
    rw [flat_len sdE_len] at this; exact this
  obtain ⟨x, hx⟩ := at_of_lt (l := l) (k := j / 2) (by omega)
  have hlen : (sdE x).length = 2 := rfl
  have hv : ∃ v, (sdE x)[j % 2]? = some v := ⟨_, List.getElem?_eq_getElem (by rw [hlen]; omega)⟩
  obtain ⟨v, hv⟩ := hv
  have h1 := flat_at sdE_len l (j / 2) x (j % 2) v hx hv
  rw [show j / 2 * 2 + j % 2 = j by omega, hu] at h1
  obtain rfl := Option.some.inj h1
  have h2 := hc (j / 2) x hx (j % 2) u hv
  rw [show off + j / 2 * 2 + j % 2 = off + j by omega] at h2
  rw [cell_of_row w b _ cs _ fz hb]
  exact h2
theorem seeds_one (l : List Sd) : ∀ u ∈ l.flatMap sdE, u.oneCell' = true := by
  intro u hu
  obtain ⟨x, _, hx⟩ := List.mem_flatMap.1 hu
  simp only [sdE, List.mem_cons, List.not_mem_nil, or_false] at hx
  rcases hx with rfl | rfl <;> rfl
end Go.Proofs.YtklggnglaeagpaaGreatDoor

/- Seeds from the fastest one on: slices.Clone of seeds, heat.ordered, heat.Order and tumbref1.OrderOf of at most 19 seeds. -/
namespace Go.Proofs.YtklggnglaeagpaaGreatDoor
open Go.RowKit Go.Shelf Go.Lib Go.Sort
set_option linter.unusedVariables false

/-- a stable insertion, on the list from its end -/
def insR {α : Type} (lt : α → α → Bool) (x : α) : List α → List α
  | [] => [x]
  | y :: r => if lt x y then y :: insR lt x r else x :: y :: r
theorem insR_cons {α : Type} (lt : α → α → Bool) (x y : α) (r : List α) : insR lt x (y :: r) = if lt x y then y :: insR lt x r else x :: y :: r := rfl
theorem insR_mem {α : Type} {lt : α → α → Bool} {x z : α} : ∀ {P : List α}, z ∈ insR lt x P ↔ z = x ∨ z ∈ P
  | [] => by simp [insR]
  | y :: r => by
    unfold insR
    split
    · rw [List.mem_cons, insR_mem (P := r), List.mem_cons]
      constructor
      · rintro (h | h | h)
        · exact .inr (.inl h)
        · exact .inl h
        · exact .inr (.inr h)
      · rintro (h | h | h)
        · exact .inr (.inl h)
        · exact .inl h
        · exact .inr (.inr h)
    · rw [List.mem_cons]
theorem swp_mid {α : Type} [Inhabited α] (Q R : List α) (x y : α) : Sort.swp (Q ++ y :: x :: R).toArray (Q.length + 1) Q.length = (Q ++ x :: y :: R).toArray := by
  have e1 : (Q ++ y :: x :: R).toArray[Q.length]! = y := by simp
  have e2 : (Q ++ y :: x :: R).toArray[Q.length + 1]! = x := by simp
  unfold Sort.swp
  rw [e1, e2, List.setIfInBounds_toArray, List.setIfInBounds_toArray, List.set_append_right _ _ (by omega), List.set_append_right _ _ (by omega)]
  rw [show Q.length + 1 - Q.length = 1 by omega, Nat.sub_self]
  rfl
theorem insInner_list {α : Type} [Inhabited α] (lt : α → α → Bool) (x : α) : ∀ (P R : List α), Sort.insInner lt 0 P.length (P.reverse ++ x :: R).toArray = ((insR lt x P).reverse ++ R).toArray
  | [], R => rfl
  | y :: r, R => by
    have e0 : (y :: r).reverse ++ x :: R = r.reverse ++ y :: x :: R := by rw [List.reverse_cons, List.append_assoc]; rfl
    have e1 : (r.reverse ++ y :: x :: R).toArray[r.length]! = y := by simp
    have e2 : (r.reverse ++ y :: x :: R).toArray[r.length + 1]! = x := by simp
    rw [List.length_cons, e0]
    unfold Sort.insInner insR
    rw [e1, e2]
    cases h : lt x y with
    | true =>
      rw [if_pos (by simp), if_pos rfl]
      have hs := swp_mid r.reverse R x y
      rw [List.length_reverse] at hs
      rw [hs, insInner_list lt x r (y :: R), List.reverse_cons, List.append_assoc]
      rfl
    | false =>
      rw [if_neg (by simp), if_neg (by simp), List.reverse_cons, List.reverse_cons, List.append_assoc, List.append_assoc]
      rfl
theorem insOuter_list {α : Type} [Inhabited α] (lt : α → α → Bool) : ∀ (R P : List α), Sort.insOuter lt 0 (P.length + R.length) P.length (P.reverse ++ R).toArray = (R.foldl (fun P x => insR lt x P) P).reverse.toArray
  | [], P => by unfold Sort.insOuter; rw [if_neg (by simp), List.append_nil]; rfl
  | x :: R, P => by
    unfold Sort.insOuter
    rw [if_pos (by simp), insInner_list]
    have hl : (insR lt x P).length = P.length + 1 := by
      clear R
      induction P with
      | nil => rfl
      | cons y r ih => unfold insR; split <;> simp [ih]
    have ih := insOuter_list lt R (insR lt x P)
    rw [hl, show P.length + 1 + R.length = P.length + (R.length + 1) by omega] at ih
    exact ih
theorem insL_fold {α : Type} [Inhabited α] (lt : α → α → Bool) (l : List α) : insL lt l = (l.foldl (fun P x => insR lt x P) []).reverse := by
  unfold insL Sort.insertionSort
  cases l with
  | nil => unfold Sort.insOuter; rw [if_neg (by simp)]; rfl
  | cons x r =>
    have h := insOuter_list lt r [x]
    rw [show ([x] : List α).length + r.length = (x :: r).length by simp; omega] at h
    show (Sort.insOuter lt 0 (x :: r).length 1 (x :: r).toArray).toList = _
    have h2 : Sort.insOuter lt 0 (x :: r).length 1 (x :: r).toArray = (r.foldl (fun P x => insR lt x P) [x]).reverse.toArray := h
    rw [h2]
    rfl
theorem insR_sorted {α : Type} {lt : α → α → Bool} (hS : Sort.SWO lt) (x : α) : ∀ {P : List α}, P.Pairwise (fun y z => lt y z = false) → (insR lt x P).Pairwise (fun y z => lt y z = false)
  | [], _ => by simp [insR]
  | y :: r, h => by
    obtain ⟨h1, h2⟩ := List.pairwise_cons.1 h
    unfold insR
    cases hxy : lt x y with
    | true =>
      rw [if_pos rfl]
      refine List.pairwise_cons.2 ⟨fun z hz => ?_, insR_sorted hS x h2⟩
      rcases insR_mem.1 hz with rfl | hz
      · cases hyx : lt y z with
        | false => rfl
        | true => have := hS.trans _ _ _ hxy hyx; rw [hS.irrefl] at this; cases this
      · exact h1 z hz
    | false =>
      rw [if_neg (by simp)]
      refine List.pairwise_cons.2 ⟨fun z hz => ?_, h⟩
      rcases List.mem_cons.1 hz with rfl | hz
      · exact hxy
      · exact hS.ntrans _ _ _ hxy (h1 z hz)
theorem insR_filter {α : Type} {lt : α → α → Bool} (hS : Sort.SWO lt) (p : α → Bool) (x : α) : ∀ {P : List α}, P.Pairwise (fun y z => lt y z = false) → (insR lt x P).filter p = if p x then insR lt x (P.filter p) else P.filter p
  | [], _ => by
    unfold insR
    cases hp : p x <;> simp [hp]
  | y :: r, h => by
    obtain ⟨h1, h2⟩ := List.pairwise_cons.1 h
    have ih := insR_filter hS p x h2
    rw [insR_cons]
    cases hxy : lt x y with
    | true =>
      rw [if_pos rfl, List.filter_cons, ih, List.filter_cons]
      cases hx : p x <;> cases hy : p y <;> simp [hxy, insR_cons]
    | false =>
      rw [if_neg (by simp), List.filter_cons]
      cases hx : p x with
      | false => simp
      | true =>
        simp only [if_true]
        have hz : ∀ z ∈ (y :: r).filter p, lt x z = false := fun z hz => by
          rcases List.mem_cons.1 (List.mem_filter.1 hz).1 with rfl | hz
          · exact hxy
          · exact hS.ntrans _ _ _ hxy (h1 z hz)
        generalize (y :: r).filter p = L at *
        cases L with
        | nil => rfl
        | cons z s => rw [insR_cons, hz z (by simp)]; rfl
theorem fold_filter {α : Type} {lt : α → α → Bool} (hS : Sort.SWO lt) (p : α → Bool) : ∀ (l P : List α), P.Pairwise (fun y z => lt y z = false) → (l.foldl (fun P x => insR lt x P) P).filter p = (l.filter p).foldl (fun P x => insR lt x P) (P.filter p)
  | [], P, _ => rfl
  | x :: r, P, h => by
    rw [List.foldl_cons, fold_filter hS p r _ (insR_sorted hS x h), insR_filter hS p x h, List.filter_cons]
    cases p x <;> rfl
/-- who is taken out of a stable sort -/
theorem insL_filter {α : Type} [Inhabited α] {lt : α → α → Bool} (hS : Sort.SWO lt) (p : α → Bool) (l : List α) : (insL lt l).filter p = insL lt (l.filter p) := by
  rw [insL_fold, insL_fold, List.filter_reverse, fold_filter hS p l [] List.Pairwise.nil]
  rfl
instance : Inhabited Sd := ⟨⟨⟨#[]⟩, 0⟩⟩
def sdCf (x y : Sd) : Int := if x.time = 0 then (if y.time = 0 then 0 else 1) else if y.time = 0 then -1 else Lib.compareInt x.time y.time
def ordL (l : List Sd) : List Sd := insL (ltOf sdCf) l
theorem sdLt_iff (x y : Sd) : ltOf sdCf x y = true ↔ (x.time ≠ 0 ∧ y.time = 0) ∨ (x.time ≠ 0 ∧ y.time ≠ 0 ∧ x.time < y.time) := by
  have e : ltOf sdCf x y = decide (sdCf x y < 0) := rfl
  rw [e, decide_eq_true_iff]
  unfold sdCf
  have hc := @cmpI_neg x.time y.time
  have h3 := cmp3' x.time y.time
  by_cases h1 : x.time = 0
  · rw [if_pos h1]
    by_cases h2 : y.time = 0
    · rw [if_pos h2]; omega
    · rw [if_neg h2]; omega
  · rw [if_neg h1]
    by_cases h2 : y.time = 0
    · rw [if_pos h2]; omega
    · rw [if_neg h2]; omega
theorem sdLt_no (x y : Sd) : ltOf sdCf x y = false ↔ ¬ ((x.time ≠ 0 ∧ y.time = 0) ∨ (x.time ≠ 0 ∧ y.time ≠ 0 ∧ x.time < y.time)) := by
  rw [← sdLt_iff, Bool.not_eq_true]
theorem sdSWO : SWO (ltOf sdCf) := by
  refine ⟨fun x => ?_, fun x y z => ?_, fun x y z => ?_⟩
  · rw [sdLt_no]; omega
  · rw [sdLt_iff, sdLt_iff, sdLt_iff]; omega
  · rw [sdLt_no, sdLt_no, sdLt_no]; omega
theorem ord_perm (l : List Sd) : (ordL l).Perm l := (insL_spec sdSWO l).1
theorem ord_len (l : List Sd) : (ordL l).length = l.length := (ord_perm l).length_eq
set_option maxRecDepth 100000 in
theorem cloneSd_c (A : Option Addr) (n c : Nat) (l : List Sd) (w : World) (h : RSd w A n l) (hn : n ≤ 1000) :
    Calls Tryz.prog 17 #[.slice A n c] w fun e w' => ∃ A' c', e = .returned (.slice A' n c') ∧ w'.ownsRow w.heap.size 40 2 (.slice A' n c') n (l.flatMap sdE) ∧ Below w.heap.size w w' := by
  rcases A with _ | ad
  · have hn0 : n = 0 := by
      rcases Nat.eq_zero_or_pos n with h0 | hp
      · exact h0
      · obtain ⟨b, off, cs, fz, e, _⟩ := h.2.2 hp; cases e
    subst hn0
    have hl : l = [] := List.eq_nil_of_length_eq_zero h.len
    subst hl
    have hnil : ∀ W, (binOp .eql 26 (.slice none 0 c) (.slice none 0 0)).run Tryz.prog W = .ok (.bool true) W := fun W => Go.Lib.run_eql_slice_nil W _ _ none 0 c 0 0 Tryz.underlying26
    go_enter Tryz.func17, Tryz.ntmps17
    go_wp2
    go_ret
    exact ⟨none, 0, rfl, World.ownsRow_nil _ _ _ _, Below.refl _ _⟩
  · have hlen := h.len
    have hB := below_new w (.cells #[] 40)
    have hz : w.heap.size ≤ (w.alloc (.cells #[] 40)).heap.size := by simp
    have hown : (w.alloc (.cells #[] 40)).ownsRow w.heap.size 40 2 (.slice (some ⟨w.heap.size, 0, none⟩) 0 0) 0 ([] : List Value) := ⟨rfl, .inr ⟨w.heap.size, 0, #[], rfl, Nat.le_refl _, heap_alloc_new w _, Nat.le_refl _, Nat.zero_le _, by simp, rfl⟩⟩
    have hs := seed_src (h.below hB)
    have hnil : ∀ W, (binOp .eql 26 (.slice (some ad) n c) (.slice none 0 0)).run Tryz.prog W = .ok (.bool false) W := fun W => Go.Lib.run_eql_slice_nil W _ _ (some ad) n c 0 0 Tryz.underlying26
    go_enter Tryz.func17, Tryz.ntmps17
    go_wp2_with (at_builtin; refine wpList_appR rfl (.tmp 5) (.tmp 6) 26 rfl Tryz.underlying26 info_seed rfl (by omega) (by omega) hown rfl (fun e => by cases e) hs rfl (by rw [flat_len sdE_len, hlen]) (seeds_one l) (by omega) hz ?_; intro v4 w4 hown4 hg4)
    have hB4 := below_own hB hown hg4 hz (Nat.le_refl _)
    rw [List.nil_append, Nat.zero_add] at hown4
    obtain ⟨A9, c9, rfl⟩ := own_shape hown4
    go_wp2
    go_ret
    exact ⟨A9, c9, rfl, hown4, hB4⟩
theorem sdS_flat {p : Sd → Prop} (l : List { x : Sd // p x }) : l.flatMap (fun x => sdE x.1) = (l.map Subtype.val).flatMap sdE := by
  induction l with
  | nil => rfl
  | cons x r ih => rw [List.flatMap_cons, List.map_cons, List.flatMap_cons, ih]
set_option maxRecDepth 100000 in
theorem sdCmpB_c (x y : Sd) (W : World) (hx : 0 ≤ x.time ∧ x.time ≤ 360000) (hy : 0 ≤ y.time ∧ y.time ≤ 360000) :
    Calls Tryz.prog 360 (#[.agg (sdE x).toArray, .agg (sdE y).toArray] ++ #[]) W fun e w' => e = .returned (.int .i64 (sdCf x y)) ∧ Below W.heap.size W w' ∧ W.drawn ≤ w'.drawn := by
  have hV := Lib.hid (show sdCf x y = if x.time = 0 then (if y.time = 0 then 0 else 1) else if y.time = 0 then -1 else Lib.compareInt x.time y.time from rfl)
  generalize sdCf x y = V at *
  obtain ⟨xw, xt⟩ := x
  obtain ⟨yw, yt⟩ := y
  dsimp only [sdE] at *
  have hbx := blk_alloc (heap_alloc_new W (.cells #[.string xw, .int .i64 xt] 40)) (.cells #[.string yw, .int .i64 yt] 40)
  have hby := heap_alloc_new (W.alloc (.cells #[.string xw, .int .i64 xt] 40)) (.cells #[.string yw, .int .i64 yt] 40)
  rw [alloc_size] at hby
  have hB2 := (below_new W (.cells #[.string xw, .int .i64 xt] 40)).trans ((below_new (W.alloc (.cells #[.string xw, .int .i64 xt] 40)) (.cells #[.string yw, .int .i64 yt] 40)).mono (by simp))
  have hD2 : ((W.alloc (.cells #[.string xw, .int .i64 xt] 40)).alloc (.cells #[.string yw, .int .i64 yt] 40)).drawn = W.drawn := rfl
  have z9 := (blk_facts hbx).1 1
  have z10 := (blk_facts hby).1 1
  clear hbx hby
  have hC := Lib.hid (fun a b W => show Calls Tryz.prog 121 #[.int .i64 a, .int .i64 b] W fun e w' => e = .returned (.int .i64 (Lib.compareInt a b)) ∧ W = w' from (Tryz.cmp_Compare_int a b W).mono fun _ _ ⟨h1, h2⟩ => ⟨h1, h2.symm⟩)
  have hn := @cmpI_neg yt xt
  have ho := @cmpI_one yt xt
  by_cases h1 : xt = 0 <;> by_cases h2 : yt = 0
  · subst h1
    subst h2
    have hv := Lib.hid (show V = Lib.compareInt 0 0 from hV.out)
    clear hn ho hV 
    have hC' := Lib.hid (fun W => hC.out 0 0 W)
    rw [← hv.out] at hC'
    clear hC
    go_enter Tryz.func360, Tryz.ntmps360
    go_wp2_with fail
    refine (hC'.out _).mono ?_; rintro e w' ⟨rfl, rfl⟩
    go_wp2
    go_ret
    exact ⟨rfl, hB2, by rw [hD2]; exact Nat.le_refl _⟩
  · subst h1
    have e2 : (yt == 0) = false := beq_eq_false_iff_ne.2 h2
    have hv := Lib.hid (show V = Lib.compareInt yt 0 by rw [hV.out, if_pos rfl, if_neg h2]; exact (ho.2 (by omega)).symm)
    clear hn ho hV h2
    have hC' := Lib.hid (fun W => hC.out yt 0 W)
    rw [← hv.out] at hC'
    clear hC
    go_enter Tryz.func360, Tryz.ntmps360
    go_wp2_with fail
    refine (hC'.out _).mono ?_; rintro e w' ⟨rfl, rfl⟩
    go_wp2
    go_ret
    exact ⟨rfl, hB2, by rw [hD2]; exact Nat.le_refl _⟩
  · have e1 : (xt == 0) = false := beq_eq_false_iff_ne.2 h1
    subst h2
    have hv := Lib.hid (show V = Lib.compareInt 0 xt by rw [hV.out, if_neg h1, if_pos rfl]; exact (hn.2 (by omega)).symm)
    clear hn ho hV h1 
    have hC' := Lib.hid (fun W => hC.out 0 xt W)
    rw [← hv.out] at hC'
    clear hC
    go_enter Tryz.func360, Tryz.ntmps360
    go_wp2_with fail
    refine (hC'.out _).mono ?_; rintro e w' ⟨rfl, rfl⟩
    go_wp2
    go_ret
    exact ⟨rfl, hB2, by rw [hD2]; exact Nat.le_refl _⟩
  · have e1 : (xt == 0) = false := beq_eq_false_iff_ne.2 h1
    have e2 : (yt == 0) = false := beq_eq_false_iff_ne.2 h2
    have hv := Lib.hid (show V = Lib.compareInt xt yt by rw [hV.out, if_neg h1, if_neg h2])
    clear hn ho hV h1 h2
    have hC' := Lib.hid (fun W => hC.out xt yt W)
    rw [← hv.out] at hC'
    clear hC
    go_enter Tryz.func360, Tryz.ntmps360
    go_wp2_with fail
    refine (hC'.out _).mono ?_; rintro e w' ⟨rfl, rfl⟩
    go_wp2
    go_ret
    exact ⟨rfl, hB2, by rw [hD2]; exact Nat.le_refl _⟩
set_option maxRecDepth 100000 in
theorem sdCmpF_c (x y : Sd) (W : World) (hx : 0 < x.time ∧ x.time ≤ 360000) (hy : 0 < y.time ∧ y.time ≤ 360000) :
    Calls Tryz.prog 349 (#[.agg (sdE x).toArray, .agg (sdE y).toArray] ++ #[]) W fun e w' => e = .returned (.int .i64 (sdCf x y)) ∧ Below W.heap.size W w' ∧ W.drawn ≤ w'.drawn := by
  have hV := Lib.hid (show sdCf x y = Lib.compareInt x.time y.time by unfold sdCf; rw [if_neg (by omega), if_neg (by omega)])
  generalize sdCf x y = V at *
  obtain ⟨xw, xt⟩ := x
  obtain ⟨yw, yt⟩ := y
  dsimp only [sdE] at *
  have hbx := blk_alloc (heap_alloc_new W (.cells #[.string xw, .int .i64 xt] 40)) (.cells #[.string yw, .int .i64 yt] 40)
  have hby := heap_alloc_new (W.alloc (.cells #[.string xw, .int .i64 xt] 40)) (.cells #[.string yw, .int .i64 yt] 40)
  rw [alloc_size] at hby
  have hB2 := (below_new W (.cells #[.string xw, .int .i64 xt] 40)).trans ((below_new (W.alloc (.cells #[.string xw, .int .i64 xt] 40)) (.cells #[.string yw, .int .i64 yt] 40)).mono (by simp))
  have hD2 : ((W.alloc (.cells #[.string xw, .int .i64 xt] 40)).alloc (.cells #[.string yw, .int .i64 yt] 40)).drawn = W.drawn := rfl
  have z9 := (blk_facts hbx).1 1
  have z10 := (blk_facts hby).1 1
  clear hbx hby
  have hC := Lib.hid (fun W => show Calls Tryz.prog 121 #[.int .i64 xt, .int .i64 yt] W fun e w' => e = .returned (.int .i64 (Lib.compareInt xt yt)) ∧ W = w' from (Tryz.cmp_Compare_int xt yt W).mono fun _ _ ⟨h1, h2⟩ => ⟨h1, h2.symm⟩)
  rw [← hV.out] at hC
  go_enter Tryz.func349, Tryz.ntmps349
  go_wp2_with fail
  refine (hC.out _).mono ?_; rintro e w' ⟨rfl, rfl⟩
  go_wp2
  go_ret
  exact ⟨rfl, hB2, by rw [hD2]; exact Nat.le_refl _⟩
/-- seeds in a row of the call's own, from the fastest one on: tumbref1.finished$2 -/
theorem sdSortF_c (l : List Sd) (w : World) (base n : Nat) (u : Value) (hown : w.ownsRow base 40 2 u n (l.flatMap sdE)) (hn : n ≤ 19) (hw : ∀ x ∈ l, 0 < x.time ∧ x.time ≤ 360000) :
    Calls Tryz.prog 348 #[u, .func (.func 349) #[] #[]] w fun e w' => e = .returned (.tuple #[]) ∧ w'.ownsRow base 40 2 u n ((ordL l).flatMap sdE) ∧ w.grownBy w' u.ownBlock := by
  obtain ⟨A, c, rfl⟩ := own_shape hown
  have hlen := own_len sdE_len (by decide) hown
  rcases Nat.eq_zero_or_pos n with h0 | hp
  · subst h0
    have hl : l = [] := List.eq_nil_of_length_eq_zero hlen
    subst hl
    refine (sdSort0_c A c _ w).mono ?_
    rintro e w' ⟨rfl, rfl⟩
    exact ⟨rfl, by unfold ordL; rw [insL_nil]; exact hown, grown_refl _ _⟩
  obtain ⟨gb, rfl, hgb⟩ := own_someN hown hp
  obtain ⟨ls, hls⟩ := sub_list (p := fun x : Sd => 0 < x.time ∧ x.time ≤ 360000) l hw
  have hl0 : 0 < ls.length := by have : (ls.map Subtype.val).length = n := by rw [hls, hlen]
                                 rw [List.length_map] at this; omega
  have hinh : Inhabited { x : Sd // 0 < x.time ∧ x.time ≤ 360000 } := ⟨ls[0]⟩
  have e1 := insL_map (ltOf fun x y : { x : Sd // 0 < x.time ∧ x.time ≤ 360000 } => sdCf x.1 y.1) (ltOf sdCf) Subtype.val (fun _ _ => rfl) ls
  rw [hls] at e1
  have hown' : w.ownsRow base 40 2 (.slice (some ⟨gb, 0, none⟩) n c) n (ls.flatMap fun x => sdE x.1) := by rw [sdS_flat, hls]; exact hown
  have eg : ∀ args w, (callFunc 349 args).run Tryz.prog w = .ok (.enter 349 args) w := enters_of Tryz.func349 (by kernel_rfl) rfl
  refine (sdSort_c (fun x : { x : Sd // 0 < x.time ∧ x.time ≤ 360000 } => sdE x.1) (fun _ => rfl) (fun x v hv => by simp [sdE] at hv; rcases hv with rfl | rfl <;> rfl) (fun x y => sdCf x.1 y.1) _ _ eg base gb n c ls w (fun m os dk hdk x y => ?_) hown' hn).mono ?_
  · exact (sdCmpF_c x.1 y.1 _ x.2 y.2).mono fun _ _ ⟨he, hB, hD⟩ => ⟨he, grow_of hB hD⟩
  · rintro e w' ⟨rfl, ho, hg⟩
    rw [sdS_flat, ← e1] at ho
    exact ⟨rfl, ho, hg⟩
/-- who is entered, from the fastest one on -/
def orderV (l : List Sd) : List ByteArray := if seedErr l = 0 then (ordL l).map Sd.who else []
theorem strs_app (l : List ByteArray) (x : ByteArray) : (l ++ [x]).map Value.string = l.map Value.string ++ [.string x] := by rw [List.map_append]; rfl
theorem RS.of_own {w : World} {base : Nat} {e : TypeId} {A : Option Addr} {n c : Nat} {l : List ByteArray} (h : w.ownsRow base e 1 (.slice A n c) n (l.map Value.string)) (hn : n ≤ 140737488355328) : RS e w A n l := R1.of_own h hn
structure NL (w : World) (u : Value) (L : List ByteArray) (wx : World) : Prop where
  own : wx.ownsRow w.heap.size 9 1 u L.length (L.map Value.string)
  bel : Below w.heap.size w wx
theorem NL.below {w wx w' : World} {u : Value} {L : List ByteArray} (h : NL w u L wx) (B : Below wx.heap.size wx w') : NL w u L w' := ⟨own_below h.own B, below_next h.bel B⟩
theorem NL.app {w wx w' : World} {u v' : Value} {L : List ByteArray} {x : ByteArray} (h : NL w u L wx) (ho : w'.ownsRow w.heap.size 9 1 v' (L.length + 1) (L.map Value.string ++ [.string x])) (hg : wx.grownBy w' u.ownBlock) : NL w v' (L ++ [x]) w' :=
  ⟨by rw [strs_app, List.length_append]; exact ho, below_own h.bel h.own hg h.bel.size (Nat.le_refl _)⟩
theorem NL.start (w : World) : NL w (.slice none 0 0) [] w := ⟨World.ownsRow_nil _ _ _ _, Below.refl _ _⟩
end Go.Proofs.YtklggnglaeagpaaGreatDoor
