import Derived.Test.YtlddeeagnlgciaaGreatDoorSortAll
import Derived.Test.YtlddeeagnlgciaaGreatDoorAhead2
import Derived.Deep.RegionHeld3
/- api.Where as data; the order of wheres and of swims; plain lemmas on the insertion sort. -/
namespace Go.Proofs.YtlddeeagnlgciaaGreatDoor
open Go.RowKit Go.Shelf Go.Lib Go.Sort
set_option linter.unusedVariables false

section
variable {α β : Type} [Inhabited α] [Inhabited β]
/-- the insertion sort of a mapped row is the mapped row of the sort -/
theorem swp_map (f : α → β) (d : Array α) (i j : Nat) (hi : i < d.size) (hj : j < d.size) : swp (d.map f) i j = (swp d i j).map f := by
  apply Array.ext_getElem?
  intro k
  have e1 : (d.map f)[i]! = f d[i]! := by rw [getElem!_pos (d.map f) i (by simpa using hi), getElem!_pos d i hi, Array.getElem_map]
  have e2 : (d.map f)[j]! = f d[j]! := by rw [getElem!_pos (d.map f) j (by simpa using hj), getElem!_pos d j hj, Array.getElem_map]
  unfold swp
  rw [e1, e2]
  simp only [Array.getElem?_map, Array.getElem?_setIfInBounds, Array.size_setIfInBounds, Array.size_map]
  repeat' split
  all_goals simp_all
theorem insInner_map (ltA : α → α → Bool) (ltB : β → β → Bool) (f : α → β) (h : ∀ x y, ltB (f x) (f y) = ltA x y) (a : Nat) : ∀ (j : Nat) (d : Array α), j < d.size → insInner ltB a j (d.map f) = (insInner ltA a j d).map f
  | 0, _, _ => rfl
  | j + 1, d, hj => by
    have e1 : (d.map f)[j + 1]! = f d[j + 1]! := by rw [getElem!_pos (d.map f) (j + 1) (by simpa using hj), getElem!_pos d (j + 1) hj, Array.getElem_map]
    have e2 : (d.map f)[j]! = f d[j]! := by rw [getElem!_pos (d.map f) j (by simp; omega), getElem!_pos d j (by omega), Array.getElem_map]
    unfold insInner
    rw [e1, e2, h]
    split
    · rw [swp_map f d (j + 1) j hj (by omega), insInner_map ltA ltB f h a j _ (by rw [size_swp]; omega)]
    · rfl
theorem insOuter_map (ltA : α → α → Bool) (ltB : β → β → Bool) (f : α → β) (h : ∀ x y, ltB (f x) (f y) = ltA x y) (a b : Nat) : ∀ (m i : Nat) (d : Array α), b - i ≤ m → b ≤ d.size → insOuter ltB a b i (d.map f) = (insOuter ltA a b i d).map f
  | 0, i, d, hm, hb => by
    unfold insOuter
    rw [if_neg (by omega), if_neg (by omega)]
  | m + 1, i, d, hm, hb => by
    unfold insOuter
    split
    · rw [insInner_map ltA ltB f h a i d (by omega), insOuter_map ltA ltB f h a b m (i + 1) _ (by omega) (by rw [insInner_size]; exact hb)]
    · rfl
theorem insL_map (ltA : α → α → Bool) (ltB : β → β → Bool) (f : α → β) (h : ∀ x y, ltB (f x) (f y) = ltA x y) (l : List α) : insL ltB (l.map f) = (insL ltA l).map f := by
  unfold insL insertionSort
  have e : (l.map f).toArray = l.toArray.map f := by simp
  rw [e, List.length_map, insOuter_map ltA ltB f h 0 l.length _ 1 l.toArray (Nat.le_refl _) (by simp)]
  simp
theorem insL_nil (lt : α → α → Bool) : insL lt ([] : List α) = [] := List.eq_nil_of_length_eq_zero (insL_len lt [])
/-- two comparisons that part what comes later from what came before alike sort alike -/
theorem swp_at (d : Array α) (j k : Nat) (hj : j + 1 < d.size) (hk : k < d.size) : (swp d (j + 1) j)[k]! = if k = j then d[j + 1]! else if k = j + 1 then d[j]! else d[k]! := by
  unfold swp
  rw [getElem!_pos d j (by omega), getElem!_pos d (j + 1) hj, getElem!_pos d k hk, getElem!_pos _ k (by simpa using hk)]
  by_cases h1 : k = j
  · subst h1; simp
  · by_cases h2 : k = j + 1
    · subst h2
      rw [if_neg h1, if_pos rfl]
      rw [Array.getElem_setIfInBounds_ne (by simpa using hk) (by omega)]
      simp
    · rw [if_neg h1, if_neg h2]
      rw [Array.getElem_setIfInBounds_ne (by simpa using hk) (by omega), Array.getElem_setIfInBounds_ne hk (by omega)]
theorem insInner_at (lt : α → α → Bool) (a : Nat) : ∀ (j : Nat) (d : Array α), j < d.size → (∀ k, j < k → k < d.size → (insInner lt a j d)[k]! = d[k]!) ∧ (∀ k, k ≤ j → ∃ k', k' ≤ j ∧ (insInner lt a j d)[k]! = d[k']!)
  | 0, d, _ => ⟨fun _ _ _ => rfl, fun k hk => ⟨k, hk, rfl⟩⟩
  | j + 1, d, hj => by
    unfold insInner
    split
    · obtain ⟨h1, h2⟩ := insInner_at lt a j (swp d (j + 1) j) (by rw [size_swp]; omega)
      have hs : ∀ k, k ≤ j + 1 → ∃ k', k' ≤ j + 1 ∧ (swp d (j + 1) j)[k]! = d[k']! := by
        intro k hk
        rw [swp_at d j k hj (by omega)]
        split
        · exact ⟨j + 1, by omega, rfl⟩
        · split
          · exact ⟨j, by omega, rfl⟩
          · exact ⟨k, hk, rfl⟩
      refine ⟨fun k hk hkd => ?_, fun k hk => ?_⟩
      · rw [h1 k (by omega) (by rw [size_swp]; exact hkd), swp_at d j k hj hkd, if_neg (by omega), if_neg (by omega)]
      · by_cases e : k = j + 1
        · rw [h1 k (by omega) (by rw [size_swp]; omega)]
          exact hs k hk
        · obtain ⟨k', hk', he⟩ := h2 k (by omega)
          obtain ⟨k2, hk2, he2⟩ := hs k' (by omega)
          exact ⟨k2, hk2, he.trans he2⟩
    · exact ⟨fun _ _ _ => rfl, fun k hk => ⟨k, hk, rfl⟩⟩
theorem insInner_same (l1 l2 : α → α → Bool) (a : Nat) : ∀ (j : Nat) (d : Array α), j < d.size → (∀ k, k < j → l1 d[j]! d[k]! = l2 d[j]! d[k]!) → insInner l1 a j d = insInner l2 a j d
  | 0, _, _, _ => rfl
  | j + 1, d, hj, h => by
    unfold insInner
    rw [h j (by omega)]
    split
    · refine insInner_same l1 l2 a j _ (by rw [size_swp]; omega) (fun k hk => ?_)
      rw [swp_at d j j hj (by omega), if_pos rfl, swp_at d j k hj (by omega), if_neg (by omega), if_neg (by omega)]
      exact h k (by omega)
    · rfl
theorem insOuter_same (l1 l2 : α → α → Bool) (a b : Nat) : ∀ (m i : Nat) (d : Array α), b - i ≤ m → b ≤ d.size → (∀ p k, i ≤ p → p < b → k < p → l1 d[p]! d[k]! = l2 d[p]! d[k]!) → insOuter l1 a b i d = insOuter l2 a b i d
  | 0, i, d, hm, hb, h => by
    unfold insOuter
    rw [if_neg (by omega), if_neg (by omega)]
  | m + 1, i, d, hm, hb, h => by
    unfold insOuter
    split
    · rename_i hi
      rw [insInner_same l1 l2 a i d (by omega) (fun k hk => h i k (Nat.le_refl _) hi hk)]
      obtain ⟨h1, h2⟩ := insInner_at l2 a i d (by omega)
      refine insOuter_same l1 l2 a b m (i + 1) _ (by omega) (by rw [insInner_size]; exact hb) (fun p k hp hpb hk => ?_)
      rw [h1 p (by omega) (by omega)]
      by_cases e : k ≤ i
      · obtain ⟨k', hk', he⟩ := h2 k e
        rw [he]
        exact h p k' (by omega) hpb (by omega)
      · rw [h1 k (by omega) (by omega)]
        exact h p k (by omega) hpb hk
    · rfl
theorem insL_same (l1 l2 : α → α → Bool) (l : List α) (h : ∀ (p k : Nat) (x y : α), k < p → l[p]? = some x → l[k]? = some y → l1 x y = l2 x y) : insL l1 l = insL l2 l := by
  unfold insL insertionSort
  rw [insOuter_same l1 l2 0 l.length _ 1 l.toArray (Nat.le_refl _) (by simp) (fun p k h1 hp hk => ?_)]
  have e1 : l.toArray[p]! = l[p] := by rw [getElem!_pos l.toArray p (by simpa using hp)]; simp
  have e2 : l.toArray[k]! = l[k] := by rw [getElem!_pos l.toArray k (by simp; omega)]; simp
  rw [e1, e2]
  exact h p k _ _ hk (List.getElem?_eq_getElem hp) (List.getElem?_eq_getElem (by omega))
end
theorem sub_list {α : Type} {p : α → Prop} (l : List α) (h : ∀ x ∈ l, p x) : ∃ l' : List { x // p x }, l'.map Subtype.val = l := by
  induction l with
  | nil => exact ⟨[], rfl⟩
  | cons x r ih =>
    obtain ⟨r', hr⟩ := ih (fun y hy => h y (by simp [hy]))
    exact ⟨⟨x, h x (by simp)⟩ :: r', by rw [List.map_cons, hr]⟩

structure Wh where
  who : ByteArray
  num : Int
  den : Int
deriving DecidableEq
instance : Inhabited Wh := ⟨⟨⟨#[]⟩, 0, 0⟩⟩
def whE (x : Wh) : List Value := [.string x.who, .int .i64 x.num, .int .i64 x.den]
theorem whE_len : ∀ x, (whE x).length = 3 := fun _ => rfl
abbrev RWh (w : World) (A : Option Addr) (n : Nat) (l : List Wh) : Prop := RN 3 whE 134 w A n l
def whOk (x : Wh) : Prop := 0 ≤ x.num ∧ x.num ≤ 4400000000 ∧ 0 < x.den ∧ x.den ≤ 360000
abbrev WhB := { x : Wh // whOk x }
instance : Inhabited WhB := ⟨⟨⟨⟨#[]⟩, 0, 1⟩, by decide, by decide, by decide, by decide⟩⟩
def whB (x : WhB) : List Value := whE x.1
def whCf0 (x y : Wh) : Int := Lib.compareInt (y.num * x.den) (x.num * y.den)
def whCf (x y : WhB) : Int := whCf0 x.1 y.1
/-- wheres from the farthest on -/
def whSort (l : List Wh) : List Wh := insL (ltOf whCf0) l
theorem whSort_val (l : List WhB) : (insL (ltOf whCf) l).map Subtype.val = whSort (l.map Subtype.val) := (insL_map (ltOf whCf) (ltOf whCf0) Subtype.val (fun _ _ => rfl) l).symm
theorem whB_flat (l : List WhB) : l.flatMap whB = (l.map Subtype.val).flatMap whE := by
  induction l with
  | nil => rfl
  | cons x r ih => rw [List.flatMap_cons, List.map_cons, List.flatMap_cons, ih]; rfl
theorem cmpInt_scale {k x y : Int} (hk : 0 < k) : Lib.compareInt (k * x) (k * y) = Lib.compareInt x y := by
  unfold Lib.compareInt
  by_cases h1 : x < y
  · rw [if_pos h1, if_pos (Int.mul_lt_mul_of_pos_left h1 hk)]
  · rw [if_neg h1, if_neg (fun h => h1 (Int.lt_of_mul_lt_mul_left h (Int.le_of_lt hk)))]
    by_cases h2 : y < x
    · rw [if_pos h2, if_pos (Int.mul_lt_mul_of_pos_left h2 hk)]
    · rw [if_neg h2, if_neg (fun h => h2 (Int.lt_of_mul_lt_mul_left h (Int.le_of_lt hk)))]
theorem frac_split {a b : Int} (hb : 0 < b) : 0 < (Int.gcd a b : Int) ∧ a = (Int.gcd a b : Int) * fracN a b ∧ b = (Int.gcd a b : Int) * fracD a b :=
  ⟨by have := gcd_pos (a := a) hb; omega, (Int.mul_ediv_cancel' (Int.gcd_dvd_left _ _)).symm, (Int.mul_ediv_cancel' (Int.gcd_dvd_right _ _)).symm⟩
theorem frac_bd2 {a b : Int} (ha : 0 ≤ a) (ha1 : a ≤ 4400000000) (hb : 0 < b) (hb1 : b ≤ 360000) : 0 ≤ fracN a b ∧ fracN a b ≤ 4400000000 ∧ 0 < fracD a b ∧ fracD a b ≤ 360000 := by
  have hg := gcd_pos (a := a) hb
  obtain ⟨h1, h2, h3⟩ := frac_split (a := a) hb
  have n0 : 0 ≤ fracN a b := Int.ediv_nonneg ha (by omega)
  have n1 : fracN a b ≤ a := Int.ediv_le_self _ ha
  have d1 : fracD a b ≤ b := Int.ediv_le_self _ (by omega)
  have d0 : 0 < fracD a b := Int.ediv_pos_of_pos_of_dvd hb (by omega) (Int.gcd_dvd_right _ _)
  omega
/-- the order of two fractions is that of what they were made of -/
theorem frac_cmp {a b c d : Int} (hb : 0 < b) (hd : 0 < d) : Lib.compareInt (fracN c d * fracD a b) (fracN a b * fracD c d) = Lib.compareInt (c * b) (a * d) := by
  obtain ⟨g1, a1, b1⟩ := frac_split (a := a) hb
  obtain ⟨g2, c1, d1⟩ := frac_split (a := c) hd
  generalize (Int.gcd a b : Int) = g at *
  generalize (Int.gcd c d : Int) = h at *
  generalize fracN a b = x at *
  generalize fracD a b = y at *
  generalize fracN c d = u at *
  generalize fracD c d = v at *
  subst a1 b1 c1 d1
  rw [← cmpInt_scale (x := u * y) (y := x * v) (Int.mul_pos g1 g2)]
  congr 1
  · simp only [Int.mul_assoc, Int.mul_comm, Int.mul_left_comm]
  · simp only [Int.mul_assoc, Int.mul_comm, Int.mul_left_comm]

/-! ## where somebody is -/
instance : Inhabited Sw := ⟨⟨⟨#[]⟩, none, 0, 0, []⟩⟩
def atP (r : Race) (t : Int) (sp : List Int) : Int × Int := farP r.course (r.metres * r.legs) sp t
def atWh (r : Race) (t : Int) (x : Sw) : Wh := ⟨x.who, fracN (atP r t x.sp).1 (atP r t x.sp).2, fracD (atP r t x.sp).1 (atP r t x.sp).2⟩
def swCf (r : Race) (t : Int) (x y : Sw) : Int := Lib.compareInt ((atP r t y.sp).1 * (atP r t x.sp).2) ((atP r t x.sp).1 * (atP r t y.sp).2)
theorem atWh_ok {r : Race} {t : Int} {x : Sw} (h : wholeErr r x.sp = 0) (h0 : 0 ≤ t) (h1 : t ≤ 360000) : whOk (atWh r t x) := by
  obtain ⟨b1, b2, b3, b4⟩ := farP_bd h h0 h1
  exact frac_bd2 b1 b2 b3 b4
theorem atWh_cmp {r : Race} {t : Int} {x y : Sw} (hx : wholeErr r x.sp = 0) (hy : wholeErr r y.sp = 0) (h0 : 0 ≤ t) (h1 : t ≤ 360000) : whCf0 (atWh r t x) (atWh r t y) = swCf r t x y := by
  obtain ⟨b1, b2, b3, b4⟩ := farP_bd hx h0 h1
  obtain ⟨c1, c2, c3, c4⟩ := farP_bd hy h0 h1
  exact frac_cmp b3 c3
def swSort (r : Race) (t : Int) (l : List Sw) : List Sw := insL (ltOf (swCf r t)) l
/-- all are sorted by their spots as their wheres are -/
theorem wheres_same {r : Race} {t : Int} {l : List Sw} (hw : ∀ x ∈ l, wholeErr r x.sp = 0) (h0 : 0 ≤ t) (h1 : t ≤ 360000) : whSort (l.map (atWh r t)) = (swSort r t l).map (atWh r t) := by
  obtain ⟨l', rfl⟩ := sub_list l hw
  unfold whSort swSort
  rcases l' with _ | ⟨x0, r0⟩
  · rw [List.map_nil, List.map_nil, insL_nil, insL_nil, List.map_nil]
  · haveI : Inhabited { x : Sw // wholeErr r x.sp = 0 } := ⟨x0⟩
    have e1 := insL_map (fun x y : { x : Sw // wholeErr r x.sp = 0 } => ltOf (swCf r t) x.1 y.1) (ltOf (swCf r t)) Subtype.val (fun _ _ => rfl) (x0 :: r0)
    have e2 := insL_map (fun x y : { x : Sw // wholeErr r x.sp = 0 } => ltOf (swCf r t) x.1 y.1) (ltOf whCf0) (fun x => atWh r t x.1) (fun x y => by unfold ltOf; rw [atWh_cmp x.2 y.2 h0 h1]) (x0 :: r0)
    rw [e1, List.map_map, List.map_map]
    exact e2
theorem mul_in {a b : Int} (h0 : 0 ≤ a) (h1 : a ≤ 4400000000) (h2 : 0 ≤ b) (h3 : b ≤ 360000) : -9223372036854775808 ≤ a * b ∧ a * b ≤ 9223372036854775807 := by
  have := mul_bd h0 h1 h2 h3
  omega

/-! ## the closure -/
theorem grow_of {w w' : World} (h : Below w.heap.size w w') (hd : w.drawn ≤ w'.drawn) : ∃ q os, w' = grow (w.drewN q) os := by
  refine ⟨w'.drawn - w.drawn, w'.heap.extract w.heap.size w'.heap.size, ?_⟩
  obtain ⟨h1, h2, h3, h4, h5⟩ := h
  obtain ⟨hp, tp, dr, os, ou⟩ := w
  obtain ⟨hp', tp', dr', os', ou'⟩ := w'
  simp only at h1 h2 h3 h4 h5 hd
  subst h1 h2 h3
  unfold grow World.drewN
  simp only [World.mk.injEq, and_true, true_and]
  refine ⟨?_, by omega⟩
  apply Array.ext_getElem?
  intro k
  rw [Array.getElem?_append]
  split
  · rename_i hk; exact h5 k hk
  · rename_i hk
    rw [Array.getElem?_extract]
    split
    · congr 1; omega
    · exact Array.getElem?_eq_none (by omega)
theorem compareF_c (a b c d : Int) (W : World) (ha0 : 0 ≤ a) (ha1 : a ≤ 4400000000) (hb0 : 0 ≤ b) (hb1 : b ≤ 360000) (hc0 : 0 ≤ c) (hc1 : c ≤ 4400000000) (hd0 : 0 ≤ d) (hd1 : d ≤ 360000) :
    Calls Tryz.prog 154 #[.agg #[.int .i64 a, .int .i64 b], .agg #[.int .i64 c, .int .i64 d]] W fun e w' => e = .returned (.int .i64 (Lib.compareInt (a * d) (c * b))) ∧ Below W.heap.size W w' ∧ W.drawn ≤ w'.drawn := by
  have w1 : IntKind.i64.wrap (a * d) = a * d := by have := mul_in ha0 ha1 hd0 hd1; exact IntWalk.i64_in _ (by omega)
  have w2 : IntKind.i64.wrap (c * b) = c * b := by have := mul_in hc0 hc1 hb0 hb1; exact IntWalk.i64_in _ (by omega)
  have hcon := Lib.hid (fun W' => Tryz.cmp_Compare_int (a * d) (c * b) W')
  go_enter Tryz.func154, Tryz.ntmps154
  go_wp2_with fail
  refine (hcon.out _).mono ?_; rintro e w' ⟨rfl, rfl⟩
  go_wp2
  go_ret
  exact ⟨rfl, below_box (below_box (Below.refl _ _)), by simp⟩
theorem whCmp_c (x y : WhB) (W : World) : Calls Tryz.prog 153 #[.agg #[.string x.1.who, .int .i64 x.1.num, .int .i64 x.1.den], .agg #[.string y.1.who, .int .i64 y.1.num, .int .i64 y.1.den]] W fun e w' => e = .returned (.int .i64 (whCf x y)) ∧ ∃ q os', w' = grow (W.drewN q) os' := by
  obtain ⟨⟨a, b, c⟩, hx⟩ := x
  obtain ⟨⟨a', b', c'⟩, hy⟩ := y
  unfold whCf whCf0
  unfold whOk at hx hy
  dsimp only at *
  have hC := Lib.hid (fun W => compareF_c b' c' b c W hy.1 hy.2.1 (Int.le_of_lt hy.2.2.1) hy.2.2.2 hx.1 hx.2.1 (Int.le_of_lt hx.2.2.1) hx.2.2.2)
  generalize Lib.compareInt (b' * c) (b * c') = v at *
  clear hx hy
  go_enter Tryz.func153, Tryz.ntmps153
  go_wp2_with fail
  refine (hC.out _).mono ?_; rintro e w' ⟨rfl, B, hd⟩
  simp only [World.drawn_alloc] at hd
  go_wp2
  go_ret
  exact ⟨rfl, grow_of (below_box (below_box B)) hd⟩
end Go.Proofs.YtlddeeagnlgciaaGreatDoor

/- race.at: where all are at a time, from the farthest on; checkTime, At, Order. -/
namespace Go.Proofs.YtlddeeagnlgciaaGreatDoor
open Go.RowKit Go.Sort
set_option linter.unusedVariables false

theorem info_wh : (Tryz.prog.info? 134).map (fun i => (i.zero, i.size, i.bytes)) = some (some (.agg #[.string ⟨#[]⟩, .int .i64 0, .int .i64 0]), 3, 32) := by kernel_rfl
def whL (r : Race) (t : Int) (l : List Sw) : List Wh := whSort (l.map (atWh r t))
theorem whL_len (r : Race) (t : Int) (l : List Sw) : (whL r t l).length = l.length := by unfold whL whSort; rw [insL_len, List.length_map]
theorem atWh_at {r : Race} {t : Int} {l : List Sw} {k : Nat} {x : Sw} (h : l[k]? = some x) : (l.drop k).map (atWh r t) = atWh r t x :: (l.drop (k + 1)).map (atWh r t) := by rw [drop_at h]; rfl
theorem snoc_wh {w : World} {base k : Nat} {out : Value} {acc : List WhB} {who : ByteArray} {u v : Int} (hv : whOk ⟨who, u, v⟩) (h : w.ownsRow base 134 3 out k (acc.flatMap whB ++ [.string who, .int .i64 u, .int .i64 v])) : w.ownsRow base 134 3 out k ((acc ++ [(⟨⟨who, u, v⟩, hv⟩ : WhB)]).flatMap whB) := by
  rw [← flat_snoc]
  exact h
set_option maxHeartbeats 3200000 in
set_option maxRecDepth 100000 in
theorem at_c (r : Race) (A : Option Addr) (n c : Nat) (l : List Sw) (t : Int) (w : World) (h : RSw w A n l) (hw : ∀ x ∈ l, wholeErr r x.sp = 0) (ht0 : 0 ≤ t) (ht1 : t ≤ 360000) (hn : n ≤ 19) :
    Calls Tryz.prog 85 #[r.val, .slice A n c, .int .i64 t] w fun e w' => ∃ A' c', e = .returned (.slice A' n c') ∧ RWh w' A' n (whL r t l) ∧ Below w.heap.size w w' := by
  have hF := Lib.hid (fun W (x : Sw) (hx : x ∈ l) (h : RI 3 W x.A x.n x.sp) => show Calls Tryz.prog 151 #[r.val, .slice x.A x.n x.c, .int .i64 t] W fun e w' => e = .returned (.agg #[.int .i64 (atWh r t x).num, .int .i64 (atWh r t x).den]) ∧ Below W.heap.size W w' from far_c r x.A x.n x.c x.sp t W h (hw x hx) ht0 ht1)
  have hOk := Lib.hid (fun x (hx : x ∈ l) => show whOk ⟨x.who, (atWh r t x).num, (atWh r t x).den⟩ from atWh_ok (r := r) (t := t) (x := x) (hw x hx) ht0 ht1)
  have hEt := Lib.hid (fun x => show atWh r t x = ⟨x.who, (atWh r t x).num, (atWh r t x).den⟩ from rfl)
  have hAt := Lib.hid (fun k x (hx : l[k]? = some x) => atWh_at (r := r) (t := t) hx)
  have hWL : Hid (whL r t l = whSort (l.map (atWh r t))) := Lib.hid rfl
  generalize whL r t l = WL at *
  generalize atWh r t = AW at *
  clear hw
  obtain ⟨key, metres, stroke, course, legs, sex, young, old⟩ := r
  dsimp only [Race.val, Race.cells] at *
  have hb0 := heap_alloc_new w (.cells #[.string key, .int .i64 metres, .int .i64 stroke, .int .i64 course, .int .i64 legs, .int .i64 sex, .int .i64 young, .int .i64 old] 27)
  have hB0 := below_new w (.cells #[.string key, .int .i64 metres, .int .i64 stroke, .int .i64 course, .int .i64 legs, .int .i64 sex, .int .i64 young, .int .i64 old] 27)
  have hl := Lib.hid h.len
  have hz0 : (w.alloc (.cells #[.string key, .int .i64 metres, .int .i64 stroke, .int .i64 course, .int .i64 legs, .int .i64 sex, .int .i64 young, .int .i64 old] 27)).heap.size = w.heap.size + 1 := alloc_size _ _
  go_enter Tryz.func85, Tryz.ntmps85
  go_wp2_with fail
  generalize w.alloc (.cells #[.string key, .int .i64 metres, .int .i64 stroke, .int .i64 course, .int .i64 legs, .int .i64 sex, .int .i64 young, .int .i64 old] 27) = w1 at *
  go_loopw [7, 12] (fun out i wr => ∃ (j : Nat) (acc : List WhB), j ≤ n ∧ i = .int .i64 j ∧ Hid (acc.length = j) ∧ wr.ownsRow w1.heap.size 134 3 out j (acc.flatMap whB) ∧ Below w1.heap.size w1 wr ∧ Hid (acc.map Subtype.val ++ (l.drop j).map AW = l.map AW)) (fun _ i _ => n - (intOf i).toNat)
  case atStart => exact ⟨0, [], Nat.zero_le _, rfl, Lib.hid rfl, World.ownsRow_nil _ _ _ _, Below.refl _ _, Lib.hid rfl⟩
  case round =>
    obtain ⟨j, acc, hj, rfl, hla, hown, hBr, hG⟩ := hrel
    have hB := below_next hB0 hBr
    have hbr := blk_below hb0 hBr
    by_cases hlt : j < n
    · obtain ⟨b, off, x, rfl, hbl, hx, c0, c1, hI⟩ := (h.below hB).at2 hlt
      have hxm := List.mem_of_getElem? hx
      have hT := Lib.hid (hAt.out j x hx)
      have hF1 := Lib.hid (fun W h => hF.out W x hxm h)
      have hO := Lib.hid (hOk.out x hxm)
      have hE := Lib.hid (hEt.out x)
      generalize AW x = ax at *
      obtain ⟨who, xA, xn, xc, xs⟩ := x
      obtain ⟨who', N, D⟩ := ax
      dsimp only at *
      obtain ⟨rfl, _, _⟩ : who' = who ∧ N = N ∧ D = D := by have := hE.out; injection this with e1; exact ⟨e1, rfl, rfl⟩
      clear hx hxm hE
      have hz := hBr.size
      have hneS := hown.lt
      have hown5 := hown.alloc (.cells #[.string who', .slice xA xn xc] 34)
      have hB5 := hBr.alloc hz (.cells #[.string who', .slice xA xn xc] 34)
      have hx5 := heap_alloc_new wr (.cells #[.string who', .slice xA xn xc] 34)
      have hbr5 := blk_alloc hbr (.cells #[.string who', .slice xA xn xc] 34)
      have hI5 := hI.alloc (.cells #[.string who', .slice xA xn xc] 34)
      have lb5 := lt_of_heap hbr5
      have z0 := (blk_facts hx5).1 0
      have z1 := (blk_facts hx5).1 1
      have lx5 := lt_of_heap hx5
      have r0 := (blk_facts hbr5).1 0
      have r1 := (blk_facts hbr5).1 1
      have r2 := (blk_facts hbr5).1 2
      have r3 := (blk_facts hbr5).1 3
      have r4 := (blk_facts hbr5).1 4
      have r5 := (blk_facts hbr5).1 5
      have r6 := (blk_facts hbr5).1 6
      have r7 := (blk_facts hbr5).1 7
      have hz5 := hB5.size
      go_wp2_with fail
      clear c0 c1 hown hBr hI hbr hB
      generalize hW : wr.alloc (.cells #[.string who', .slice xA xn xc] 34) = w5 at *
      generalize hb7 : wr.heap.size = b7 at *
      have hbw : w.heap.size < b7 := by omega
      clear hW
      obtain ⟨i0, hi0, hz0', hz1, hz2⟩ := info_parts info_wh
      go_region_held3 (fun w' => w'.cell? ⟨b7, 0, none⟩ = some (.string who') ∧ w'.cell? ⟨b7, 1, none⟩ = some (.slice xA xn xc) ∧ w'.cell? ⟨w.heap.size, 0, none⟩ = some (.string key) ∧ w'.cell? ⟨w.heap.size, 1, none⟩ = some (.int .i64 metres) ∧ w'.cell? ⟨w.heap.size, 2, none⟩ = some (.int .i64 stroke) ∧ w'.cell? ⟨w.heap.size, 3, none⟩ = some (.int .i64 course) ∧ w'.cell? ⟨w.heap.size, 4, none⟩ = some (.int .i64 legs) ∧ w'.cell? ⟨w.heap.size, 5, none⟩ = some (.int .i64 sex) ∧ w'.cell? ⟨w.heap.size, 6, none⟩ = some (.int .i64 young) ∧ w'.cell? ⟨w.heap.size, 7, none⟩ = some (.int .i64 old))
        (first
          | go_keep
          | with_reducible exact ⟨y0, y1, s0, s1, s2, s3, s4, s5, s6, s7⟩
          | with_reducible exact ⟨q0, q1, p0, p1, p2, p3, p4, p5, p6, p7⟩)
        (first
          | (go_at_call 151; refine (hF1.out _ hI5.drew).mono ?_; rintro e w6 ⟨rfl, B6⟩; obtain ⟨hc6, hf6⟩ := bcell B6; have y0 := (hc6 b7 0 lx5).trans z0; have y1 := (hc6 b7 1 lx5).trans z1; have s0 := (hc6 w.heap.size 0 lb5).trans r0; have s1 := (hc6 w.heap.size 1 lb5).trans r1; have s2 := (hc6 w.heap.size 2 lb5).trans r2; have s3 := (hc6 w.heap.size 3 lb5).trans r3; have s4 := (hc6 w.heap.size 4 lb5).trans r4; have s5 := (hc6 w.heap.size 5 lb5).trans r5; have s6 := (hc6 w.heap.size 6 lb5).trans r6; have s7 := (hc6 w.heap.size 7 lb5).trans r7; have hown6 := own_below hown5.drew B6; have hz6 : w5.heap.size ≤ w6.heap.size := B6.size)
          | (refine step_append_lies _ (by rfl) _ _ _ (by rfl) w1.heap.size 134 i0 _ 3 32 Tryz.underlying131 hi0 hz0' hz1 hz2 rfl (by omega) _ j (acc.flatMap whB) (by rfl) (hown6.alloc _) ⟨w6.heap.size, 0, none⟩ 1 1 [.string who', .int .i64 N, .int .i64 D] (by rfl) (by rfl) (World.news_of_block (cs := #[.string who', .int .i64 N, .int .i64 D]) (t := 134) (fr := (0, 0)) (heap_alloc_new w6 _)) (by simp [Value.oneCell']) (by omega) (by unfold maxLen; omega) (by omega) (by simp; omega) (w6.heap.size + 1) (by simp) ?_; intro gg cap w7 hown7 hgrow hat hlt7; have q0 := (hgrow.cell_far ⟨b7, 0, none⟩ (by simp; omega) (fun e => by have := hneS (b7) e.symm; omega)).trans ((World.cell?_alloc_lt w6 _ ⟨b7, 0, none⟩ (by show b7 < w6.heap.size; omega)).trans y0); have q1 := (hgrow.cell_far ⟨b7, 1, none⟩ (by simp; omega) (fun e => by have := hneS (b7) e.symm; omega)).trans ((World.cell?_alloc_lt w6 _ ⟨b7, 1, none⟩ (by show b7 < w6.heap.size; omega)).trans y1); have p0 := (hgrow.cell_far ⟨w.heap.size, 0, none⟩ (by simp; omega) (fun e => by have := hneS (w.heap.size) e.symm; omega)).trans ((World.cell?_alloc_lt w6 _ ⟨w.heap.size, 0, none⟩ (by show w.heap.size < w6.heap.size; omega)).trans s0); have p1 := (hgrow.cell_far ⟨w.heap.size, 1, none⟩ (by simp; omega) (fun e => by have := hneS (w.heap.size) e.symm; omega)).trans ((World.cell?_alloc_lt w6 _ ⟨w.heap.size, 1, none⟩ (by show w.heap.size < w6.heap.size; omega)).trans s1); have p2 := (hgrow.cell_far ⟨w.heap.size, 2, none⟩ (by simp; omega) (fun e => by have := hneS (w.heap.size) e.symm; omega)).trans ((World.cell?_alloc_lt w6 _ ⟨w.heap.size, 2, none⟩ (by show w.heap.size < w6.heap.size; omega)).trans s2); have p3 := (hgrow.cell_far ⟨w.heap.size, 3, none⟩ (by simp; omega) (fun e => by have := hneS (w.heap.size) e.symm; omega)).trans ((World.cell?_alloc_lt w6 _ ⟨w.heap.size, 3, none⟩ (by show w.heap.size < w6.heap.size; omega)).trans s3); have p4 := (hgrow.cell_far ⟨w.heap.size, 4, none⟩ (by simp; omega) (fun e => by have := hneS (w.heap.size) e.symm; omega)).trans ((World.cell?_alloc_lt w6 _ ⟨w.heap.size, 4, none⟩ (by show w.heap.size < w6.heap.size; omega)).trans s4); have p5 := (hgrow.cell_far ⟨w.heap.size, 5, none⟩ (by simp; omega) (fun e => by have := hneS (w.heap.size) e.symm; omega)).trans ((World.cell?_alloc_lt w6 _ ⟨w.heap.size, 5, none⟩ (by show w.heap.size < w6.heap.size; omega)).trans s5); have p6 := (hgrow.cell_far ⟨w.heap.size, 6, none⟩ (by simp; omega) (fun e => by have := hneS (w.heap.size) e.symm; omega)).trans ((World.cell?_alloc_lt w6 _ ⟨w.heap.size, 6, none⟩ (by show w.heap.size < w6.heap.size; omega)).trans s6); have p7 := (hgrow.cell_far ⟨w.heap.size, 7, none⟩ (by simp; omega) (fun e => by have := hneS (w.heap.size) e.symm; omega)).trans ((World.cell?_alloc_lt w6 _ ⟨w.heap.size, 7, none⟩ (by show w.heap.size < w6.heap.size; omega)).trans s7)))
      have hB6 := below_next (below_drewN hB5 1) B6
      have hB7 := below_own (hB6.alloc hB6.size _) (hown6.alloc _) hgrow (by have := hB6.size; simp; omega) (Nat.le_refl _)
      have H := Lib.hid (And.intro (snoc_wh hO.out hown7) hB7)
      clear hown7 hgrow hat hlt7 q0 q1 y0 y1 z0 z1 hi0 hz0' hz1 hz2 hc6 hf6 hown6 hown5 hB5 B6 hB6 hneS hB7 hI5 hbr5 hx5 p0 p1 p2 p3 p4 p5 p6 p7 s0 s1 s2 s3 s4 s5 s6 s7 r0 r1 r2 r3 r4 r5 r6 r7
      go_wp2
      go_roundw
      case rel => exact ⟨j + 1, _, by omega, by go_num, Lib.hid (by rw [List.length_append, hla.out]; rfl), H.out.1, H.out.2, Lib.hid (by rw [← hG.out, hT.out]; simp)⟩
      case measure => simp [intOf]; omega
    · obtain rfl : j = n := by omega
      have hG2 : acc.map Subtype.val = l.map AW := by have := hG.out; rw [drop_end (by rw [hl.out]; exact Nat.le_refl _)] at this; simpa using this
      have hv := whSort_val acc
      rw [hG2, ← hWL.out] at hv
      have hla' := hla.out
      by_cases h0 : j = 0
      · subst h0
        obtain ⟨A', c', rfl⟩ := own_shape hown
        have hWn : WL = [] := by
          obtain rfl : acc = [] := List.eq_nil_of_length_eq_zero hla'
          rw [← hv, insL_nil]; rfl
        go_wp2_with fail
        refine (whSort0_c _ _ _ _).mono ?_; rintro e w8 ⟨rfl, rfl⟩
        go_wp2
        go_ret
        exact ⟨A', c', rfl, by rw [hWn]; exact RN.nil_ _ _ _ _ _, hB⟩
      · rcases hown.2 with ⟨_, h9⟩ | ⟨gb, cap, cur, hv9, _, hgb, _, _, _, _⟩
        · omega
        · subst hv9
          have eg : ∀ args w, (callFunc 153 args).run Tryz.prog w = .ok (.enter 153 args) w := enters_of Tryz.func153 (by kernel_rfl) rfl
          have hS := Lib.hid (whSort_c whB (fun _ => rfl) (fun x v hv => by simp [whB, whE] at hv; rcases hv with rfl | rfl | rfl <;> rfl) whCf 153 #[] eg _ _ _ cap acc _ (fun _ _ _ _ x y => whCmp_c x y _) hown (by omega))
          go_wp2_with fail
          refine hS.out.mono ?_; rintro e w8 ⟨rfl, hown8, hg8⟩
          have hB8 := below_own hB hown hg8 hB.size (by omega)
          go_wp2
          go_ret
          refine ⟨_, _, rfl, ?_, hB8⟩
          rw [whB_flat, hv] at hown8
          exact RN.of_own whE_len hown8 (by rw [← hv, List.length_map, insL_len, hla']) (by omega)

def timeE (r : Race) (l : List Sw) (t : Int) : Int := if fieldErr r l = 0 then (if 0 ≤ t ∧ t ≤ 360000 then 0 else 1) else fieldErr r l
def atLs (r : Race) (l : List Sw) (t : Int) : List Wh := if timeE r l t = 0 then whL r t l else []
theorem timeE_ok {r : Race} {l : List Sw} {t : Int} (h : timeE r l t = 0) : fieldErr r l = 0 ∧ 0 ≤ t ∧ t ≤ 360000 := by
  unfold timeE at h
  split at h
  · rename_i h1
    split at h
    · rename_i h2; exact ⟨h1, h2.1, h2.2⟩
    · cases h
  · rename_i h1; exact absurd h h1
set_option maxHeartbeats 1600000 in
set_option maxRecDepth 100000 in
theorem checkTime_c (r : Race) (A : Option Addr) (n c : Nat) (l : List Sw) (t : Int) (w : World) (h : RSw w A n l) :
    Calls Tryz.prog 84 #[r.val, .slice A n c, .int .i64 t] w fun e w' => e = .returned (.int .i64 (timeE r l t)) ∧ Below w.heap.size w w' := by
  have hF := Lib.hid (fun W h => checkField_c r A n c l W h)
  unfold timeE
  generalize fieldErr r l = E at *
  obtain ⟨key, metres, stroke, course, legs, sex, young, old⟩ := r
  dsimp only [Race.val, Race.cells] at *
  by_cases h1 : E = 0
  · subst h1
    rw [if_pos rfl]
    by_cases h2 : 0 ≤ t ∧ t ≤ 360000
    · have hd := decide_eq_true h2
      rw [if_pos h2]
      clear h2
      go_enter Tryz.func84, Tryz.ntmps84
      go_wp2_with fail
      refine (hF.out _ (h.alloc _)).mono ?_; rintro e w1 ⟨rfl, B1⟩
      have hB1 := below_box B1
      go_wp2_with fail
      refine (within_c _ _ _ _).mono ?_; rintro e w' ⟨rfl, rfl⟩
      rw [hd]
      go_wp2
      go_ret
      exact ⟨rfl, hB1⟩
    · have hd := decide_eq_false h2
      rw [if_neg h2]
      clear h2
      go_enter Tryz.func84, Tryz.ntmps84
      go_wp2_with fail
      refine (hF.out _ (h.alloc _)).mono ?_; rintro e w1 ⟨rfl, B1⟩
      have hB1 := below_box B1
      go_wp2_with fail
      refine (within_c _ _ _ _).mono ?_; rintro e w' ⟨rfl, rfl⟩
      rw [hd]
      go_wp2
      go_ret
      exact ⟨rfl, hB1⟩
  · rw [if_neg h1]
    have hne : (E != 0) = true := by simpa using h1
    go_enter Tryz.func84, Tryz.ntmps84
    go_wp2_with fail
    refine (hF.out _ (h.alloc _)).mono ?_; rintro e w1 ⟨rfl, B1⟩
    have hB1 := below_box B1
    clear h1
    go_wp2
    go_ret
    exact ⟨rfl, hB1⟩
theorem info_str : (Tryz.prog.info? 9).map (fun i => (i.zero, i.size, i.bytes)) = some (some (.string ⟨#[]⟩), 1, 16) := by kernel_rfl
def strs (l : List ByteArray) : List Value := l.map Value.string
theorem whos_at {l : List Wh} {k : Nat} {x : Wh} (h : l[k]? = some x) : (l.drop k).map Wh.who = x.who :: (l.drop (k + 1)).map Wh.who := by rw [drop_at h]; rfl
set_option maxHeartbeats 1600000 in
set_option maxRecDepth 100000 in
theorem orderA_c (r : Race) (A : Option Addr) (n c : Nat) (l : List Sw) (t : Int) (w : World) (h : RSw w A n l) (hn : n ≤ 19) :
    Calls Tryz.prog 16 #[r.val, .slice A n c, .int .i64 t] w fun e w' => ∃ A' n' c', e = .returned (.tuple #[.slice A' n' c', .int .i64 (timeE r l t)]) ∧ n' ≤ n ∧ RS 9 w' A' n' ((atLs r l t).map Wh.who) ∧ Below w.heap.size w w' := by
  have hT := Lib.hid (fun W h => checkTime_c r A n c l t W h)
  have hA := Lib.hid (fun W h (h0 : timeE r l t = 0) => at_c r A n c l t W h (fieldErr_ok (timeE_ok h0).1).2.2 (timeE_ok h0).2.1 (timeE_ok h0).2.2 hn)
  unfold atLs
  generalize timeE r l t = E at *
  generalize whL r t l = WL at *
  obtain ⟨key, metres, stroke, course, legs, sex, young, old⟩ := r
  dsimp only [Race.val, Race.cells] at *
  have hb0 := heap_alloc_new w (.cells #[.string key, .int .i64 metres, .int .i64 stroke, .int .i64 course, .int .i64 legs, .int .i64 sex, .int .i64 young, .int .i64 old] 27)
  have zz := (blk_facts hb0).1
  by_cases h1 : E = 0
  · subst h1
    rw [if_pos rfl]
    go_enter Tryz.func16, Tryz.ntmps16
    go_wp2_with fail
    refine (hT.out _ (h.alloc _)).mono ?_; rintro e w1 ⟨rfl, B1⟩
    have hb1 := blk_below hb0 B1
    have hB1 := below_box B1
    have z := (blk_facts hb1).1
    clear hb0 zz B1
    go_wp2_with fail
    refine (hA.out _ (h.below hB1) trivial).mono ?_; rintro e w2 ⟨A', c', rfl, hR, B2⟩
    have hB2 := below_next hB1 B2
    have hRl := hR.len
    clear z hb1 hA hT
    go_wp2_with fail
    go_loopw [9, 24] (fun out i wr => ∃ (j : Nat) (acc : List ByteArray), j ≤ n ∧ i = .int .i64 j ∧ Hid (acc.length = j) ∧ wr.ownsRow w2.heap.size 9 1 out j (acc.map Value.string) ∧ Below w2.heap.size w2 wr ∧ Hid (acc ++ (WL.drop j).map Wh.who = WL.map Wh.who)) (fun _ i _ => n - (intOf i).toNat)
    case atStart => exact ⟨0, [], Nat.zero_le _, rfl, Lib.hid rfl, World.ownsRow_nil _ _ _ _, Below.refl _ _, Lib.hid rfl⟩
    case round =>
      obtain ⟨j, acc, hj, rfl, hla, hown, hBr, hG⟩ := hrel
      by_cases hlt : j < n
      · obtain ⟨b, off, x, rfl, hbl, hx, hc⟩ := (hR.below hBr).at_ hlt
        have c0 : wr.cell? ⟨b, off + j * 3, none⟩ = some (.string x.who) := hc 0 _ rfl
        have c1 : wr.cell? ⟨b, off + j * 3 + 1, none⟩ = some (.int .i64 x.num) := hc 1 _ rfl
        have c2 : wr.cell? ⟨b, off + j * 3 + 2, none⟩ = some (.int .i64 x.den) := hc 2 _ rfl
        have hT := Lib.hid (whos_at hx)
        obtain ⟨who, N, D⟩ := x
        dsimp only at *
        clear hx hc
        have hz := hBr.size
        have hown5 := hown.alloc (.cells #[.string who, .int .i64 N, .int .i64 D] 134)
        have hB5 := hBr.alloc hz (.cells #[.string who, .int .i64 N, .int .i64 D] 134)
        have hx5 := heap_alloc_new wr (.cells #[.string who, .int .i64 N, .int .i64 D] 134)
        have z0 := (blk_facts hx5).1 0
        have hz5 := hB5.size
        go_wp2_with (at_builtin; refine wpList_app rfl (.tmp 28) (.tmp 31) 45 rfl Tryz.underlying45 info_str rfl (by omega) (by omega) hown5 rfl rfl (by first | rfl | (simp; done)) rfl (by simp [Value.oneCell']) (by omega) hz5 ?_; intro v4 w4 hown4 hg4; have hB4 := below_own hB5 hown5 hg4 hz5 (Nat.le_refl _))
        have H := Lib.hid (And.intro (show w4.ownsRow w2.heap.size 9 1 v4 (j + 1) ((acc ++ [who]).map Value.string) by rw [List.map_append]; exact hown4) hB4)
        clear hown4 hown5 hB5 hB4
        go_roundw
        case rel => exact ⟨j + 1, acc ++ [who], by omega, by go_num, Lib.hid (by rw [List.length_append, hla.out]; rfl), H.out.1, H.out.2, Lib.hid (by rw [← hG.out, hT.out]; simp)⟩
        case measure => simp [intOf]; omega
      · obtain rfl : j = n := by omega
        have hG2 : acc = WL.map Wh.who := by have := hG.out; rw [drop_end (by rw [hRl]; exact Nat.le_refl _)] at this; simpa using this
        obtain ⟨A2, c2, rfl⟩ := own_shape hown
        have hB := below_next hB2 hBr
        go_wp2
        go_ret2
        refine ⟨A2, j, c2, rfl, Nat.le_refl _, ?_, hB⟩
        rw [← hG2]
        exact R1.of_own hown (by omega)
  · rw [if_neg h1]
    have hne : (E != 0) = true := by simpa using h1
    go_enter Tryz.func16, Tryz.ntmps16
    go_wp2_with fail
    refine (hT.out _ (h.alloc _)).mono ?_; rintro e w1 ⟨rfl, B1⟩
    have hB1 := below_box B1
    clear h1
    go_wp2
    go_ret2
    exact ⟨none, 0, 0, rfl, Nat.zero_le _, R1.nil_ _ _ _ _, hB1⟩
end Go.Proofs.YtlddeeagnlgciaaGreatDoor
