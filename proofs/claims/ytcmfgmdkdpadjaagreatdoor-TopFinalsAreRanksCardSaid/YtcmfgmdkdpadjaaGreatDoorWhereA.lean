import Derived.Test.YtcmfgmdkdpadjaaGreatDoorSortAll
import Derived.Test.YtcmfgmdkdpadjaaGreatDoorAhead2
import Derived.Deep.RegionHeld3
/- api.Where as data; the order of wheres and of swims; plain lemmas on the insertion sort. -/
namespace Go.Proofs.YtcmfgmdkdpadjaaGreatDoor
open Go.RowKit Go.Shelf Go.Lib Go.Sort
set_option linter.unusedVariables false

section
variable {α β : Type} [Inhabited α] [Inhabited β]
/-- the insertion sort of a mapped row is the mapped row of the sort -/
theorem swp_map (f : α → β) (d : Array α) (i j : Nat) (hi : i < d.size) (hj : j < d.size) : swp (d.map f) i j = (swp d i j).map f := by
  apply Array.ext_getElem?
  intro k
  have e1 : (d.map f)[i]! = f d[i]! := by rw [getElem!_pos (d.map f) i (by simpa using hi), getElem!_pos d i hi, Array.getElem_map]
  have e2 : (d.map f)[j]! = f d[j]! := by rw [getElem!_pos (d.map f) j (by simpa using hj), getElem!_pos d j hj, Array.getElem_map]
  unfold swp
  rw [e1, e2]
  simp only [Array.getElem?_map, Array.getElem?_setIfInBounds, Array.size_setIfInBounds, Array.size_map]
  repeat' split
  all_goals simp_all
theorem insInner_map (ltA : α → α → Bool) (ltB : β → β → Bool) (f : α → β) (h : ∀ x y, ltB (f x) (f y) = ltA x y) (a : Nat) : ∀ (j : Nat) (d : Array α), j < d.size → insInner ltB a j (d.map f) = (insInner ltA a j d).map f
  | 0, _, _ => rfl
  | j + 1, d, hj => by
    have e1 : (d.map f)[j + 1]! = f d[j + 1]! := by rw [getElem!_pos (d.map f) (j + 1) (by simpa using hj), getElem!_pos d (j + 1) hj, Array.getElem_map]
    have e2 : (d.map f)[j]! = f d[j]! := by rw [getElem!_pos (d.map f) j (by simp; omega), getElem!_pos d j (by omega), Array.getElem_map]
    unfold insInner
    rw [e1, e2, h]
    split
    · rw [swp_map f d (j + 1) j hj (by omega), insInner_map ltA ltB f h a j _ (by rw [size_swp]; omega)]
    · rfl
theorem insOuter_map (ltA : α → α → Bool) (ltB : β → β → Bool) (f : α → β) (h : ∀ x y, ltB (f x) (f y) = ltA x y) (a b : Nat) : ∀ (m i : Nat) (d : Array α), b - i ≤ m → b ≤ d.size → insOuter ltB a b i (d.map f) = (insOuter ltA a b i d).map f
  | 0, i, d, hm, hb => by
    unfold insOuter
    rw [if_neg (by omega), if_neg (by omega)]
  | m + 1, i, d, hm, hb => by
    unfold insOuter
    split
    · rw [insInner_map ltA ltB f h a i d (by omega), insOuter_map ltA ltB f h a b m (i + 1) _ (by omega) (by rw [insInner_size]; exact hb)]
    · rfl
theorem insL_map (ltA : α → α → Bool) (ltB : β → β → Bool) (f : α → β) (h : ∀ x y, ltB (f x) (f y) = ltA x y) (l : List α) : insL ltB (l.map f) = (insL ltA l).map f := by
  unfold insL insertionSort
  have e : (l.map f).toArray = l.toArray.map f := by simp
  rw [e, List.length_map, insOuter_map ltA ltB f h 0 l.length _ 1 l.toArray (Nat.le_refl _) (by simp)]
  simp
theorem insL_nil (lt : α → α → Bool) : insL lt ([] : List α) = [] := List.eq_nil_of_length_eq_zero (insL_len lt [])
/-- two comparisons that part what comes later from what came before alike sort alike -/
theorem swp_at (d : Array α) (j k : Nat) (hj : j + 1 < d.size) (hk : k < d.size) : (swp d (j + 1) j)[k]! = if k = j then d[j + 1]! else if k = j + 1 then d[j]! else d[k]! := by
  unfold swp
  rw [getElem!_pos d j (by omega), getElem!_pos d (j + 1) hj, getElem!_pos d k hk, getElem!_pos _ k (by simpa using hk)]
  by_cases h1 : k = j
  · subst h1; simp
  · by_cases h2 : k = j + 1
    · subst h2
      rw [if_neg h1, if_pos rfl]
      rw [Array.getElem_setIfInBounds_ne (by simpa using hk) (by omega)]
      simp
    · rw [if_neg h1, if_neg h2]
      rw [Array.getElem_setIfInBounds_ne (by simpa using hk) (by omega), Array.getElem_setIfInBounds_ne hk (by omega)]
theorem insInner_at (lt : α → α → Bool) (a : Nat) : ∀ (j : Nat) (d : Array α), j < d.size → (∀ k, j < k → k < d.size → (insInner lt a j d)[k]! = d[k]!) ∧ (∀ k, k ≤ j → ∃ k', k' ≤ j ∧ (insInner lt a j d)[k]! = d[k']!)
  | 0, d, _ => ⟨fun _ _ _ => rfl, fun k hk => ⟨k, hk, rfl⟩⟩
  | j + 1, d, hj => by
    unfold insInner
    split
    · obtain ⟨h1, h2⟩ := insInner_at lt a j (swp d (j + 1) j) (by rw [size_swp]; omega)
      have hs : ∀ k, k ≤ j + 1 → ∃ k', k' ≤ j + 1 ∧ (swp d (j + 1) j)[k]! = d[k']! := by
        intro k hk
        rw [swp_at d j k hj (by omega)]
        split
        · exact ⟨j + 1, by omega, rfl⟩
        · split
          · exact ⟨j, by omega, rfl⟩
          · exact ⟨k, hk, rfl⟩
      refine ⟨fun k hk hkd => ?_, fun k hk => ?_⟩
      · rw [h1 k (by omega) (by rw [size_swp]; exact hkd), swp_at d j k hj hkd, if_neg (by omega), if_neg (by omega)]
      · by_cases e : k = j + 1
        · rw [h1 k (by omega) (by rw [size_swp]; omega)]
          exact hs k hk
        · obtain ⟨k', hk', he⟩ := h2 k (by omega)
          obtain ⟨k2, hk2, he2⟩ := hs k' (by omega)
          exact ⟨k2, hk2, he.trans he2⟩
    · exact ⟨fun _ _ _ => rfl, fun k hk => ⟨k, hk, rfl⟩⟩
theorem insInner_same (l1 l2 : α → α → Bool) (a : Nat) : ∀ (j : Nat) (d : Array α), j < d.size → (∀ k, k < j → l1 d[j]! d[k]! = l2 d[j]! d[k]!) → insInner l1 a j d = insInner l2 a j d
  | 0, _, _, _ => rfl
  | j + 1, d, hj, h => by
    unfold insInner
    rw [h j (by omega)]
    split
    · refine insInner_same l1 l2 a j _ (by rw [size_swp]; omega) (fun k hk => ?_)
      rw [swp_at d j j hj (by omega), if_pos rfl, swp_at d j k hj (by omega), if_neg (by omega), if_neg (by omega)]
      exact h k (by omega)
    · rfl
theorem insOuter_same (l1 l2 : α → α → Bool) (a b : Nat) : ∀ (m i : Nat) (d : Array α), b - i ≤ m → b ≤ d.size → (∀ p k, i ≤ p → p < b → k < p → l1 d[p]! d[k]! = l2 d[p]! d[k]!) → insOuter l1 a b i d = insOuter l2 a b i d
  | 0, i, d, hm, hb, h => by
    unfold insOuter
    rw [if_neg (by omega), if_neg (by omega)]
  | m + 1, i, d, hm, hb, h => by
    unfold insOuter
    split
    · rename_i hi
      rw [insInner_same l1 l2 a i d (by omega) (fun k hk => h i k (Nat.le_refl _) hi hk)]
      obtain ⟨h1, h2⟩ := insInner_at l2 a i d (by omega)
      refine insOuter_same l1 l2 a b m (i + 1) _ (by omega) (by rw [insInner_size]; exact hb) (fun p k hp hpb hk => ?_)
      rw [h1 p (by omega) (by omega)]
      by_cases e : k ≤ i
      · obtain ⟨k', hk', he⟩ := h2 k e
        rw [he]
        exact h p k' (by omega) hpb (by omega)
      · rw [h1 k (by omega) (by omega)]
        exact h p k (by omega) hpb hk
    · rfl
theorem insL_same (l1 l2 : α → α → Bool) (l : List α) (h : ∀ (p k : Nat) (x y : α), k < p → l[p]? = some x → l[k]? = some y → l1 x y = l2 x y) : insL l1 l = insL l2 l := by
  unfold insL insertionSort
  rw [insOuter_same l1 l2 0 l.length _ 1 l.toArray (Nat.le_refl _) (by simp) (fun p k h1 hp hk => ?_)]
  have e1 : l.toArray[p]! = l[p] := by rw [getElem!_pos l.toArray p (by simpa using hp)]; simp
  have e2 : l.toArray[k]! = l[k] := by rw [getElem!_pos l.toArray k (by simp; omega)]; simp
  rw [e1, e2]
  exact h p k _ _ hk (List.getElem?_eq_getElem hp) (List.getElem?_eq_getElem (by omega))
end
theorem sub_list {α : Type} {p : α → Prop} (l : List α) (h : ∀ x ∈ l, p x) : ∃ l' : List { x // p x }, l'.map Subtype.val = l := by
  induction l with
  | nil => exact ⟨[], rfl⟩
  | cons x r ih =>
    obtain ⟨r', hr⟩ := ih (fun y hy => h y (by simp [hy]))
    exact ⟨⟨x, h x (by simp)⟩ :: r', by rw [List.map_cons, hr]⟩

structure Wh where
  who : ByteArray
  num : Int
  den : Int
deriving DecidableEq
instance : Inhabited Wh := ⟨⟨⟨#[]⟩, 0, 0⟩⟩
def whE (x : Wh) : List Value := [.string x.who, .int .i64 x.num, .int .i64 x.den]
theorem whE_len : ∀ x, (whE x).length = 3 := fun _ => rfl
def whOk (x : Wh) : Prop := 0 ≤ x.num ∧ x.num ≤ 4400000000 ∧ 0 < x.den ∧ x.den ≤ 360000
abbrev WhB := { x : Wh // whOk x }
instance : Inhabited WhB := ⟨⟨⟨⟨#[]⟩, 0, 1⟩, by decide, by decide, by decide, by decide⟩⟩
def whB (x : WhB) : List Value := whE x.1
def whCf0 (x y : Wh) : Int := Lib.compareInt (y.num * x.den) (x.num * y.den)
def whCf (x y : WhB) : Int := whCf0 x.1 y.1
/-- wheres from the farthest on -/
def whSort (l : List Wh) : List Wh := insL (ltOf whCf0) l
theorem whSort_val (l : List WhB) : (insL (ltOf whCf) l).map Subtype.val = whSort (l.map Subtype.val) := (insL_map (ltOf whCf) (ltOf whCf0) Subtype.val (fun _ _ => rfl) l).symm
theorem whB_flat (l : List WhB) : l.flatMap whB = (l.map Subtype.val).flatMap whE := by
  induction l with
  | nil => rfl
  | cons x r ih => rw [List.flatMap_cons, List.map_cons, List.flatMap_cons, ih]; rfl
theorem cmpInt_scale {k x y : Int} (hk : 0 < k) : Lib.compareInt (k * x) (k * y) = Lib.compareInt x y := by
  unfold Lib.compareInt
  by_cases h1 : x < y
  · rw [if_pos h1, if_pos (Int.mul_lt_mul_of_pos_left h1 hk)]
  · rw [if_neg h1, if_neg (fun h => h1 (Int.lt_of_mul_lt_mul_left h (Int.le_of_lt hk)))]
    by_cases h2 : y < x
    · rw [if_pos h2, if_pos (Int.mul_lt_mul_of_pos_left h2 hk)]
    · rw [if_neg h2, if_neg (fun h => h2 (Int.lt_of_mul_lt_mul_left h (Int.le_of_lt hk)))]
theorem frac_split {a b : Int} (hb : 0 < b) : 0 < (Int.gcd a b : Int) ∧ a = (Int.gcd a b : Int) * fracN a b ∧ b = (Int.gcd a b : Int) * fracD a b :=
  ⟨by have := gcd_pos (a := a) hb; omega, (Int.mul_ediv_cancel' (Int.gcd_dvd_left _ _)).symm, (Int.mul_ediv_cancel' (Int.gcd_dvd_right _ _)).symm⟩
theorem frac_bd2 {a b : Int} (ha : 0 ≤ a) (ha1 : a ≤ 4400000000) (hb : 0 < b) (hb1 : b ≤ 360000) : 0 ≤ fracN a b ∧ fracN a b ≤ 4400000000 ∧ 0 < fracD a b ∧ fracD a b ≤ 360000 := by
  have hg := gcd_pos (a := a) hb
  obtain ⟨h1, h2, h3⟩ := frac_split (a := a) hb
  have n0 : 0 ≤ fracN a b := Int.ediv_nonneg ha (by omega)
  have n1 : fracN a b ≤ a := Int.ediv_le_self _ ha
  have d1 : fracD a b ≤ b := Int.ediv_le_self _ (by omega)
  have d0 : 0 < fracD a b := Int.ediv_pos_of_pos_of_dvd hb (by omega) (Int.gcd_dvd_right _ _)
  omega
/-- the order of two fractions is that of what they were made of -/
theorem frac_cmp {a b c d : Int} (hb : 0 < b) (hd : 0 < d) : Lib.compareInt (fracN c d * fracD a b) (fracN a b * fracD c d) = Lib.compareInt (c * b) (a * d) := by
  obtain ⟨g1, a1, b1⟩ := frac_split (a := a) hb
  obtain ⟨g2, c1, d1⟩ := frac_split (a := c) hd
  generalize (Int.gcd a b : Int) = g at *
  generalize (Int.gcd c d : Int) = h at *
  generalize fracN a b = x at *
  generalize fracD a b = y at *
  generalize fracN c d = u at *
  generalize fracD c d = v at *
  subst a1 b1 c1 d1
  rw [← cmpInt_scale (x := u * y) (y := x * v) (Int.mul_pos g1 g2)]
  congr 1
  · simp only [Int.mul_assoc, Int.mul_comm, Int.mul_left_comm]
  · simp only [Int.mul_assoc, Int.mul_comm, Int.mul_left_comm]

/-! ## where somebody is -/
instance : Inhabited Sw := ⟨⟨⟨#[]⟩, none, 0, 0, []⟩⟩
def atP (r : Race) (t : Int) (sp : List Int) : Int × Int := farP r.course (r.metres * r.legs) sp t
def atWh (r : Race) (t : Int) (x : Sw) : Wh := ⟨x.who, fracN (atP r t x.sp).1 (atP r t x.sp).2, fracD (atP r t x.sp).1 (atP r t x.sp).2⟩
def swCf (r : Race) (t : Int) (x y : Sw) : Int := Lib.compareInt ((atP r t y.sp).1 * (atP r t x.sp).2) ((atP r t x.sp).1 * (atP r t y.sp).2)
theorem atWh_ok {r : Race} {t : Int} {x : Sw} (h : wholeErr r x.sp = 0) (h0 : 0 ≤ t) (h1 : t ≤ 360000) : whOk (atWh r t x) := by
  obtain ⟨b1, b2, b3, b4⟩ := farP_bd h h0 h1
  exact frac_bd2 b1 b2 b3 b4
theorem atWh_cmp {r : Race} {t : Int} {x y : Sw} (hx : wholeErr r x.sp = 0) (hy : wholeErr r y.sp = 0) (h0 : 0 ≤ t) (h1 : t ≤ 360000) : whCf0 (atWh r t x) (atWh r t y) = swCf r t x y := by
  obtain ⟨b1, b2, b3, b4⟩ := farP_bd hx h0 h1
  obtain ⟨c1, c2, c3, c4⟩ := farP_bd hy h0 h1
  exact frac_cmp b3 c3
def swSort (r : Race) (t : Int) (l : List Sw) : List Sw := insL (ltOf (swCf r t)) l
/-- all are sorted by their spots as their wheres are -/
theorem wheres_same {r : Race} {t : Int} {l : List Sw} (hw : ∀ x ∈ l, wholeErr r x.sp = 0) (h0 : 0 ≤ t) (h1 : t ≤ 360000) : whSort (l.map (atWh r t)) = (swSort r t l).map (atWh r t) := by
  obtain ⟨l', rfl⟩ := sub_list l hw
  unfold whSort swSort
  rcases l' with _ | ⟨x0, r0⟩
  · rw [List.map_nil, List.map_nil, insL_nil, insL_nil, List.map_nil]
  · haveI : Inhabited { x : Sw // wholeErr r x.sp = 0 } := ⟨x0⟩
    have e1 := insL_map (fun x y : { x : Sw // wholeErr r x.sp = 0 } => ltOf (swCf r t) x.1 y.1) (ltOf (swCf r t)) Subtype.val (fun _ _ => rfl) (x0 :: r0)
    have e2 := insL_map (fun x y : { x : Sw // wholeErr r x.sp = 0 } => ltOf (swCf r t) x.1 y.1) (ltOf whCf0) (fun x => atWh r t x.1) (fun x y => by unfold ltOf; rw [atWh_cmp x.2 y.2 h0 h1]) (x0 :: r0)
    rw [e1, List.map_map, List.map_map]
    exact e2
theorem mul_in {a b : Int} (h0 : 0 ≤ a) (h1 : a ≤ 4400000000) (h2 : 0 ≤ b) (h3 : b ≤ 360000) : -9223372036854775808 ≤ a * b ∧ a * b ≤ 9223372036854775807 := by
  have := mul_bd h0 h1 h2 h3
  omega

/-! ## the closure -/
theorem grow_of {w w' : World} (h : Below w.heap.size w w') (hd : w.drawn ≤ w'.drawn) : ∃ q os, w' = grow (w.drewN q) os := by
  refine ⟨w'.drawn - w.drawn, w'.heap.extract w.heap.size w'.heap.size, ?_⟩
  obtain ⟨h1, h2, h3, h4, h5⟩ := h
  obtain ⟨hp, tp, dr, os, ou⟩ := w
  obtain ⟨hp', tp', dr', os', ou'⟩ := w'
  simp only at h1 h2 h3 h4 h5 hd
  subst h1 h2 h3
  unfold grow World.drewN
  simp only [World.mk.injEq, and_true, true_and]
  refine ⟨?_, by omega⟩
  apply Array.ext_getElem?
  intro k
  rw [Array.getElem?_append]
  split
  · rename_i hk; exact h5 k hk
  · rename_i hk
    rw [Array.getElem?_extract]
    split
    · congr 1; omega
    · exact Array.getElem?_eq_none (by omega)
end Go.Proofs.YtcmfgmdkdpadjaaGreatDoor

/- race.at: where all are at a time, from the farthest on; checkTime, At, Order. -/
namespace Go.Proofs.YtcmfgmdkdpadjaaGreatDoor
open Go.RowKit Go.Sort
set_option linter.unusedVariables false

def whL (r : Race) (t : Int) (l : List Sw) : List Wh := whSort (l.map (atWh r t))
theorem whL_len (r : Race) (t : Int) (l : List Sw) : (whL r t l).length = l.length := by unfold whL whSort; rw [insL_len, List.length_map]
theorem atWh_at {r : Race} {t : Int} {l : List Sw} {k : Nat} {x : Sw} (h : l[k]? = some x) : (l.drop k).map (atWh r t) = atWh r t x :: (l.drop (k + 1)).map (atWh r t) := by rw [drop_at h]; rfl
def timeE (r : Race) (l : List Sw) (t : Int) : Int := if fieldErr r l = 0 then (if 0 ≤ t ∧ t ≤ 360000 then 0 else 1) else fieldErr r l
def atLs (r : Race) (l : List Sw) (t : Int) : List Wh := if timeE r l t = 0 then whL r t l else []
theorem timeE_ok {r : Race} {l : List Sw} {t : Int} (h : timeE r l t = 0) : fieldErr r l = 0 ∧ 0 ≤ t ∧ t ≤ 360000 := by
  unfold timeE at h
  split at h
  · rename_i h1
    split at h
    · rename_i h2; exact ⟨h1, h2.1, h2.2⟩
    · cases h
  · rename_i h1; exact absurd h h1
theorem info_str : (Tryz.prog.info? 9).map (fun i => (i.zero, i.size, i.bytes)) = some (some (.string ⟨#[]⟩), 1, 16) := by kernel_rfl
def strs (l : List ByteArray) : List Value := l.map Value.string
theorem whos_at {l : List Wh} {k : Nat} {x : Wh} (h : l[k]? = some x) : (l.drop k).map Wh.who = x.who :: (l.drop (k + 1)).map Wh.who := by rw [drop_at h]; rfl
end Go.Proofs.YtcmfgmdkdpadjaaGreatDoor
