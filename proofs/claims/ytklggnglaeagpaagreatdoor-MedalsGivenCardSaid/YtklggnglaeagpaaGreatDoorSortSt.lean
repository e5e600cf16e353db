import Derived.Test.YtklggnglaeagpaaGreatDoorSortR
import Derived.Test.YtklggnglaeagpaaGreatDoorBestR
import Derived.Deep.RegionHeld3
/- api.Where as data; the order of wheres and of swims; plain lemmas on the insertion sort. -/
namespace Go.Proofs.YtklggnglaeagpaaGreatDoor
open Go.RowKit Go.Shelf Go.Lib Go.Sort
set_option linter.unusedVariables false

section
variable {α β : Type} [Inhabited α] [Inhabited β]
/-- the insertion sort of a mapped row is the mapped row of the sort -/
theorem swp_map (f : α → β) (d : Array α) (i j : Nat) (hi : i < d.size) (hj : j < d.size) : swp (d.map f) i j = (swp d i j).map f := by
  apply Array.ext_getElem?
  intro k
  have e1 : (d.map f)[i]! = f d[i]! := by rw [getElem!_pos (d.map f) i (by simpa using hi), getElem!_pos d i hi, Array.getElem_map]
  have e2 : (d.map f)[j]! = f d[j]! := by rw [getElem!_pos (d.map f) j (by simpa using hj), getElem!_pos d j hj, Array.getElem_map]
  unfold swp
  rw [e1, e2]
  simp only [Array.getElem?_map, Array.getElem?_setIfInBounds, Array.size_setIfInBounds, Array.size_map]
  repeat' split
  all_goals simp_all
theorem insInner_map (ltA : α → α → Bool) (ltB : β → β → Bool) (f : α → β) (h : ∀ x y, ltB (f x) (f y) = ltA x y) (a : Nat) : ∀ (j : Nat) (d : Array α), j < d.size → insInner ltB a j (d.map f) = (insInner ltA a j d).map f
  | 0, _, _ => rfl
  | j + 1, d, hj => by
    have e1 : (d.map f)[j + 1]! = f d[j + 1]! := by rw [getElem!_pos (d.map f) (j + 1) (by simpa using hj), getElem!_pos d (j + 1) hj, Array.getElem_map]
    have e2 : (d.map f)[j]! = f d[j]! := by rw [getElem!_pos (d.map f) j (by simp; omega), getElem!_pos d j (by omega), Array.getElem_map]
    unfold insInner
    rw [e1, e2, h]
    split
    · rw [swp_map f d (j + 1) j hj (by omega), insInner_map ltA ltB f h a j _ (by rw [size_swp]; omega)]
    · rfl
theorem insOuter_map (ltA : α → α → Bool) (ltB : β → β → Bool) (f : α → β) (h : ∀ x y, ltB (f x) (f y) = ltA x y) (a b : Nat) : ∀ (m i : Nat) (d : Array α), b - i ≤ m → b ≤ d.size → insOuter ltB a b i (d.map f) = (insOuter ltA a b i d).map f
  | 0, i, d, hm, hb => by
    unfold insOuter
    rw [if_neg (by omega), if_neg (by omega)]
  | m + 1, i, d, hm, hb => by
    unfold insOuter
    split
    · rw [insInner_map ltA ltB f h a i d (by omega), insOuter_map ltA ltB f h a b m (i + 1) _ (by omega) (by rw [insInner_size]; exact hb)]
    · rfl
theorem insL_map (ltA : α → α → Bool) (ltB : β → β → Bool) (f : α → β) (h : ∀ x y, ltB (f x) (f y) = ltA x y) (l : List α) : insL ltB (l.map f) = (insL ltA l).map f := by
  unfold insL insertionSort
  have e : (l.map f).toArray = l.toArray.map f := by simp
  rw [e, List.length_map, insOuter_map ltA ltB f h 0 l.length _ 1 l.toArray (Nat.le_refl _) (by simp)]
  simp
theorem insL_nil (lt : α → α → Bool) : insL lt ([] : List α) = [] := List.eq_nil_of_length_eq_zero (insL_len lt [])
/-- two comparisons that part what comes later from what came before alike sort alike -/
theorem swp_at (d : Array α) (j k : Nat) (hj : j + 1 < d.size) (hk : k < d.size) : (swp d (j + 1) j)[k]! = if k = j then d[j + 1]! else if k = j + 1 then d[j]! else d[k]! := by
  unfold swp
  rw [getElem!_pos d j (by omega), getElem!_pos d (j + 1) hj, getElem!_pos d k hk, getElem!_pos _ k (by simpa using hk)]
  by_cases h1 : k = j
  · subst h1; simp
  · by_cases h2 : k = j + 1
    · subst h2
      rw [if_neg h1, if_pos rfl]
      rw [Array.getElem_setIfInBounds_ne (by simpa using hk) (by omega)]
      simp
    · rw [if_neg h1, if_neg h2]
      rw [Array.getElem_setIfInBounds_ne (by simpa using hk) (by omega), Array.getElem_setIfInBounds_ne hk (by omega)]
theorem insInner_at (lt : α → α → Bool) (a : Nat) : ∀ (j : Nat) (d : Array α), j < d.size → (∀ k, j < k → k < d.size → (insInner lt a j d)[k]! = d[k]!) ∧ (∀ k, k ≤ j → ∃ k', k' ≤ j ∧ (insInner lt a j d)[k]! = d[k']!)
  | 0, d, _ => ⟨fun _ _ _ => rfl, fun k hk => ⟨k, hk, rfl⟩⟩
  | j + 1, d, hj => by
    unfold insInner
    split
    · obtain ⟨h1, h2⟩ := insInner_at lt a j (swp d (j + 1) j) (by rw [size_swp]; omega)
      have hs : ∀ k, k ≤ j + 1 → ∃ k', k' ≤ j + 1 ∧ (swp d (j + 1) j)[k]! = d[k']! := by
        intro k hk
        rw [swp_at d j k hj (by omega)]
        split
        · exact ⟨j + 1, by omega, rfl⟩
        · split
          · exact ⟨j, by omega, rfl⟩
          · exact ⟨k, hk, rfl⟩
      refine ⟨fun k hk hkd => ?_, fun k hk => ?_⟩
      · rw [h1 k (by omega) (by rw [size_swp]; exact hkd), swp_at d j k hj hkd, if_neg (by omega), if_neg (by omega)]
      · by_cases e : k = j + 1
        · rw [h1 k (by omega) (by rw [size_swp]; omega)]
          exact hs k hk
        · obtain ⟨k', hk', he⟩ := h2 k (by omega)
          obtain ⟨k2, hk2, he2⟩ := hs k' (by omega)
          exact ⟨k2, hk2, he.trans he2⟩
    · exact ⟨fun _ _ _ => rfl, fun k hk => ⟨k, hk, rfl⟩⟩
theorem insInner_same (l1 l2 : α → α → Bool) (a : Nat) : ∀ (j : Nat) (d : Array α), j < d.size → (∀ k, k < j → l1 d[j]! d[k]! = l2 d[j]! d[k]!) → insInner l1 a j d = insInner l2 a j d
  | 0, _, _, _ => rfl
  | j + 1, d, hj, h => by
    unfold insInner
    rw [h j (by omega)]
    split
    · refine insInner_same l1 l2 a j _ (by rw [size_swp]; omega) (fun k hk => ?_)
      rw [swp_at d j j hj (by omega), if_pos rfl, swp_at d j k hj (by omega), if_neg (by omega), if_neg (by omega)]
      exact h k (by omega)
    · rfl
theorem insOuter_same (l1 l2 : α → α → Bool) (a b : Nat) : ∀ (m i : Nat) (d : Array α), b - i ≤ m → b ≤ d.size → (∀ p k, i ≤ p → p < b → k < p → l1 d[p]! d[k]! = l2 d[p]! d[k]!) → insOuter l1 a b i d = insOuter l2 a b i d
  | 0, i, d, hm, hb, h => by
    unfold insOuter
    rw [if_neg (by omega), if_neg (by omega)]
  | m + 1, i, d, hm, hb, h => by
    unfold insOuter
    split
    · rename_i hi
      rw [insInner_same l1 l2 a i d (by omega) (fun k hk => h i k (Nat.le_refl _) hi hk)]
      obtain ⟨h1, h2⟩ := insInner_at l2 a i d (by omega)
      refine insOuter_same l1 l2 a b m (i + 1) _ (by omega) (by rw [insInner_size]; exact hb) (fun p k hp hpb hk => ?_)
      rw [h1 p (by omega) (by omega)]
      by_cases e : k ≤ i
      · obtain ⟨k', hk', he⟩ := h2 k e
        rw [he]
        exact h p k' (by omega) hpb (by omega)
      · rw [h1 k (by omega) (by omega)]
        exact h p k (by omega) hpb hk
    · rfl
theorem insL_same (l1 l2 : α → α → Bool) (l : List α) (h : ∀ (p k : Nat) (x y : α), k < p → l[p]? = some x → l[k]? = some y → l1 x y = l2 x y) : insL l1 l = insL l2 l := by
  unfold insL insertionSort
  rw [insOuter_same l1 l2 0 l.length _ 1 l.toArray (Nat.le_refl _) (by simp) (fun p k h1 hp hk => ?_)]
  have e1 : l.toArray[p]! = l[p] := by rw [getElem!_pos l.toArray p (by simpa using hp)]; simp
  have e2 : l.toArray[k]! = l[k] := by rw [getElem!_pos l.toArray k (by simp; omega)]; simp
  rw [e1, e2]
  exact h p k _ _ hk (List.getElem?_eq_getElem hp) (List.getElem?_eq_getElem (by omega))
end
theorem sub_list {α : Type} {p : α → Prop} (l : List α) (h : ∀ x ∈ l, p x) : ∃ l' : List { x // p x }, l'.map Subtype.val = l := by
  induction l with
  | nil => exact ⟨[], rfl⟩
  | cons x r ih =>
    obtain ⟨r', hr⟩ := ih (fun y hy => h y (by simp [hy]))
    exact ⟨⟨x, h x (by simp)⟩ :: r', by rw [List.map_cons, hr]⟩

structure Wh where
  who : ByteArray
  num : Int
  den : Int
deriving DecidableEq
instance : Inhabited Wh := ⟨⟨⟨#[]⟩, 0, 0⟩⟩
def whE (x : Wh) : List Value := [.string x.who, .int .i64 x.num, .int .i64 x.den]
theorem whE_len : ∀ x, (whE x).length = 3 := fun _ => rfl
def whOk (x : Wh) : Prop := 0 ≤ x.num ∧ x.num ≤ 4400000000 ∧ 0 < x.den ∧ x.den ≤ 360000
abbrev WhB := { x : Wh // whOk x }
instance : Inhabited WhB := ⟨⟨⟨⟨#[]⟩, 0, 1⟩, by decide, by decide, by decide, by decide⟩⟩
def whB (x : WhB) : List Value := whE x.1
def whCf0 (x y : Wh) : Int := Lib.compareInt (y.num * x.den) (x.num * y.den)
def whCf (x y : WhB) : Int := whCf0 x.1 y.1
/-- wheres from the farthest on -/
def whSort (l : List Wh) : List Wh := insL (ltOf whCf0) l
theorem whSort_val (l : List WhB) : (insL (ltOf whCf) l).map Subtype.val = whSort (l.map Subtype.val) := (insL_map (ltOf whCf) (ltOf whCf0) Subtype.val (fun _ _ => rfl) l).symm
theorem whB_flat (l : List WhB) : l.flatMap whB = (l.map Subtype.val).flatMap whE := by
  induction l with
  | nil => rfl
  | cons x r ih => rw [List.flatMap_cons, List.map_cons, List.flatMap_cons, ih]; rfl
theorem cmpInt_scale {k x y : Int} (hk : 0 < k) : Lib.compareInt (k * x) (k * y) = Lib.compareInt x y := by
  unfold Lib.compareInt
  by_cases h1 : x < y
  · rw [if_pos h1, if_pos (Int.mul_lt_mul_of_pos_left h1 hk)]
  · rw [if_neg h1, if_neg (fun h => h1 (Int.lt_of_mul_lt_mul_left h (Int.le_of_lt hk)))]
    by_cases h2 : y < x
    · rw [if_pos h2, if_pos (Int.mul_lt_mul_of_pos_left h2 hk)]
    · rw [if_neg h2, if_neg (fun h => h2 (Int.lt_of_mul_lt_mul_left h (Int.le_of_lt hk)))]
theorem frac_split {a b : Int} (hb : 0 < b) : 0 < (Int.gcd a b : Int) ∧ a = (Int.gcd a b : Int) * fracN a b ∧ b = (Int.gcd a b : Int) * fracD a b :=
  ⟨by have := gcd_pos (a := a) hb; omega, (Int.mul_ediv_cancel' (Int.gcd_dvd_left _ _)).symm, (Int.mul_ediv_cancel' (Int.gcd_dvd_right _ _)).symm⟩
theorem frac_bd2 {a b : Int} (ha : 0 ≤ a) (ha1 : a ≤ 4400000000) (hb : 0 < b) (hb1 : b ≤ 360000) : 0 ≤ fracN a b ∧ fracN a b ≤ 4400000000 ∧ 0 < fracD a b ∧ fracD a b ≤ 360000 := by
  have hg := gcd_pos (a := a) hb
  obtain ⟨h1, h2, h3⟩ := frac_split (a := a) hb
  have n0 : 0 ≤ fracN a b := Int.ediv_nonneg ha (by omega)
  have n1 : fracN a b ≤ a := Int.ediv_le_self _ ha
  have d1 : fracD a b ≤ b := Int.ediv_le_self _ (by omega)
  have d0 : 0 < fracD a b := Int.ediv_pos_of_pos_of_dvd hb (by omega) (Int.gcd_dvd_right _ _)
  omega
/-- the order of two fractions is that of what they were made of -/
theorem frac_cmp {a b c d : Int} (hb : 0 < b) (hd : 0 < d) : Lib.compareInt (fracN c d * fracD a b) (fracN a b * fracD c d) = Lib.compareInt (c * b) (a * d) := by
  obtain ⟨g1, a1, b1⟩ := frac_split (a := a) hb
  obtain ⟨g2, c1, d1⟩ := frac_split (a := c) hd
  generalize (Int.gcd a b : Int) = g at *
  generalize (Int.gcd c d : Int) = h at *
  generalize fracN a b = x at *
  generalize fracD a b = y at *
  generalize fracN c d = u at *
  generalize fracD c d = v at *
  subst a1 b1 c1 d1
  rw [← cmpInt_scale (x := u * y) (y := x * v) (Int.mul_pos g1 g2)]
  congr 1
  · simp only [Int.mul_comm, Int.mul_left_comm]
  · simp only [Int.mul_comm, Int.mul_left_comm]

/-! ## where somebody is -/
instance : Inhabited Sw := ⟨⟨⟨#[]⟩, none, 0, 0, []⟩⟩
def atP (r : Race) (t : Int) (sp : List Int) : Int × Int := farP r.course (r.metres * r.legs) sp t
def atWh (r : Race) (t : Int) (x : Sw) : Wh := ⟨x.who, fracN (atP r t x.sp).1 (atP r t x.sp).2, fracD (atP r t x.sp).1 (atP r t x.sp).2⟩
def swCf (r : Race) (t : Int) (x y : Sw) : Int := Lib.compareInt ((atP r t y.sp).1 * (atP r t x.sp).2) ((atP r t x.sp).1 * (atP r t y.sp).2)
theorem atWh_ok {r : Race} {t : Int} {x : Sw} (h : wholeErr r x.sp = 0) (h0 : 0 ≤ t) (h1 : t ≤ 360000) : whOk (atWh r t x) := by
  obtain ⟨b1, b2, b3, b4⟩ := farP_bd h h0 h1
  exact frac_bd2 b1 b2 b3 b4
theorem atWh_cmp {r : Race} {t : Int} {x y : Sw} (hx : wholeErr r x.sp = 0) (hy : wholeErr r y.sp = 0) (h0 : 0 ≤ t) (h1 : t ≤ 360000) : whCf0 (atWh r t x) (atWh r t y) = swCf r t x y := by
  obtain ⟨b1, b2, b3, b4⟩ := farP_bd hx h0 h1
  obtain ⟨c1, c2, c3, c4⟩ := farP_bd hy h0 h1
  exact frac_cmp b3 c3
def swSort (r : Race) (t : Int) (l : List Sw) : List Sw := insL (ltOf (swCf r t)) l
/-- all are sorted by their spots as their wheres are -/
theorem wheres_same {r : Race} {t : Int} {l : List Sw} (hw : ∀ x ∈ l, wholeErr r x.sp = 0) (h0 : 0 ≤ t) (h1 : t ≤ 360000) : whSort (l.map (atWh r t)) = (swSort r t l).map (atWh r t) := by
  obtain ⟨l', rfl⟩ := sub_list l hw
  unfold whSort swSort
  rcases l' with _ | ⟨x0, r0⟩
  · rw [List.map_nil, List.map_nil, insL_nil, insL_nil, List.map_nil]
  · haveI : Inhabited { x : Sw // wholeErr r x.sp = 0 } := ⟨x0⟩
    have e1 := insL_map (fun x y : { x : Sw // wholeErr r x.sp = 0 } => ltOf (swCf r t) x.1 y.1) (ltOf (swCf r t)) Subtype.val (fun _ _ => rfl) (x0 :: r0)
    have e2 := insL_map (fun x y : { x : Sw // wholeErr r x.sp = 0 } => ltOf (swCf r t) x.1 y.1) (ltOf whCf0) (fun x => atWh r t x.1) (fun x y => by unfold ltOf; rw [atWh_cmp x.2 y.2 h0 h1]) (x0 :: r0)
    rw [e1, List.map_map, List.map_map]
    exact e2
theorem mul_in {a b : Int} (h0 : 0 ≤ a) (h1 : a ≤ 4400000000) (h2 : 0 ≤ b) (h3 : b ≤ 360000) : -9223372036854775808 ≤ a * b ∧ a * b ≤ 9223372036854775807 := by
  have := mul_bd h0 h1 h2 h3
  omega

/-! ## the closure -/
end Go.Proofs.YtklggnglaeagpaaGreatDoor

/- race.at: where all are at a time, from the farthest on; checkTime, At, Order. -/
namespace Go.Proofs.YtklggnglaeagpaaGreatDoor
open Go.RowKit Go.Sort
set_option linter.unusedVariables false

def whL (r : Race) (t : Int) (l : List Sw) : List Wh := whSort (l.map (atWh r t))
theorem whL_len (r : Race) (t : Int) (l : List Sw) : (whL r t l).length = l.length := by unfold whL whSort; rw [insL_len, List.length_map]
theorem atWh_at {r : Race} {t : Int} {l : List Sw} {k : Nat} {x : Sw} (h : l[k]? = some x) : (l.drop k).map (atWh r t) = atWh r t x :: (l.drop (k + 1)).map (atWh r t) := by rw [drop_at h]; rfl
def timeE (r : Race) (l : List Sw) (t : Int) : Int := if fieldErr r l = 0 then (if 0 ≤ t ∧ t ≤ 360000 then 0 else 1) else fieldErr r l
def atLs (r : Race) (l : List Sw) (t : Int) : List Wh := if timeE r l t = 0 then whL r t l else []
theorem timeE_ok {r : Race} {l : List Sw} {t : Int} (h : timeE r l t = 0) : fieldErr r l = 0 ∧ 0 ≤ t ∧ t ≤ 360000 := by
  unfold timeE at h
  split at h
  · rename_i h1
    split at h
    · rename_i h2; exact ⟨h1, h2.1, h2.2⟩
    · cases h
  · rename_i h1; exact absurd h h1
theorem info_str : (Tryz.prog.info? 9).map (fun i => (i.zero, i.size, i.bytes)) = some (some (.string ⟨#[]⟩), 1, 16) := by kernel_rfl
def strs (l : List ByteArray) : List Value := l.map Value.string
theorem whos_at {l : List Wh} {k : Nat} {x : Wh} (h : l[k]? = some x) : (l.drop k).map Wh.who = x.who :: (l.drop (k + 1)).map Wh.who := by rw [drop_at h]; rfl
end Go.Proofs.YtklggnglaeagpaaGreatDoor

/- Who leads, and for how long: as data. -/
namespace Go.Proofs.YtklggnglaeagpaaGreatDoor
open Go.RowKit
set_option linter.unusedVariables false

section
variable {α : Type}
/-- the farthest ones (f: how far, as a fraction), in order -/
def ldF (f : α → Int × Int) : List α → Int × Int → List α → List α
  | acc, _, [] => acc
  | acc, b, x :: l => if acc = [] ∨ Lib.compareInt ((f x).1 * b.2) (b.1 * (f x).2) = 1 then ldF f [x] (f x) l else if Lib.compareInt ((f x).1 * b.2) (b.1 * (f x).2) = 0 then ldF f (acc ++ [x]) b l else ldF f acc b l
theorem ldF_at {f : α → Int × Int} {l : List α} {k : Nat} {x : α} (acc : List α) (b : Int × Int) (h : l[k]? = some x) :
    ldF f acc b (l.drop k) = if acc = [] ∨ Lib.compareInt ((f x).1 * b.2) (b.1 * (f x).2) = 1 then ldF f [x] (f x) (l.drop (k + 1)) else if Lib.compareInt ((f x).1 * b.2) (b.1 * (f x).2) = 0 then ldF f (acc ++ [x]) b (l.drop (k + 1)) else ldF f acc b (l.drop (k + 1)) := by rw [drop_at h]; rfl
/-- where the walk begins makes no matter -/
theorem ldF_first (f : α → Int × Int) (b b' : Int × Int) (l : List α) : ldF f [] b l = ldF f [] b' l := by
  cases l with
  | nil => rfl
  | cons x l => simp [ldF]
/-- phases, the newest first: from, to, who (told by keys) -/
def phR [DecidableEq α] (L : Nat → List α) : Nat → List (Nat × Nat × List α)
  | 0 => []
  | t + 1 => match phR L t with
    | [] => [(t, t + 1, L t)]
    | y :: P => if y.2.2 = L t then (y.1, t + 1, y.2.2) :: P else (t, t + 1, L t) :: y :: P
theorem phR_ne [DecidableEq α] (L : Nat → List α) (t : Nat) : phR L (t + 1) ≠ [] := by
  rw [phR]
  split
  · simp
  · split <;> simp
theorem phR_len [DecidableEq α] (L : Nat → List α) (t : Nat) : (phR L t).length ≤ t := by
  induction t with
  | zero => simp [phR]
  | succ t ih =>
    rw [phR]
    split
    · simp
    · rename_i y P h
      rw [h] at ih
      split
      · simp at ih ⊢; omega
      · simp at ih ⊢; omega
/-- the newest phase has who leads -/
theorem phR_last [DecidableEq α] (L : Nat → List α) (t : Nat) : ∃ a P, phR L (t + 1) = (a, t + 1, L t) :: P := by
  rw [phR]
  split
  · exact ⟨_, _, rfl⟩
  · rename_i y P h
    split
    · rename_i e; exact ⟨_, _, by rw [e]⟩
    · exact ⟨_, _, rfl⟩
theorem phR_same [DecidableEq α] {L : Nat → List α} {t a : Nat} {P : List (Nat × Nat × List α)} (h : phR L (t + 1) = (a, t + 1, L t) :: P) (he : L (t + 1) = L t) : phR L (t + 2) = (a, t + 2, L (t + 1)) :: P := by
  rw [phR, h]
  simp [he]
theorem phR_new [DecidableEq α] {L : Nat → List α} {t : Nat} (he : L (t + 1) ≠ L t) : phR L (t + 2) = (t + 1, t + 2, L (t + 1)) :: phR L (t + 1) := by
  obtain ⟨a, P, h⟩ := phR_last L t
  rw [phR, h]
  simp
  exact fun h => he h.symm
/-- keys and names tell the same -/
theorem phR_map {β : Type} [DecidableEq α] [DecidableEq β] (L : Nat → List α) (g : α → β) (n : Nat) (h : ∀ t s, t < n → s < n → (L t).map g = (L s).map g → L t = L s) : ∀ t, t ≤ n → phR (fun t => (L t).map g) t = (phR L t).map (fun y => (y.1, y.2.1, y.2.2.map g))
  | 0, _ => rfl
  | t + 1, ht => by
    have ih := phR_map L g n h t (by omega)
    rw [phR, ih]
    cases t with
    | zero => simp [phR]
    | succ t =>
      obtain ⟨a, P, hP⟩ := phR_last L t
      rw [hP]
      by_cases he : L (t + 1) = L t
      · rw [phR_same hP he]; simp [he]
      · rw [phR_new he, hP]
        have hne : ¬ (L t).map g = (L (t + 1)).map g := fun hh => he (h t (t + 1) (by omega) (by omega) hh).symm
        simp [hne]
end
end Go.Proofs.YtklggnglaeagpaaGreatDoor

/- Phases: what they are like; who leads is who is farthest. Plain. -/
namespace Go.Proofs.YtklggnglaeagpaaGreatDoor
open Go.RowKit
set_option linter.unusedVariables false

section
variable {α : Type}
structure PhOk (L : Nat → List α) (out : List (Nat × Nat × List α)) (n : Nat) : Prop where
  emp : out = [] → n = 0
  at_ : ∀ j y, out[j]? = some y → y.1 < y.2.1 ∧ y.2.1 ≤ n ∧ (j = 0 → y.1 = 0) ∧ (∀ t, y.1 ≤ t → t < y.2.1 → L t = y.2.2) ∧ (j + 1 = out.length → y.2.1 = n)
  nxt : ∀ j y z, out[j]? = some y → out[j + 1]? = some z → y.2.1 = z.1 ∧ y.2.2 ≠ z.2.2
theorem snoc_at {β : Type} {l : List β} {x y : β} {j : Nat} (h : (l ++ [x])[j]? = some y) : (j < l.length ∧ l[j]? = some y) ∨ (j = l.length ∧ x = y) := by
  rcases Nat.lt_trichotomy j l.length with h1 | h1 | h1
  · rw [List.getElem?_append_left h1] at h; exact .inl ⟨h1, h⟩
  · subst h1; rw [List.getElem?_append_right (Nat.le_refl _)] at h; simp at h; exact .inr ⟨rfl, h⟩
  · rw [List.getElem?_eq_none (by simp; omega)] at h; cases h
theorem snoc_last {β : Type} (l : List β) (x : β) : (l ++ [x])[l.length]? = some x := by rw [List.getElem?_append_right (Nat.le_refl _)]; simp
theorem PhOk.ext {L : Nat → List α} {out : List (Nat × Nat × List α)} {n a : Nat} (h : PhOk L (out ++ [(a, n, L n)]) n) : PhOk L (out ++ [(a, n + 1, L n)]) (n + 1) := by
  obtain ⟨p1, p2, p3, p4, p5⟩ := h.at_ _ _ (snoc_last out (a, n, L n))
  refine ⟨fun e => by simp at e, fun j y hy => ?_, fun j y z hy hz => ?_⟩
  · rcases snoc_at hy with ⟨h1, h2⟩ | ⟨rfl, rfl⟩
    · obtain ⟨q1, q2, q3, q4, q5⟩ := h.at_ j y (by rw [List.getElem?_append_left h1]; exact h2)
      exact ⟨q1, by omega, q3, q4, fun e => by simp at e; omega⟩
    · refine ⟨by simp at p1 ⊢; omega, Nat.le_refl _, p3, fun t t0 t1 => ?_, fun _ => rfl⟩
      simp at t0 t1 ⊢
      rcases Nat.lt_or_ge t n with h1 | h1
      · exact p4 t t0 h1
      · rw [show t = n by omega]
  · rcases snoc_at hz with ⟨h1, h2⟩ | ⟨h1, rfl⟩
    · exact h.nxt j y z (by rw [List.getElem?_append_left (by omega)]; rw [List.getElem?_append_left (by omega)] at hy; exact hy) (by rw [List.getElem?_append_left h1]; exact h2)
    · exact h.nxt j y (a, n, L n) (by rw [List.getElem?_append_left (by omega)] at hy ⊢; exact hy) (by rw [h1]; exact snoc_last _ _)
theorem PhOk.app {L : Nat → List α} {out : List (Nat × Nat × List α)} {n : Nat} (h : PhOk L out n) (hne : ∀ y, out[out.length - 1]? = some y → y.2.2 ≠ L n) : PhOk L (out ++ [(n, n + 1, L n)]) (n + 1) := by
  refine ⟨fun e => by simp at e, fun j y hy => ?_, fun j y z hy hz => ?_⟩
  · rcases snoc_at hy with ⟨h1, h2⟩ | ⟨rfl, rfl⟩
    · obtain ⟨q1, q2, q3, q4, q5⟩ := h.at_ j y h2
      exact ⟨q1, by omega, q3, q4, fun e => by simp at e; omega⟩
    · refine ⟨by simp, Nat.le_refl _, fun e => h.emp (List.eq_nil_of_length_eq_zero e), fun t t0 t1 => ?_, fun _ => rfl⟩
      simp at t0 t1 ⊢
      rw [show t = n by omega]
  · rcases snoc_at hz with ⟨h1, h2⟩ | ⟨h1, rfl⟩
    · exact h.nxt j y z (by rw [List.getElem?_append_left (by omega)] at hy; exact hy) h2
    · rw [List.getElem?_append_left (by omega)] at hy
      obtain ⟨q1, q2, q3, q4, q5⟩ := h.at_ j y hy
      exact ⟨q5 h1, hne y (by rw [← h1]; exact hy)⟩
theorem phOk [DecidableEq α] (L : Nat → List α) : ∀ n, PhOk L (phR L n).reverse n
  | 0 => ⟨fun _ => rfl, fun j y h => by simp [phR] at h, fun j y z h => by simp [phR] at h⟩
  | n + 1 => by
    have ih := phOk L n
    rcases n with _ | n
    · have e : (phR L 1).reverse = [] ++ [(0, 0 + 1, L 0)] := by simp [phR]
      rw [e]
      exact PhOk.app (by simpa [phR] using ih) (by simp)
    · obtain ⟨a, P, hP⟩ := phR_last L n
      by_cases he : L (n + 1) = L n
      · rw [phR_same hP he, List.reverse_cons]
        rw [hP, List.reverse_cons, ← he] at ih
        exact ih.ext
      · rw [phR_new he, List.reverse_cons]
        refine ih.app ?_
        rw [hP, List.reverse_cons]
        intro y hy
        simp only [List.length_append, List.length_singleton, Nat.add_sub_cancel] at hy
        rw [snoc_last] at hy
        injection hy with hy
        subst hy
        exact fun h => he h.symm
theorem ph_ne [DecidableEq α] (L : Nat → List α) {n : Nat} (h : 0 < n) : (phR L n).reverse ≠ [] := fun e => by have := (phOk L n).emp e; omega
end
section
variable {α : Type}
theorem cmp3' (a b : Int) : Lib.compareInt a b = -1 ∨ Lib.compareInt a b = 0 ∨ Lib.compareInt a b = 1 := by unfold Lib.compareInt; split <;> (try split) <;> simp
theorem cmpI_one {a b : Int} : Lib.compareInt a b = 1 ↔ b < a := by unfold Lib.compareInt; split <;> (try split) <;> simp <;> omega
theorem cmpI_zero {a b : Int} : Lib.compareInt a b = 0 ↔ a = b := by unfold Lib.compareInt; split <;> (try split) <;> simp <;> omega
theorem cmpI_neg {a b : Int} : Lib.compareInt a b = -1 ↔ a < b := by unfold Lib.compareInt; split <;> (try split) <;> simp <;> omega
/-- cross products: a fraction that is not less than a second one, which is not less than a third one -/
theorem cross_trans {a b c d e f : Int} (hb : 0 < b) (hd : 0 < d) (hf : 0 < f) (h1 : c * b ≤ a * d) (h2 : e * d ≤ c * f) : e * b ≤ a * f := by
  have e1 : e * d * b ≤ c * f * b := Int.mul_le_mul_of_nonneg_right h2 (by omega)
  have e2 : c * b * f ≤ a * d * f := Int.mul_le_mul_of_nonneg_right h1 (by omega)
  have e3 : e * b * d ≤ a * f * d := by
    calc e * b * d = e * d * b := by rw [Int.mul_assoc, Int.mul_comm b d, ← Int.mul_assoc]
      _ ≤ c * f * b := e1
      _ = c * b * f := by rw [Int.mul_assoc, Int.mul_comm f b, ← Int.mul_assoc]
      _ ≤ a * d * f := e2
      _ = a * f * d := by rw [Int.mul_assoc, Int.mul_comm d f, ← Int.mul_assoc]
  exact Int.le_of_mul_le_mul_right e3 hd
def far_le (x y : Int × Int) : Prop := x.1 * y.2 ≤ y.1 * x.2
theorem far_le_trans {x y z : Int × Int} (hx : 0 < x.2) (hy : 0 < y.2) (hz : 0 < z.2) (h1 : far_le x y) (h2 : far_le y z) : far_le x z := cross_trans hz hy hx h2 h1
/-- the farthest ones: those of the list than whom nobody is farther -/
structure LdOk (f : α → Int × Int) (seen acc : List α) (b : Int × Int) : Prop where
  emp : acc = [] → seen = []
  pos : acc ≠ [] → 0 < b.2
  top : ∀ y ∈ seen, acc ≠ [] → far_le (f y) b
  mem : ∀ x, x ∈ acc ↔ x ∈ seen ∧ far_le b (f x)
theorem ldF_ok {f : α → Int × Int} : ∀ (l seen acc : List α) (b : Int × Int), (∀ x, x ∈ seen ∨ x ∈ l → 0 < (f x).2) → LdOk f seen acc b → ∃ b', LdOk f (seen ++ l) (ldF f acc b l) b'
  | [], seen, acc, b, _, h => ⟨b, by rw [List.append_nil]; exact h⟩
  | x :: l, seen, acc, b, hf0, h => by
    have hfx : 0 < (f x).2 := hf0 x (.inr (by simp))
    have hfs : ∀ y, y ∈ seen → 0 < (f y).2 := fun y hy => hf0 y (.inl hy)
    have hfn : ∀ y, y ∈ seen ++ [x] ∨ y ∈ l → 0 < (f y).2 := fun y hy => by
      rcases hy with hy | hy
      · rcases List.mem_append.1 hy with hy | hy
        · exact hfs y hy
        · simp at hy; subst hy; exact hfx
      · exact hf0 y (.inr (List.mem_cons_of_mem _ hy))
    rw [show seen ++ x :: l = (seen ++ [x]) ++ l by simp]
    rw [ldF]
    by_cases h0 : acc = []
    · rw [if_pos (.inl h0)]
      have hs := h.emp h0
      subst hs
      refine ldF_ok l _ _ _ hfn ⟨fun e => by simp at e, fun _ => hfx, fun y hy _ => ?_, fun y => ?_⟩
      · simp at hy; subst hy; exact Int.le_refl _
      · simp; rintro rfl; exact Int.le_refl _
    have hb := h.pos h0
    have htop := fun y hy => h.top y hy h0
    by_cases h1 : Lib.compareInt ((f x).1 * b.2) (b.1 * (f x).2) = 1
    · rw [if_pos (.inr h1)]
      have h1' := cmpI_one.1 h1
      refine ldF_ok l _ _ _ hfn ⟨fun e => by simp at e, fun _ => hfx, fun y hy _ => ?_, fun y => ?_⟩
      · rcases List.mem_append.1 hy with hy | hy
        · exact far_le_trans (hfs y hy) hb hfx (htop y hy) (Int.le_of_lt h1')
        · simp at hy; subst hy; exact Int.le_refl _
      · constructor
        · intro hy; simp at hy; subst hy; exact ⟨by simp, Int.le_refl _⟩
        · rintro ⟨hy, hl⟩
          rcases List.mem_append.1 hy with hy | hy
          · have := far_le_trans hfx (hfs y hy) hb hl (htop y hy)
            unfold far_le at this
            omega
          · exact hy
    · rw [if_neg (by rintro (h | h); exact h0 h; exact h1 h)]
      by_cases h2 : Lib.compareInt ((f x).1 * b.2) (b.1 * (f x).2) = 0
      · rw [if_pos h2]
        have h2' := cmpI_zero.1 h2
        refine ldF_ok l _ _ _ hfn ⟨fun e => by simp at e, fun _ => hb, fun y hy _ => ?_, fun y => ?_⟩
        · rcases List.mem_append.1 hy with hy | hy
          · exact htop y hy
          · simp at hy; subst hy; unfold far_le; omega
        · constructor
          · intro hy
            rcases List.mem_append.1 hy with hy | hy
            · exact ⟨List.mem_append_left _ ((h.mem y).1 hy).1, ((h.mem y).1 hy).2⟩
            · exact ⟨List.mem_append_right _ hy, by simp at hy; subst hy; unfold far_le; omega⟩
          · rintro ⟨hy, hl⟩
            rcases List.mem_append.1 hy with hy | hy
            · exact List.mem_append_left _ ((h.mem y).2 ⟨hy, hl⟩)
            · exact List.mem_append_right _ hy
      · rw [if_neg h2]
        have h3 : (f x).1 * b.2 < b.1 * (f x).2 := by
          have a1 : ¬ b.1 * (f x).2 < (f x).1 * b.2 := fun h => h1 (cmpI_one.2 h)
          have a2 : ¬ (f x).1 * b.2 = b.1 * (f x).2 := fun h => h2 (cmpI_zero.2 h)
          omega
        refine ldF_ok l _ _ _ hfn ⟨fun e => absurd e h0, fun _ => hb, fun y hy _ => ?_, fun y => ?_⟩
        · rcases List.mem_append.1 hy with hy | hy
          · exact htop y hy
          · simp at hy; subst hy; unfold far_le; omega
        · constructor
          · intro hy
            exact ⟨List.mem_append_left _ ((h.mem y).1 hy).1, ((h.mem y).1 hy).2⟩
          · rintro ⟨hy, hl⟩
            rcases List.mem_append.1 hy with hy | hy
            · exact (h.mem y).2 ⟨hy, hl⟩
            · simp at hy; subst hy; unfold far_le at hl; omega
theorem ldF_spec {f : α → Int × Int} (l : List α) (hf : ∀ x ∈ l, 0 < (f x).2) (b0 : Int × Int) : (ldF f [] b0 l = [] → l = []) ∧ ∀ x, x ∈ ldF f [] b0 l ↔ x ∈ l ∧ ∀ y ∈ l, far_le (f y) (f x) := by
  obtain ⟨b, h⟩ := ldF_ok l [] [] b0 (fun x hx => by rcases hx with hx | hx; cases hx; exact hf x hx) ⟨fun _ => rfl, fun h => absurd rfl h, fun y hy => (by cases hy), fun x => (by simp)⟩
  simp only [List.nil_append] at h
  refine ⟨h.emp, fun x => ?_⟩
  constructor
  · intro hx
    have hne : ldF f [] b0 l ≠ [] := fun e => by rw [e] at hx; cases hx
    obtain ⟨h1, h2⟩ := (h.mem x).1 hx
    exact ⟨h1, fun y hy => far_le_trans (hf y hy) (h.pos hne) (hf x h1) (h.top y hy hne) h2⟩
  · rintro ⟨hx, hm⟩
    have hne : ldF f [] b0 l ≠ [] := fun e => by rw [h.emp e] at hx; cases hx
    refine (h.mem x).2 ⟨hx, ?_⟩
    obtain ⟨z, hz⟩ := List.exists_mem_of_ne_nil _ hne
    obtain ⟨z1, z2⟩ := (h.mem z).1 hz
    exact far_le_trans (h.pos hne) (hf z z1) (hf x hx) z2 (hm z z1)
end
end Go.Proofs.YtklggnglaeagpaaGreatDoor

/- The insertion sort: a permutation, ascending; stable where the list stood in a second order. Plain. -/
namespace Go.Proofs.YtklggnglaeagpaaGreatDoor
open Go.RowKit Go.Sort
set_option linter.unusedVariables false

theorem bl_eq : ∀ (x y : List UInt8), Op.bytesLess x y = decide (x < y)
  | [], [] => by simp [Op.bytesLess]
  | _ :: _, [] => by simp [Op.bytesLess]
  | [], _ :: _ => by simp [Op.bytesLess]
  | a :: x, b :: y => by
    rw [Op.bytesLess, bl_eq x y]
    simp only [List.cons_lt_cons_iff]
    by_cases h1 : a < b <;> by_cases h2 : a = b <;> by_cases h3 : x < y <;> simp [h1, h2, h3]
def ltS (a b : ByteArray) : Prop := a.toList < b.toList
theorem ltS_irrefl (a : ByteArray) : ¬ ltS a a := List.lt_irrefl _
theorem ltS_trans {a b c : ByteArray} (h : ltS a b) (k : ltS b c) : ltS a c := List.lt_trans h k
theorem ltS_asymm {a b : ByteArray} (h : ltS a b) (k : ltS b a) : False := ltS_irrefl a (ltS_trans h k)
theorem leS_not {a b : ByteArray} (h : leS a b = false) : ltS b a := by
  unfold leS at h
  rw [Bool.or_eq_false_iff, bl_eq, decide_eq_false_iff_not] at h
  obtain ⟨h1, h2⟩ := h
  have h3 : a.toList ≠ b.toList := by simpa using h2
  rcases List.le_iff_lt_or_eq.1 (List.not_lt.1 h1) with h4 | h4
  · exact h4
  · exact absurd h4.symm h3
theorem bl_ltS {a b : ByteArray} : Op.bytesLess a.toList b.toList = true ↔ ltS a b := by rw [bl_eq, decide_eq_true_iff]; rfl
/-- a right field's names rise -/
theorem fieldGo_rise {r : Race} : ∀ (l : List Sw) (p : Option ByteArray), fieldGo r p l = 0 → (∀ q, p = some q → ∀ x ∈ l, ltS q x.who) ∧ ∀ (i j : Nat) (x y : Sw), i < j → l[i]? = some x → l[j]? = some y → ltS x.who y.who
  | [], p, _ => ⟨fun _ _ x hx => (by cases hx), fun i j x y _ hx => (by simp at hx)⟩
  | z :: l, p, h => by
    unfold fieldGo at h
    by_cases h1 : keyB z.who = false
    · rw [if_pos h1] at h; exact absurd h (by decide)
    rw [if_neg h1] at h
    by_cases h2 : leO z.who p = true
    · rw [if_pos h2] at h; exact absurd h (by decide)
    rw [if_neg h2] at h
    by_cases h3 : wholeErr r z.sp = 0
    · rw [if_neg (by simpa using h3)] at h
      obtain ⟨a1, a2⟩ := fieldGo_rise l (some z.who) h
      have hz : ∀ q, p = some q → ltS q z.who := by
        rintro q rfl
        exact leS_not (by simpa [leO] using h2)
      refine ⟨fun q hq x hx => ?_, fun i j x y hij hx hy => ?_⟩
      · rcases List.mem_cons.1 hx with rfl | hx
        · exact hz q hq
        · exact ltS_trans (hz q hq) (a1 _ rfl x hx)
      · rcases i with _ | i
        · obtain ⟨j, rfl⟩ : ∃ j', j = j' + 1 := ⟨j - 1, by omega⟩
          have hx' : z = x := by simpa using hx
          subst hx'
          exact a1 _ rfl y (List.mem_of_getElem? (by simpa using hy))
        · obtain ⟨j, rfl⟩ : ∃ j', j = j' + 1 := ⟨j - 1, by omega⟩
          exact a2 i j x y (by omega) (by simpa using hx) (by simpa using hy)
    · rw [if_pos (by simpa using h3)] at h; exact absurd h h3
theorem field_rise {r : Race} {l : List Sw} (h : fieldErr r l = 0) (i j : Nat) (x y : Sw) (hij : i < j) (hx : l[i]? = some x) (hy : l[j]? = some y) : ltS x.who y.who := by
  unfold fieldErr at h
  by_cases h1 : raceErr r = 0
  · rw [if_neg (by simpa using h1)] at h
    split at h
    · exact absurd h (by decide)
    · exact (fieldGo_rise l none h).2 i j x y hij hx hy
  · rw [if_pos (by simpa using h1)] at h; exact absurd h h1
theorem field_inj {r : Race} {l : List Sw} (h : fieldErr r l = 0) (i j : Nat) (x y : Sw) (hx : l[i]? = some x) (hy : l[j]? = some y) (e : x.who = y.who) : i = j := by
  rcases Nat.lt_trichotomy i j with h1 | h1 | h1
  · exact absurd (field_rise h i j x y h1 hx hy) (by rw [e]; exact ltS_irrefl _)
  · exact h1
  · exact absurd (field_rise h j i y x h1 hy hx) (by rw [e]; exact ltS_irrefl _)
/-! ## who is farther is first; of equals, whose name is less -/
theorem whCf_lt (x y : WhB) : ltOf whCf x y = true ↔ x.1.num * y.1.den > y.1.num * x.1.den := by
  unfold ltOf whCf whCf0
  rw [decide_eq_true_iff]
  have := cmpI_neg (a := y.1.num * x.1.den) (b := x.1.num * y.1.den)
  rcases cmp3' (y.1.num * x.1.den) (x.1.num * y.1.den) with h | h | h <;> rw [h] at this ⊢ <;> simp at this ⊢ <;> omega
def whLt (x y : WhB) : Bool := ltOf whCf x y || (decide (x.1.num * y.1.den = y.1.num * x.1.den) && Op.bytesLess x.1.who.toList y.1.who.toList)
theorem whLt_iff (x y : WhB) : whLt x y = true ↔ x.1.num * y.1.den > y.1.num * x.1.den ∨ (x.1.num * y.1.den = y.1.num * x.1.den ∧ ltS x.1.who y.1.who) := by
  unfold whLt
  rw [Bool.or_eq_true, whCf_lt, Bool.and_eq_true, decide_eq_true_iff, bl_ltS]
theorem whLt_no (x y : WhB) : whLt x y = false ↔ x.1.num * y.1.den ≤ y.1.num * x.1.den ∧ (x.1.num * y.1.den = y.1.num * x.1.den → ¬ ltS x.1.who y.1.who) := by
  rw [← Bool.not_eq_true, whLt_iff]
  constructor
  · intro h
    exact ⟨by have := fun a => h (.inl a); omega, fun e k => h (.inr ⟨e, k⟩)⟩
  · rintro ⟨h1, h2⟩ (h | ⟨h, k⟩)
    · omega
    · exact h2 h k
theorem cross_lt {a b c d e f : Int} (hb : 0 < b) (hd : 0 < d) (hf : 0 < f) (h1 : c * b < a * d) (h2 : e * d ≤ c * f) : e * b < a * f := by
  by_cases hh : e * b < a * f
  · exact hh
  · exfalso
    have h : a * f ≤ e * b := by omega
    have h3 := cross_trans (a := c) (b := d) (c := e) (d := f) (e := a) (f := b) hd hf hb h2 h
    omega
theorem cross_lt2 {a b c d e f : Int} (hb : 0 < b) (hd : 0 < d) (hf : 0 < f) (h1 : c * b ≤ a * d) (h2 : e * d < c * f) : e * b < a * f := by
  by_cases hh : e * b < a * f
  · exact hh
  · exfalso
    have h : a * f ≤ e * b := by omega
    have h3 := cross_trans (a := e) (b := f) (c := a) (d := b) (e := c) (f := d) hf hb hd h h1
    omega
theorem whSWO : SWO whLt := by
  refine ⟨fun x => ?_, fun x y z h1 h2 => ?_, fun x y z h1 h2 => ?_⟩
  · rw [whLt_no]; exact ⟨Int.le_refl _, fun _ => ltS_irrefl _⟩
  · have hx := x.2.2.2.1
    have hy := y.2.2.2.1
    have hz := z.2.2.2.1
    rw [whLt_iff] at *
    rcases h1 with h1 | ⟨h1, k1⟩
    · rcases h2 with h2 | ⟨h2, k2⟩
      · exact .inl (cross_lt hx hy hz h1 (Int.le_of_lt h2))
      · exact .inl (cross_lt hx hy hz h1 (by omega))
    · rcases h2 with h2 | ⟨h2, k2⟩
      · exact .inl (cross_lt2 hx hy hz (by omega) h2)
      · refine .inr ⟨?_, ltS_trans k1 k2⟩
        have a1 := cross_trans (a := x.1.num) (b := x.1.den) (c := y.1.num) (d := y.1.den) (e := z.1.num) (f := z.1.den) hx hy hz (by omega) (by omega)
        have a2 := cross_trans (a := z.1.num) (b := z.1.den) (c := y.1.num) (d := y.1.den) (e := x.1.num) (f := x.1.den) hz hy hx (by omega) (by omega)
        omega
  · have hx := x.2.2.2.1
    have hy := y.2.2.2.1
    have hz := z.2.2.2.1
    rw [whLt_no] at *
    obtain ⟨h1, k1⟩ := h1
    obtain ⟨h2, k2⟩ := h2
    have a1 := cross_trans (a := z.1.num) (b := z.1.den) (c := y.1.num) (d := y.1.den) (e := x.1.num) (f := x.1.den) hz hy hx (by omega) (by omega)
    refine ⟨by omega, fun e hlt => ?_⟩
    have b1 : x.1.num * y.1.den = y.1.num * x.1.den := by
      rcases Int.lt_or_eq_of_le h1 with h | h
      · have := cross_lt2 (a := z.1.num) (b := z.1.den) (c := y.1.num) (d := y.1.den) (e := x.1.num) (f := x.1.den) hz hy hx (by omega) (by omega)
        omega
      · exact h
    have b2 : y.1.num * z.1.den = z.1.num * y.1.den := by
      rcases Int.lt_or_eq_of_le h2 with h | h
      · have := cross_lt (a := z.1.num) (b := z.1.den) (c := y.1.num) (d := y.1.den) (e := x.1.num) (f := x.1.den) hz hy hx (by omega) (by omega)
        omega
      · exact h
    have n1 := k1 b1
    have n2 := k2 b2
    rcases List.le_iff_lt_or_eq.1 (List.not_lt.1 n1) with h4 | h4
    · rcases List.le_iff_lt_or_eq.1 (List.not_lt.1 n2) with h5 | h5
      · exact ltS_asymm hlt (ltS_trans h5 h4)
      · exact ltS_asymm hlt (by unfold ltS; rw [h5]; exact h4)
    · exact n2 (by unfold ltS at *; rw [h4]; exact hlt)
theorem whSort_spec {l : List Wh} (hok : ∀ x ∈ l, whOk x) (hs : ∀ (p k : Nat) (x y : Wh), k < p → l[p]? = some x → l[k]? = some y → ltS y.who x.who) :
    (whSort l).Perm l ∧ ∀ (i j : Nat) (x y : Wh), i < j → (whSort l)[i]? = some x → (whSort l)[j]? = some y → y.num * x.den ≤ x.num * y.den ∧ (y.num * x.den = x.num * y.den → ¬ ltS y.who x.who) := by
  obtain ⟨l', rfl⟩ := sub_list l hok
  have e1 : whSort (l'.map Subtype.val) = (insL whLt l').map Subtype.val := by
    rw [← whSort_val l']
    refine congrArg _ (insL_same _ _ l' fun p k x y hkp hx hy => ?_)
    have hxy := hs p k x.1 y.1 hkp (by rw [List.getElem?_map, hx]; rfl) (by rw [List.getElem?_map, hy]; rfl)
    have hno : Op.bytesLess x.1.who.toList y.1.who.toList = false := by
      rw [← Bool.not_eq_true, bl_ltS]
      exact fun h => ltS_asymm h hxy
    show ltOf whCf x y = whLt x y
    unfold whLt
    rw [hno, Bool.and_false, Bool.or_false]
  rw [e1]
  obtain ⟨hp, hsd⟩ := insL_spec whSWO l'
  refine ⟨hp.map _, fun i j x y hij hx hy => ?_⟩
  rw [List.getElem?_map] at hx hy
  obtain ⟨x', hx', rfl⟩ := Option.map_eq_some_iff.1 hx
  obtain ⟨y', hy', rfl⟩ := Option.map_eq_some_iff.1 hy
  exact (whLt_no y' x').1 (hsd i j x' y' hij hx' hy')
end Go.Proofs.YtklggnglaeagpaaGreatDoor
