/- TopWinnersLead, plain: whoever has rank 1 has no gap, and stands among the first ones of the order. -/
import Derived.Test.YtlddeeagnlgciaaGreatDoorRankW
import Derived.Test.YtlddeeagnlgciaaGreatDoorGapsX
import Derived.Test.YtlddeeagnlgciaaGreatDoorSortSt
namespace Go.Proofs.YtlddeeagnlgciaaGreatDoor
open Go.RowKit Go.Shelf Go.Lib Go.Sort
set_option linter.unusedVariables false

theorem nodup_le {α : Type} : ∀ (a b : List α), a.Nodup → (∀ x ∈ a, x ∈ b) → a.length ≤ b.length
  | [], _, _, _ => Nat.zero_le _
  | x :: a, b, h, hs => by
    obtain ⟨b1, b2, rfl⟩ := List.append_of_mem (hs x (by simp))
    rw [List.nodup_cons] at h
    have := nodup_le a (b1 ++ b2) h.2 (fun y hy => by
      have h1 := hs y (by simp [hy])
      simp only [List.mem_append, List.mem_cons] at h1 ⊢
      rcases h1 with h1 | rfl | h1
      · exact .inl h1
      · exact absurd hy h.1
      · exact .inr h1)
    simp only [List.length_append, List.length_cons] at this ⊢
    omega
theorem minG_le2 (E : Nat) : ∀ (l : List Sw) (f : Int), minG E l f ≤ f ∧ ∀ x ∈ l, minG E l f ≤ gapV E x
  | [], f => ⟨Int.le_refl _, fun x hx => by cases hx⟩
  | y :: r, f => by
    obtain ⟨h1, h2⟩ := minG_le2 E r (min f (gapV E y))
    refine ⟨by unfold minG; omega, fun x hx => ?_⟩
    unfold minG
    rcases List.mem_cons.1 hx with rfl | hx
    · omega
    · exact h2 x hx
theorem minG_ex2 (E : Nat) : ∀ (l : List Sw) (f : Int), minG E l f = f ∨ ∃ x ∈ l, minG E l f = gapV E x
  | [], f => .inl rfl
  | y :: r, f => by
    unfold minG
    rcases minG_ex2 E r (min f (gapV E y)) with h | ⟨x, hx, h⟩
    · by_cases hf : f ≤ gapV E y
      · left; rw [h]; omega
      · right; exact ⟨y, by simp, by rw [h]; omega⟩
    · right; exact ⟨x, by simp [hx], h⟩
theorem firstG_of2 {E : Nat} {l : List Sw} (hl : l ≠ []) (hb : ∀ x ∈ l, gapV E x ≤ 360000) : (∀ x ∈ l, firstG E l ≤ gapV E x) ∧ ∃ x ∈ l, gapV E x = firstG E l := by
  refine ⟨(minG_le2 E l 360000).2, ?_⟩
  rcases minG_ex2 E l 360000 with h | ⟨x, hx, h⟩
  · rcases l with _ | ⟨y, r⟩
    · exact absurd rfl hl
    · have h1 := (minG_le2 E (y :: r) 360000).2 y (by simp)
      have h2 := hb y (by simp)
      exact ⟨y, by simp, by unfold firstG; rw [h] at h1 ⊢; omega⟩
  · exact ⟨x, hx, h.symm⟩
/-- the seeds of a field, by the times -/
def seedsL (M : Nat) (l : List Sw) : List Sd := l.map fun x => ⟨x.who, gapV M x⟩
def lasL (M : Nat) (l : List Sw) : List Sw := insL (fun x y => decide (gapV M x < gapV M y)) l
theorem seedGo_zero : ∀ (l : List Sd) (seen : List ByteArray), (∀ x ∈ l, keyB x.who = true ∧ 0 ≤ x.time ∧ x.time ≤ 360000) → (l.map Sd.who).Nodup → (∀ x ∈ l, x.who ∉ seen) → seedGo seen false l = 0
  | [], _, _, _, _ => rfl
  | x :: l, seen, h, hn, hs => by
    obtain ⟨h1, h2⟩ := h x (by simp)
    rw [List.map_cons, List.nodup_cons] at hn
    have hx : seenB x.who seen = false := by
      unfold seenB
      rw [List.any_eq_false]
      intro t ht
      have := hs x (by simp)
      simp only [decide_eq_true_eq]
      rintro rfl
      exact this ht
    unfold seedGo
    rw [h1, if_neg (by simp), if_neg (by simpa using h2), hx, Bool.or_false]
    refine seedGo_zero l _ (fun y hy => h y (by simp [hy])) hn.2 (fun y hy => ?_)
    rw [List.mem_cons]
    rintro (e | e)
    · exact hn.1 (List.mem_map.2 ⟨y, hy, e⟩)
    · exact hs y (by simp [hy]) e
theorem field_nodup {r : Race} {l : List Sw} (h0 : fieldErr r l = 0) : (l.map Sw.who).Nodup := by
  unfold List.Nodup
  rw [List.pairwise_iff_getElem]
  intro i j hi hj hij e
  rw [List.getElem_map, List.getElem_map] at e
  have hi' : i < l.length := by simpa using hi
  have hj' : j < l.length := by simpa using hj
  have := field_rise h0 i j l[i] l[j] hij (List.getElem?_eq_getElem hi') (List.getElem?_eq_getElem hj')
  rw [e] at this
  exact ltS_irrefl _ this
theorem fieldGo_key {r : Race} : ∀ (l : List Sw) (p : Option ByteArray), fieldGo r p l = 0 → ∀ x ∈ l, keyB x.who = true
  | [], _, _, x, hx => by cases hx
  | y :: l, p, h, x, hx => by
    unfold fieldGo at h
    cases hk : keyB y.who
    · rw [hk] at h; simp at h
    · rw [hk, if_neg (by simp)] at h
      by_cases hl : leO y.who p = true
      · rw [if_pos hl] at h; simp at h
      · rw [if_neg hl] at h
        by_cases hw : wholeErr r y.sp = 0
        · rw [if_neg (by simpa using hw)] at h
          rcases List.mem_cons.1 hx with rfl | hx
          · exact hk
          · exact fieldGo_key l _ h x hx
        · rw [if_pos hw] at h; exact absurd h hw
theorem field_key {r : Race} {l : List Sw} (h : fieldErr r l = 0) : ∀ x ∈ l, keyB x.who = true := by
  unfold fieldErr at h
  by_cases h1 : raceErr r = 0
  · rw [if_neg (by simpa using h1)] at h
    by_cases h2 : 20 < l.length
    · rw [if_pos h2] at h; simp at h
    · rw [if_neg h2] at h; exact fieldGo_key l _ h
  · rw [if_pos h1] at h; exact absurd h h1
theorem ltS_tri {a b : ByteArray} (h : ¬ ltS a b) (hne : a ≠ b) : ltS b a := by
  rcases List.le_iff_lt_or_eq.1 (List.not_lt.1 h) with h5 | h5
  · exact h5
  · rw [ByteArray.toList_eq, ByteArray.toList_eq] at h5
    exact absurd (bytes_inj h5).symm hne
theorem cmp_neg_dec (a b : Int) : decide (Lib.compareInt a b < 0) = decide (a < b) := by
  rcases cmp3' a b with h | h | h
  · rw [h]; have := cmpI_neg.1 h; simp [this]
  · rw [h]; have := cmpI_zero.1 h; simp [this]
  · rw [h]; have := cmpI_one.1 h; simp; omega
theorem frac_lt {p q f : Int} (hq : 0 < q) (h : p < f * q) : fracN p q < f * fracD p q := by
  obtain ⟨hg, e1, e2⟩ := frac_split (a := p) hq
  generalize (Int.gcd p q : Int) = g at *
  generalize fracN p q = N at *
  generalize fracD p q = D at *
  subst e1 e2
  have e3 : f * (g * D) = g * (f * D) := by simp only [Int.mul_comm, Int.mul_left_comm]
  rw [e3] at h
  exact Int.lt_of_mul_lt_mul_left h (Int.le_of_lt hg)
theorem frac_one (a : Int) : fracN a 1 = a ∧ fracD a 1 = 1 := by
  unfold fracN fracD
  rw [Int.gcd_one]
  exact ⟨Int.ediv_one _, rfl⟩
theorem first_aft {t : Int} : ∀ (l : List Int), (∃ x ∈ l, t < x) → ∃ (k : Nat) (x : Int), (∀ j y, j < k → l[j]? = some y → y ≤ t) ∧ l[k]? = some x ∧ t < x
  | [], h => by obtain ⟨x, hx, _⟩ := h; cases hx
  | y :: l, h => by
    by_cases hy : t < y
    · exact ⟨0, y, fun j z hj => absurd hj (by omega), rfl, hy⟩
    · obtain ⟨x, hx, hlt⟩ := h
      rcases List.mem_cons.1 hx with rfl | hx
      · exact absurd hlt hy
      · obtain ⟨k, x', h1, h2, h3⟩ := first_aft l ⟨x, hx, hlt⟩
        refine ⟨k + 1, x', fun j z hj hz => ?_, by simpa using h2, h3⟩
        rcases j with _ | j
        · have : y = z := by simpa using hz
          omega
        · exact h1 j z (by omega) (by simpa using hz)
/-- who is at the end is as far as can be; who is not is not -/
theorem far_end {c tot t : Int} {sp : List Int} {M : Nat} (hc : 0 < c) (ht : tot = c * M) (hm : sp.length = M) (h1 : 1 ≤ M) (hr : risingF sp 0 = true) :
    (sp.getD (M - 1) 0 ≤ t → farP c tot sp t = (tot, 1)) ∧ (t < sp.getD (M - 1) 0 → 0 ≤ t → 0 < (farP c tot sp t).2 ∧ (farP c tot sp t).1 < tot * (farP c tot sp t).2) := by
  obtain ⟨z, hz⟩ := at_of_lt (l := sp) (k := M - 1) (by omega)
  rw [getD_of hz]
  refine ⟨fun h => farP_none fun j y hy => ?_, fun h h0 => ?_⟩
  · by_cases e : j = M - 1
    · subst e; rw [hz] at hy; injection hy with hy; omega
    · have := rise_lt hr (by have := lt_of_at hy; omega : j < M - 1) hy hz; omega
  · obtain ⟨k, x, k1, k2, k3⟩ := first_aft sp ⟨z, List.mem_of_getElem? hz, h⟩
    have hkl := lt_of_at k2
    generalize hy : (if k = 0 then (0 : Int) else sp.getD (k - 1) 0) = y
    rw [farP_found k1 k2 k3 hy.symm]
    have hyx : y ≤ t := by
      by_cases hk : k = 0
      · subst hk; rw [if_pos rfl] at hy; omega
      · rw [if_neg hk] at hy
        obtain ⟨u, hu⟩ := at_of_lt (l := sp) (k := k - 1) (by omega)
        rw [getD_of hu] at hy
        subst hy
        exact k1 (k - 1) u (by omega) hu
    refine ⟨by show 0 < x - y; omega, ?_⟩
    show c * ((k : Int) * (x - y) + t - y) < tot * (x - y)
    rw [ht, Int.mul_assoc]
    refine Int.mul_lt_mul_of_pos_left ?_ hc
    have e1 : (k : Int) * (x - y) + (x - y) = ((k : Int) + 1) * (x - y) := by rw [Int.add_mul, Int.one_mul]
    have e2 : ((k : Int) + 1) * (x - y) ≤ (M : Int) * (x - y) := Int.mul_le_mul_of_nonneg_right (by omega) (by omega)
    omega
/-- the order by last times, ties by names -/
theorem las_spec {r : Race} {l : List Sw} {M : Nat} (h0 : fieldErr r l = 0) (hb : ∀ x ∈ l, 0 ≤ gapV M x ∧ gapV M x ≤ 360000) :
    (lasL M l).Perm l ∧ ∀ (i j : Nat) (x y : Sw), i < j → (lasL M l)[i]? = some x → (lasL M l)[j]? = some y → gapV M x ≤ gapV M y ∧ (gapV M x = gapV M y → ¬ ltS y.who x.who) := by
  have e : whSort (l.map fun x => (⟨x.who, 360000 - gapV M x, 1⟩ : Wh)) = (lasL M l).map fun x => (⟨x.who, 360000 - gapV M x, 1⟩ : Wh) := by
    unfold whSort lasL
    refine insL_map _ _ _ (fun x y => ?_) l
    show decide (Lib.compareInt ((360000 - gapV M y) * 1) ((360000 - gapV M x) * 1) < 0) = _
    rw [cmp_neg_dec]
    congr 1
    apply propext
    omega
  have hok : ∀ x ∈ l.map (fun x => (⟨x.who, 360000 - gapV M x, 1⟩ : Wh)), whOk x := fun x hx => by
    obtain ⟨y, hy, rfl⟩ := List.mem_map.1 hx
    have := hb y hy
    unfold whOk
    dsimp only
    omega
  have hup : ∀ (p k : Nat) (x y : Wh), k < p → (l.map (fun x => (⟨x.who, 360000 - gapV M x, 1⟩ : Wh)))[p]? = some x → (l.map (fun x => (⟨x.who, 360000 - gapV M x, 1⟩ : Wh)))[k]? = some y → ltS y.who x.who := fun p k x y hkp hx hy => by
    rw [List.getElem?_map] at hx hy
    obtain ⟨x', hx', rfl⟩ := Option.map_eq_some_iff.1 hx
    obtain ⟨y', hy', rfl⟩ := Option.map_eq_some_iff.1 hy
    exact field_rise h0 k p y' x' hkp hy' hx'
  obtain ⟨_, hs⟩ := whSort_spec hok hup
  rw [e] at hs
  have hlen : (lasL M l).length = l.length := insL_len _ _
  refine ⟨?_, fun i j x y hij hx hy => ?_⟩
  · have hS : SWO (fun x y : Sw => decide (gapV M x < gapV M y)) := by
      refine ⟨fun x => ?_, fun x y z h1 h2 => ?_, fun x y z h1 h2 => ?_⟩
      · simp
      · simp at *; omega
      · simp at *; omega
    exact (insL_spec hS l).1
  · obtain ⟨h1, h2⟩ := hs i j ⟨x.who, 360000 - gapV M x, 1⟩ ⟨y.who, 360000 - gapV M y, 1⟩ hij (by rw [List.getElem?_map, hx]; rfl) (by rw [List.getElem?_map, hy]; rfl)
    dsimp only at h1 h2
    exact ⟨by omega, fun e => h2 (by omega)⟩
/-- the ranks of a field's times -/
def rankF (M : Nat) (l : List Sw) : List Rk := rankL 1 (faultV []) (seedsL M l)
theorem rankF_eq {M : Nat} {l : List Sw} (hp : ∀ x ∈ l, 0 < gapV M x) : rankF M l = rnkF 1 ((lasL M l).map fun x => (⟨x.who, 0, gapV M x, 0⟩ : Rk)) 0 none := by
  have hg : ∀ x ∈ seedsL M l, isGood (faultV []) x = true := fun x hx => by
    obtain ⟨y, hy, rfl⟩ := List.mem_map.1 hx
    have := hp y hy
    unfold isGood
    simp [faultV, this]
  have e1 : goodL (faultV []) (seedsL M l) = l.map fun x => (⟨x.who, 0, gapV M x, 0⟩ : Rk) := by
    unfold goodL
    rw [List.filter_eq_self.2 hg]
    unfold seedsL
    rw [List.map_map]
    rfl
  have e2 : badL (faultV []) (seedsL M l) = [] := by
    unfold badL
    rw [List.filter_eq_nil_iff.2 (fun x hx => by rw [hg x hx]; simp)]
    rfl
  unfold rankF rankL
  rw [e1, e2, List.append_nil]
  congr 1
  unfold rkSorted lasL
  refine insL_map _ _ _ (fun x y => ?_) l
  show decide (gapV M x / 1 - gapV M y / 1 < 0) = decide (gapV M x < gapV M y)
  rw [Int.ediv_one, Int.ediv_one]
  congr 1
  apply propext
  omega
theorem gapsF_eq (M : Nat) (F : Int) (l : List Sw) : gpSortL (gapLs M F l) = (lasL M l).map fun x => (⟨x.who, (M : Int), gapV M x - F⟩ : Gp) := by
  unfold gpSortL gapLs lasL
  refine insL_map _ _ _ (fun x y => ?_) l
  show decide (gapV M x - F - (gapV M y - F) < 0) = decide (gapV M x < gapV M y)
  congr 1
  apply propext
  omega
theorem win_ok {r : Race} {l : List Sw} {M : Nat} (h0 : fieldErr r l = 0) (hM : lenV r = M) (hl : l ≠ []) (hlen : ∀ x ∈ l, x.sp.length = M) :
    seedErr (seedsL M l) = 0 ∧ (rankF M l).length = l.length ∧ (gpSortL (gapLs M (firstG M l) l)).length = l.length ∧ 0 ≤ firstG M l ∧ firstG M l ≤ 360000 ∧ (∀ y, (rankF M l)[0]? = some y → y.time = firstG M l) ∧
    ∀ (i : Nat) (y : Rk) (g : Gp), (rankF M l)[i]? = some y → (gpSortL (gapLs M (firstG M l) l))[i]? = some g → (y.rank = 1 ↔ g.behind = 0) ∧ (y.rank = 1 → y.who ∈ ((whL r (firstG M l) l).map Wh.who).take (i + 1)) := by
  obtain ⟨hr, hll, hw⟩ := fieldErr_ok h0
  have hM1 : 1 ≤ M := by have := lenV_bd hr; omega
  have hrise : ∀ x ∈ l, risingF x.sp 0 = true := fun x hx => whole_rise (hw x hx)
  have hz : ∀ x ∈ l, x.sp[M - 1]? = some (gapV M x) := fun x hx => by
    unfold gapV
    have := hlen x hx
    rw [List.getD_eq_getElem?_getD, List.getElem?_eq_getElem (by omega)]; rfl
  have hbd : ∀ x ∈ l, 0 < gapV M x ∧ gapV M x ≤ 360000 := fun x hx =>
    ⟨rise_gt (hrise x hx) (hz x hx), ((splits_bd (wholeErr_ok (hw x hx)).1).2.2 _ (List.mem_of_getElem? (hz x hx))).2⟩
  obtain ⟨f1, x0, hx0, f2⟩ := firstG_of2 hl (fun x hx => (hbd x hx).2)
  have hF0 := hbd x0 hx0
  rw [f2] at hF0
  obtain ⟨hperm, hsort⟩ := las_spec h0 (fun x hx => ⟨Int.le_of_lt (hbd x hx).1, (hbd x hx).2⟩)
  rw [rankF_eq (fun x hx => (hbd x hx).1), gapsF_eq]
  generalize hF : firstG M l = F at *
  have hTl : (lasL M l).length = l.length := insL_len _ _
  have hT0 : ∀ t, (lasL M l)[0]? = some t → gapV M t = F := fun t ht => by
    have htm : t ∈ l := hperm.subset (List.mem_of_getElem? ht)
    have h1 := f1 t htm
    obtain ⟨j, hj⟩ := List.mem_iff_getElem?.1 (hperm.symm.subset hx0)
    rcases Nat.eq_zero_or_pos j with e | e
    · subst e; rw [ht] at hj; injection hj with hj; rw [hj]; exact f2
    · have := (hsort 0 j t x0 e ht hj).1; omega
  generalize hT : lasL M l = T at *
  have hfr : ∀ (i : Nat) (y : Rk), (rnkF 1 (T.map fun x => (⟨x.who, 0, gapV M x, 0⟩ : Rk)) 0 none)[i]? = some y → ∃ x, T[i]? = some x ∧ y.who = x.who ∧ y.time = gapV M x ∧ y.rank = nextR 1 ⟨x.who, 0, gapV M x, 0⟩ i (if i = 0 then none else prevR 1 (rnkF 1 (T.map fun x => (⟨x.who, 0, gapV M x, 0⟩ : Rk)) 0 none) i) := fun i y hy => by
    have hi := lt_of_at hy
    rw [rnkF_len, List.length_map] at hi
    obtain ⟨x, hx⟩ := at_of_lt hi
    obtain ⟨q, h1, h2⟩ := rnkF_at (d := 1) (T.map fun x => (⟨x.who, 0, gapV M x, 0⟩ : Rk)) 0 none i ⟨x.who, 0, gapV M x, 0⟩ (by rw [List.getElem?_map, hx]; rfl)
    have hy' : (rnkF 1 (T.map fun x => (⟨x.who, 0, gapV M x, 0⟩ : Rk)) ((0 : Nat) : Int) none)[i]? = some y := hy
    rw [hy'] at h1
    injection h1 with h1
    subst h1
    rw [Nat.zero_add] at h2
    exact ⟨x, hx, rfl, rfl, h2⟩
  generalize hR : rnkF 1 (T.map fun x => (⟨x.who, 0, gapV M x, 0⟩ : Rk)) 0 none = R at *
  have hRl : R.length = l.length := by rw [← hR, rnkF_len, List.length_map, hTl]
  have hone : ∀ (i : Nat) (y : Rk) (x : Sw), R[i]? = some y → T[i]? = some x → (y.rank = 1 ↔ gapV M x = F) := by
    intro i
    induction i with
    | zero =>
      intro y x hy hx
      obtain ⟨x', hx', _, _, h3⟩ := hfr 0 y hy
      rw [if_pos rfl] at h3
      exact ⟨fun _ => hT0 x hx, fun _ => by rw [h3]; rfl⟩
    | succ i ih =>
      intro y x hy hx
      obtain ⟨x', hx', _, _, h3⟩ := hfr (i + 1) y hy
      rw [hx] at hx'
      injection hx' with hx'
      subst hx'
      have hil := lt_of_at hx
      obtain ⟨x1, hx1⟩ := at_of_lt (l := T) (k := i) (by omega)
      obtain ⟨y1, hy1⟩ := at_of_lt (l := R) (k := i) (by omega)
      have hi1 := ih y1 x1 hy1 hx1
      obtain ⟨x2, hx2, _, h5, _⟩ := hfr i y1 hy1
      rw [hx1] at hx2
      injection hx2 with hx2
      subst hx2
      have hle := (hsort i (i + 1) x1 x (by omega) hx1 hx).1
      have hx1F := f1 x1 (hperm.subset (List.mem_of_getElem? hx1))
      rw [if_neg (by omega)] at h3
      unfold prevR at h3
      rw [if_neg (by omega), show i + 1 - 1 = i by omega, hy1] at h3
      have h4 : y.rank = if gapV M x / 1 = y1.time / 1 then y1.rank else ((i + 1 : Nat) : Int) + 1 := h3
      rw [h5, Int.ediv_one, Int.ediv_one] at h4
      by_cases e : gapV M x = gapV M x1
      · rw [if_pos e] at h4
        rw [h4, hi1, e]
      · rw [if_neg e] at h4
        rw [h4]
        constructor
        · intro h; exfalso; omega
        · intro h; exfalso; omega
  refine ⟨?_, hRl, by rw [List.length_map, hTl], Int.le_of_lt hF0.1, hF0.2, fun y hy => ?_, fun i y g hy hg => ?_⟩
  · unfold seedErr
    rw [if_neg (by unfold seedsL; rw [List.length_map]; omega)]
    refine seedGo_zero _ _ (fun x hx => ?_) ?_ (fun x hx => by simp)
    · obtain ⟨z, hzm, rfl⟩ := List.mem_map.1 hx
      exact ⟨field_key h0 z hzm, Int.le_of_lt (hbd z hzm).1, (hbd z hzm).2⟩
    · have : (seedsL M l).map Sd.who = l.map Sw.who := by unfold seedsL; rw [List.map_map]; rfl
      rw [this]
      exact field_nodup h0
  · obtain ⟨x, hx, _, h2, _⟩ := hfr 0 y hy
    rw [h2]
    exact hT0 x hx
  · obtain ⟨x, hx, hwho, _, _⟩ := hfr i y hy
    rw [List.getElem?_map, hx] at hg
    have hgv : g = ⟨x.who, (M : Int), gapV M x - F⟩ := by injection hg with hg; exact hg.symm
    have h1 := hone i y x hy hx
    refine ⟨by rw [h1, hgv]; show gapV M x = F ↔ gapV M x - F = 0; omega, fun hy1 => ?_⟩
    have hxF := h1.1 hy1
    have hxm : x ∈ l := hperm.subset (List.mem_of_getElem? hx)
    rw [hwho]
    -- where the winner stands in the order
    have hok : ∀ x ∈ l.map (atWh r F), whOk x := fun x hx => by
      obtain ⟨y, hy, rfl⟩ := List.mem_map.1 hx
      exact atWh_ok (hw y hy) (Int.le_of_lt hF0.1) hF0.2
    have hup : ∀ (p k : Nat) (x y : Wh), k < p → (l.map (atWh r F))[p]? = some x → (l.map (atWh r F))[k]? = some y → ltS y.who x.who := fun p k x y hkp hx hy => by
      rw [List.getElem?_map] at hx hy
      obtain ⟨x', hx', rfl⟩ := Option.map_eq_some_iff.1 hx
      obtain ⟨y', hy', rfl⟩ := Option.map_eq_some_iff.1 hy
      exact field_rise h0 k p y' x' hkp hy' hx'
    obtain ⟨hwp, hws⟩ := whSort_spec hok hup
    have hWL : whL r F l = whSort (l.map (atWh r F)) := rfl
    rw [← hWL] at hwp hws
    obtain ⟨_, _, _, _, _, hc, _⟩ := raceErr_ok hr
    have hcp : 0 < r.course := by omega
    have htot : r.metres * r.legs = r.course * M := by
      have hm := (raceErr_ok hr).2.2.2.2.2.2.2.2.2.2.2.2.2
      have hmm : r.metres = r.course * (r.metres / r.course) := by have := Int.emod_add_mul_ediv r.metres r.course; omega
      rw [← hM]; unfold lenV; rw [← Int.mul_assoc, ← hmm]
    have hwin : ∀ y ∈ l, gapV M y = F → (atWh r F y).num = r.metres * r.legs ∧ (atWh r F y).den = 1 := fun y hy e => by
      have h9 := (far_end (t := F) hcp htot (hlen y hy) hM1 (hrise y hy)).1 (by show gapV M y ≤ F; omega)
      have h8 : atP r F y.sp = (r.metres * r.legs, 1) := h9
      show fracN (atP r F y.sp).1 (atP r F y.sp).2 = _ ∧ fracD (atP r F y.sp).1 (atP r F y.sp).2 = 1
      rw [h8]
      exact frac_one _
    have hlose : ∀ y ∈ l, gapV M y ≠ F → (atWh r F y).num < r.metres * r.legs * (atWh r F y).den := fun y hy e => by
      have h7 := f1 y hy
      obtain ⟨h9, h8⟩ := (far_end (t := F) hcp htot (hlen y hy) hM1 (hrise y hy)).2 (by show F < gapV M y; omega) (Int.le_of_lt hF0.1)
      exact frac_lt h9 h8
    have hxW : atWh r F x ∈ whL r F l := hwp.symm.subset (List.mem_map.2 ⟨x, hxm, rfl⟩)
    obtain ⟨j, hj⟩ := List.mem_iff_getElem?.1 hxW
    obtain ⟨hxn, hxd⟩ := hwin x hxm hxF
    have hnd : ((whL r F l).map Wh.who).Nodup := by
      have e : (l.map (atWh r F)).map Wh.who = l.map Sw.who := by rw [List.map_map]; rfl
      exact (hwp.map Wh.who).nodup_iff.2 (by rw [e]; exact field_nodup h0)
    have hjl := lt_of_at hj
    have hsub : ∀ u ∈ ((whL r F l).map Wh.who).take j, u ∈ (T.take i).map Sw.who := fun u hu => by
      obtain ⟨p, hp⟩ := List.mem_iff_getElem?.1 hu
      rw [List.getElem?_take] at hp
      split at hp
      · rename_i hpj
        rw [List.getElem?_map] at hp
        obtain ⟨z, hz9, rfl⟩ := Option.map_eq_some_iff.1 hp
        have hzm := hwp.subset (List.mem_of_getElem? hz9)
        obtain ⟨y, hy, rfl⟩ := List.mem_map.1 hzm
        obtain ⟨g1, g2⟩ := hws p j _ _ hpj hz9 hj
        rw [hxn, hxd, Int.mul_one] at g1 g2
        have hyF : gapV M y = F := by
          by_cases e : gapV M y = F
          · exact e
          · have := hlose y hy e; omega
        obtain ⟨hyn, hyd⟩ := hwin y hy hyF
        rw [hyn, hyd, Int.mul_one] at g2
        have g3 : ¬ ltS x.who y.who := g2 rfl
        have hne : y.who ≠ x.who := fun e => by
          unfold List.Nodup at hnd
          have := List.pairwise_iff_getElem.1 hnd p j (by rw [List.length_map]; omega) (by rw [List.length_map]; exact hjl) hpj
          rw [List.getElem_map, List.getElem_map] at this
          have e1 : (whL r F l)[p]'(by omega) = atWh r F y := by rw [List.getElem?_eq_getElem (by omega)] at hz9; injection hz9
          have e2 : (whL r F l)[j] = atWh r F x := by rw [List.getElem?_eq_getElem hjl] at hj; injection hj
          rw [e1, e2] at this
          exact this e
        have g4 : ltS y.who x.who := ltS_tri g3 (fun e => hne e.symm)
        obtain ⟨p', hp'⟩ := List.mem_iff_getElem?.1 (hperm.symm.subset hy)
        have hp'i : p' < i := by
          rcases Nat.lt_trichotomy p' i with e | e | e
          · exact e
          · subst e; rw [hp'] at hx; injection hx with hx; exact absurd (by rw [hx]) hne
          · exact absurd g4 ((hsort i p' x y e hx hp').2 (by rw [hxF, hyF]))
        refine List.mem_map.2 ⟨y, ?_, rfl⟩
        refine List.mem_of_getElem? (i := p') ?_
        rw [List.getElem?_take, if_pos hp'i]
        exact hp'
      · cases hp
    have hij : j ≤ i := by
      have h9 := nodup_le _ _ (hnd.sublist (List.take_sublist j _)) hsub
      have hil := lt_of_at hx
      rw [List.length_take, List.length_map, List.length_map, List.length_take] at h9
      omega
    refine List.mem_of_getElem? (i := j) ?_
    rw [List.getElem?_take, if_pos (by omega), List.getElem?_map, hj]
    rfl
end Go.Proofs.YtlddeeagnlgciaaGreatDoor
