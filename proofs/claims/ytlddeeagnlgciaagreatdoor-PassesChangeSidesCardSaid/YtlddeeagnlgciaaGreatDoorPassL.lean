import Derived.Test.YtlddeeagnlgciaaGreatDoorSortSt
import Derived.Shelf.Slices.CompactI
/- When one passes another one: laps, spots from edge to edge, the time at which two meet. Plain. -/
namespace Go.Proofs.YtlddeeagnlgciaaGreatDoor
open Go.RowKit
set_option linter.unusedVariables false

/-- the length in which somebody is: how many are over, when it began, how long it is -/
def lapGo (t : Int) : List Int → Int → Int → Int × Int × Int
  | [], k, f => (k, f, 1)
  | x :: l, k, f => if t < x then (k, f, x - f) else lapGo t l (k + 1) x
def lapP (l : List Int) (t : Int) : Int × Int × Int := lapGo t l 0 0
theorem lapGo_at {t k f x : Int} {l : List Int} {j : Nat} (h : l[j]? = some x) : lapGo t (l.drop j) k f = if t < x then (k, f, x - f) else lapGo t (l.drop (j + 1)) (k + 1) x := by rw [drop_at h]; rfl
theorem lapGo_found {t : Int} : ∀ (l : List Int) (i last : Int) (k : Nat) (x : Int), (∀ j y, j < k → l[j]? = some y → y ≤ t) → l[k]? = some x → t < x → lapGo t l i last = (i + k, (if k = 0 then last else l.getD (k - 1) 0), x - (if k = 0 then last else l.getD (k - 1) 0))
  | [], _, _, k, x, _, h, _ => by simp at h
  | y :: l, i, last, 0, x, _, h, hx => by
    obtain rfl : y = x := by simpa using h
    simp [lapGo, hx]
  | y :: l, i, last, k + 1, x, hj, h, hx => by
    have hy : y ≤ t := hj 0 y (by omega) rfl
    have ih := lapGo_found l (i + 1) y k x (t := t) (fun j z hjk hz => hj (j + 1) z (by omega) (by simpa using hz)) (by simpa using h) hx
    show (if t < y then _ else lapGo t l (i + 1) y) = _
    rw [if_neg (by omega), ih]
    have e : i + 1 + (k : Int) = i + ((k + 1 : Nat) : Int) := by omega
    rw [e]
    by_cases hk : k = 0
    · subst hk; simp
    · obtain ⟨q, rfl⟩ : ∃ q, k = q + 1 := ⟨k - 1, by omega⟩
      simp
theorem lapP_found {t : Int} {l : List Int} {k : Nat} {x y : Int} (h1 : ∀ j y, j < k → l[j]? = some y → y ≤ t) (h2 : l[k]? = some x) (h3 : t < x) (hy : y = if k = 0 then 0 else l.getD (k - 1) 0) : lapP l t = ((k : Int), y, x - y) := by
  unfold lapP
  rw [lapGo_found l 0 0 k x h1 h2 h3, ← hy]
  simp
/-- the first split after a time -/
theorem first_after {t : Int} : ∀ (l : List Int), (∃ x ∈ l, t < x) → ∃ (k : Nat) (x : Int), (∀ j y, j < k → l[j]? = some y → y ≤ t) ∧ l[k]? = some x ∧ t < x
  | [], h => by obtain ⟨x, hx, _⟩ := h; cases hx
  | y :: l, h => by
    by_cases hy : t < y
    · exact ⟨0, y, fun j z hj => absurd hj (by omega), rfl, hy⟩
    · obtain ⟨x, hx, hlt⟩ := h
      rcases List.mem_cons.1 hx with rfl | hx
      · exact absurd hlt hy
      · obtain ⟨k, x', h1, h2, h3⟩ := first_after l ⟨x, hx, hlt⟩
        refine ⟨k + 1, x', fun j z hj hz => ?_, by simpa using h2, h3⟩
        rcases j with _ | j
        · have : y = z := by simpa using hz
          omega
        · exact h1 j z (by omega) (by simpa using hz)
/-- from an edge to the next one somebody swims evenly -/
theorem spot_next {c tot E E' : Int} {l : List Int} (hr : risingF l 0 = true) (htot : tot = c * l.length) (hE : E ≤ E') (hx : ∃ x ∈ l, E < x) (hno : ∀ x ∈ l, x ≤ E ∨ E' ≤ x) :
    0 < (lapP l E).2.2 ∧ (farP c tot l E').1 * (lapP l E).2.2 = c * ((lapP l E).1 * (lapP l E).2.2 + E' - (lapP l E).2.1) * (farP c tot l E').2 ∧ farP c tot l E = (c * ((lapP l E).1 * (lapP l E).2.2 + E - (lapP l E).2.1), (lapP l E).2.2) := by
  obtain ⟨k, x, h1, h2, h3⟩ := first_after l hx
  have hxm := List.mem_of_getElem? h2
  have hEx : E' ≤ x := by rcases hno x hxm with h | h <;> omega
  generalize hy : (if k = 0 then (0 : Int) else l.getD (k - 1) 0) = y
  have hL := lapP_found h1 h2 h3 hy.symm
  have hF := farP_found (c := c) (tot := tot) h1 h2 h3 hy.symm
  have hyx : y < x := by
    by_cases hk : k = 0
    · subst hk; rw [if_pos rfl] at hy; subst hy; exact rise_gt hr h2
    · rw [if_neg hk] at hy
      obtain ⟨z, hz⟩ := at_of_lt (l := l) (k := k - 1) (by have := lt_of_at h2; omega)
      rw [getD_of hz] at hy
      subst hy
      exact rise_lt hr (by omega) hz h2
  rw [hL]
  refine ⟨by show 0 < x - y; omega, ?_, hF⟩
  show (farP c tot l E').1 * (x - y) = c * ((k : Int) * (x - y) + E' - y) * (farP c tot l E').2
  by_cases hlt : E' < x
  · rw [farP_found (c := c) (tot := tot) (fun j z hj hz => by have := h1 j z hj hz; omega) h2 hlt hy.symm]
  · have hEE : E' = x := by omega
    subst hEE
    by_cases hk : k + 1 < l.length
    · obtain ⟨x2, h4⟩ := at_of_lt (l := l) (k := k + 1) hk
      have h5 := rise_lt hr (show k < k + 1 by omega) h2 h4
      rw [farP_found (c := c) (tot := tot) (k := k + 1) (x := x2) (y := E') (fun j z hj hz => by
        by_cases hjk : j = k
        · subst hjk; rw [h2] at hz; injection hz with hz; omega
        · have := h1 j z (by omega) hz; omega) h4 h5 (by rw [if_neg (by omega), Nat.add_sub_cancel, getD_of h2])]
      show c * (((k + 1 : Nat) : Int) * (x2 - E') + E' - E') * (E' - y) = c * ((k : Int) * (E' - y) + E' - y) * (x2 - E')
      have e1 : ((k + 1 : Nat) : Int) * (x2 - E') + E' - E' = ((k : Int) + 1) * (x2 - E') := by push_cast; omega
      have e2 : (k : Int) * (E' - y) + E' - y = ((k : Int) + 1) * (E' - y) := by rw [Int.add_mul]; omega
      rw [e1, e2]
      simp only [Int.mul_assoc, Int.mul_comm, Int.mul_left_comm]
    · have hkl : l.length = k + 1 := by have := lt_of_at h2; omega
      rw [farP_none (fun j z hz => by
        have hj := lt_of_at hz
        by_cases hjk : j = k
        · subst hjk; rw [h2] at hz; injection hz with hz; omega
        · have := h1 j z (by omega) hz; omega)]
      show tot * (E' - y) = c * ((k : Int) * (E' - y) + E' - y) * 1
      have e2 : (k : Int) * (E' - y) + E' - y = ((k : Int) + 1) * (E' - y) := by rw [Int.add_mul]; omega
      rw [e2, htot, hkl, Int.mul_one]
      push_cast
      rw [Int.mul_assoc]
/-- equal fractions compare alike -/
theorem cmp_alike {p1 p2 m1 d q1 q2 m2 e : Int} (hp : 0 < p2) (hd : 0 < d) (hq : 0 < q2) (he : 0 < e) (h1 : p1 * d = m1 * p2) (h2 : q1 * e = m2 * q2) : Lib.compareInt (p1 * q2) (q1 * p2) = Lib.compareInt (m1 * e) (m2 * d) := by
  have hde : 0 < d * e := Int.mul_pos hd he
  have hpq : 0 < p2 * q2 := Int.mul_pos hp hq
  rw [← cmpInt_scale hde, ← cmpInt_scale (x := m1 * e) hpq]
  congr 1
  · calc d * e * (p1 * q2) = (p1 * d) * (e * q2) := by simp only [Int.mul_assoc, Int.mul_comm, Int.mul_left_comm]
      _ = (m1 * p2) * (e * q2) := by rw [h1]
      _ = p2 * q2 * (m1 * e) := by simp only [Int.mul_assoc, Int.mul_comm, Int.mul_left_comm]
  · calc d * e * (q1 * p2) = (q1 * e) * (d * p2) := by simp only [Int.mul_assoc, Int.mul_comm, Int.mul_left_comm]
      _ = (m2 * q2) * (d * p2) := by rw [h2]
      _ = p2 * q2 * (m2 * d) := by simp only [Int.mul_assoc, Int.mul_comm, Int.mul_left_comm]
/-- who is ahead: 1 the first one, -1 the second one -/
def sideP (c tot : Int) (a b : List Int) (t : Int) : Int := Lib.compareInt ((farP c tot a t).1 * (farP c tot b t).2) ((farP c tot b t).1 * (farP c tot a t).2)
/-- the time at which two meet who swim evenly from a time on: numerator and denominator -/
def meetP (a b : List Int) (t : Int) : Int × Int :=
  if (lapP b t).2.2 - (lapP a t).2.2 < 0 then
    (-((lapP a t).2.1 * (lapP b t).2.2 - (lapP b t).2.1 * (lapP a t).2.2 - ((lapP a t).1 - (lapP b t).1) * (lapP a t).2.2 * (lapP b t).2.2), -((lapP b t).2.2 - (lapP a t).2.2))
  else ((lapP a t).2.1 * (lapP b t).2.2 - (lapP b t).2.1 * (lapP a t).2.2 - ((lapP a t).1 - (lapP b t).1) * (lapP a t).2.2 * (lapP b t).2.2, (lapP b t).2.2 - (lapP a t).2.2)
theorem side_line {c tot E E' : Int} {a b : List Int} (hc : 0 < c) (hra : risingF a 0 = true) (hrb : risingF b 0 = true) (hta : tot = c * a.length) (htb : tot = c * b.length) (hE : E ≤ E') (hxa : ∃ x ∈ a, E < x) (hxb : ∃ x ∈ b, E < x) (hna : ∀ x ∈ a, x ≤ E ∨ E' ≤ x) (hnb : ∀ x ∈ b, x ≤ E ∨ E' ≤ x)
    (hpa : 0 < (farP c tot a E').2) (hpb : 0 < (farP c tot b E').2) :
    sideP c tot a b E' = Lib.compareInt (((lapP b E).2.2 - (lapP a E).2.2) * E') ((lapP a E).2.1 * (lapP b E).2.2 - (lapP b E).2.1 * (lapP a E).2.2 - ((lapP a E).1 - (lapP b E).1) * (lapP a E).2.2 * (lapP b E).2.2) := by
  obtain ⟨da, ea, _⟩ := spot_next (c := c) (tot := tot) hra hta hE hxa hna
  obtain ⟨db, eb, _⟩ := spot_next (c := c) (tot := tot) hrb htb hE hxb hnb
  unfold sideP
  rw [cmp_alike hpa da hpb db ea eb]
  generalize (lapP a E).1 = i at *
  generalize (lapP a E).2.1 = f at *
  generalize (lapP a E).2.2 = x at *
  generalize (lapP b E).1 = k at *
  generalize (lapP b E).2.1 = g at *
  generalize (lapP b E).2.2 = y at *
  clear ea eb hpa hpb
  have e1 : c * (i * x + E' - f) * y = c * ((i * x + E' - f) * y) := Int.mul_assoc _ _ _
  have e2 : c * (k * y + E' - g) * x = c * ((k * y + E' - g) * x) := Int.mul_assoc _ _ _
  rw [e1, e2, cmpInt_scale hc]
  have key : (i * x + E' - f) * y - (k * y + E' - g) * x = (y - x) * E' - (f * y - g * x - (i - k) * x * y) := by
    simp only [Int.sub_mul, Int.add_mul, Int.mul_sub, Int.mul_add, Int.mul_assoc, Int.mul_comm, Int.mul_left_comm]
    omega
  generalize (i * x + E' - f) * y = U at *
  generalize (k * y + E' - g) * x = V at *
  generalize (y - x) * E' = R at *
  generalize f * y - g * x - (i - k) * x * y = T at *
  rcases Int.lt_trichotomy U V with h | h | h
  · rw [cmpI_neg.2 h, cmpI_neg.2 (show R < T by omega)]
  · rw [cmpI_zero.2 h, cmpI_zero.2 (show R = T by omega)]
  · rw [cmpI_one.2 h, cmpI_one.2 (show T < R by omega)]
end Go.Proofs.YtlddeeagnlgciaaGreatDoor

/- Passes: the program's way and the reference's tell the same. Plain. -/
namespace Go.Proofs.YtlddeeagnlgciaaGreatDoor
open Go.RowKit
set_option linter.unusedVariables false

/-- the time at which two meet lies before the next edge -/
theorem meet_ok {c tot E E' : Int} {a b : List Int} (hc : 0 < c) (hra : risingF a 0 = true) (hrb : risingF b 0 = true) (hta : tot = c * a.length) (htb : tot = c * b.length) (hE0 : 0 ≤ E) (hE : E ≤ E') (hxa : ∃ x ∈ a, E < x) (hxb : ∃ x ∈ b, E < x) (hna : ∀ x ∈ a, x ≤ E ∨ E' ≤ x) (hnb : ∀ x ∈ b, x ≤ E ∨ E' ≤ x)
    (hpa : ∀ t, 0 < (farP c tot a t).2) (hpb : ∀ t, 0 < (farP c tot b t).2) (h0 : sideP c tot a b E' ≠ 0) (h1 : sideP c tot a b E = -sideP c tot a b E') :
    0 < (meetP a b E).2 ∧ 0 ≤ (meetP a b E).1 ∧ (meetP a b E).1 < E' * (meetP a b E).2 ∧ E * (meetP a b E).2 ≤ (meetP a b E).1 := by
  have s1 := side_line hc hra hrb hta htb hE hxa hxb hna hnb (hpa E') (hpb E')
  have s0 := side_line (E' := E) hc hra hrb hta htb (Int.le_refl _) hxa hxb (fun x _ => by omega) (fun x _ => by omega) (hpa E) (hpb E)
  unfold meetP
  generalize (lapP b E).2.2 - (lapP a E).2.2 = Q at *
  generalize (lapP a E).2.1 * (lapP b E).2.2 - (lapP b E).2.1 * (lapP a E).2.2 - ((lapP a E).1 - (lapP b E).1) * (lapP a E).2.2 * (lapP b E).2.2 = T at *
  generalize sideP c tot a b E = u at *
  generalize sideP c tot a b E' = v at *
  clear hta htb hna hnb hpa hpb hra hrb hxa hxb
  rcases cmp3' (Q * E') T with h | h | h
  · have hv : v = -1 := by rw [s1, h]
    have hu : Lib.compareInt (Q * E) T = 1 := by rw [← s0, h1, hv]; rfl
    have a1 := cmpI_neg.1 h
    have a2 := cmpI_one.1 hu
    have hQ : Q < 0 := by
      rcases Int.lt_or_le Q 0 with h9 | h9
      · exact h9
      · have := Int.mul_le_mul_of_nonneg_left hE h9; omega
    rw [if_pos hQ]
    have hm := Int.mul_nonneg (show 0 ≤ -Q by omega) hE0
    have e1 : -Q * E = -(Q * E) := Int.neg_mul _ _
    have e2 : E' * -Q = -(Q * E') := by rw [Int.mul_neg, Int.mul_comm]
    have e3 : E * -Q = -(Q * E) := by rw [Int.mul_neg, Int.mul_comm]
    exact ⟨by show 0 < -Q; omega, by show 0 ≤ -T; omega, by show -T < E' * -Q; omega, by show E * -Q ≤ -T; omega⟩
  · exact absurd (s1.trans h) h0
  · have hv : v = 1 := by rw [s1, h]
    have hu : Lib.compareInt (Q * E) T = -1 := by rw [← s0, h1, hv]
    have a1 := cmpI_one.1 h
    have a2 := cmpI_neg.1 hu
    have hQ : 0 < Q := by
      rcases Int.lt_or_le 0 Q with h9 | h9
      · exact h9
      · have := Int.mul_le_mul_of_nonpos_left h9 hE; omega
    rw [if_neg (by omega)]
    have hm := Int.mul_nonneg (show 0 ≤ Q by omega) hE0
    have e2 : E' * Q = Q * E' := Int.mul_comm _ _
    have e3 : E * Q = Q * E := Int.mul_comm _ _
    exact ⟨hQ, by show 0 ≤ T; omega, by show T < E' * Q; omega, by show E * Q ≤ T; omega⟩
/-- race.passes, from edge to edge: e the last edge, o who was ahead last -/
def passGo (S : Int → Int) (M : Int → Int × Int) : Int → Int → List Int → List (Int × Int)
  | _, _, [] => []
  | e, o, t :: l => (if S t ≠ 0 ∧ S e = -S t then [M e] else if S t ≠ 0 ∧ S e = 0 ∧ o = -S t then [(e, 1)] else []) ++ passGo S M t (if S t ≠ 0 then S t else o) l
/-- the reference's: also who was ahead at the edge before, and when they were equal last -/
def passRef (S : Int → Int) (M : Int → Int × Int) (fin : Int) : Int → Int → Int × Int → Int → List Int → List (Int × Int)
  | _, _, _, _, [] => []
  | side, before, eq, prev, t :: l =>
    let eq' := if S t = 0 then (t, 1) else if before * S t < 0 then M prev else eq
    (if S t ≠ 0 ∧ side ≠ 0 ∧ S t ≠ side ∧ eq'.1 < fin * eq'.2 then [eq'] else []) ++ passRef S M fin (if S t ≠ 0 then S t else side) (S t) eq' t l
/-- edges in order: each before the end; where they pass between two, it is before the end -/
def EdgeOk (S : Int → Int) (M : Int → Int × Int) (fin : Int) : Int → List Int → Prop
  | _, [] => True
  | e, t :: l => e < fin ∧ (S t ≠ 0 → S e = -S t → (M e).1 < fin * (M e).2) ∧ EdgeOk S M fin t l
theorem pass_same (S : Int → Int) (M : Int → Int × Int) (fin : Int) (hS : ∀ t, S t = -1 ∨ S t = 0 ∨ S t = 1) : ∀ (l : List Int) (e o : Int) (eq : Int × Int), EdgeOk S M fin e l → (S e = 0 → eq = (e, 1)) → (S e ≠ 0 → o = S e) → (o = -1 ∨ o = 0 ∨ o = 1) → passRef S M fin o (S e) eq e l = passGo S M e o l
  | [], _, _, _, _, _, _, _ => rfl
  | t :: l, e, o, eq, hk, h0, h1, h2 => by
    obtain ⟨k1, k2, k3⟩ := hk
    unfold passRef passGo
    have hse := hS e
    have hst := hS t
    have key : ∀ eq', (S t = 0 → eq' = (t, 1)) → passRef S M fin (if S t ≠ 0 then S t else o) (S t) eq' t l = passGo S M t (if S t ≠ 0 then S t else o) l := fun eq' he => by
      refine pass_same S M fin hS l t _ eq' k3 he (fun h => by rw [if_pos h]) ?_
      split
      · exact hst
      · exact h2
    by_cases ht : S t = 0
    · simp only [ht, if_true, ne_eq, not_true_eq_false, false_and, if_false, List.nil_append] at key ⊢
      exact key (t, 1) (fun _ => rfl)
    · simp only [if_neg ht]
      rw [key _ (fun h => absurd h ht)]
      congr 1
      by_cases he : S e = 0
      · have e1 : ¬ (S e * S t < 0) := by rw [he]; simp
        have e2 : ¬ (S t ≠ 0 ∧ S e = -S t) := by rintro ⟨_, h⟩; omega
        rw [if_neg e1, if_neg e2, h0 he]
        by_cases ho : o = -S t
        · rw [if_pos ⟨ht, by omega, by omega, by show e < fin * 1; omega⟩, if_pos ⟨ht, he, ho⟩]
        · rw [if_neg (by rintro ⟨_, h3, h4, _⟩; omega), if_neg (by rintro ⟨_, _, h⟩; exact ho h)]
      · have ho := h1 he
        have e3 : ¬ (S t ≠ 0 ∧ S e = 0 ∧ o = -S t) := fun h => he h.2.1
        by_cases hn : S e = -S t
        · have e1 : S e * S t < 0 := by
            rcases hst with h | h | h
            · rw [hn, h]; decide
            · exact absurd h ht
            · rw [hn, h]; decide
          rw [if_pos e1, if_pos ⟨ht, by omega, by omega, k2 ht hn⟩, if_pos ⟨ht, hn⟩]
        · have e4 : ¬ (S t ≠ 0 ∧ S e = -S t) := fun h => hn h.2
          rw [if_neg (by rintro ⟨_, _, h4, _⟩; omega), if_neg e4, if_neg e3]
/-- lists that rise and have the same members are the same -/
theorem asc_unique : ∀ (a b : List Int), a.Pairwise (· < ·) → b.Pairwise (· < ·) → (∀ x, x ∈ a ↔ x ∈ b) → a = b
  | [], [], _, _, _ => rfl
  | [], y :: b, _, _, h => by have := (h y).2 (by simp); cases this
  | x :: a, [], _, _, h => by have := (h x).1 (by simp); cases this
  | x :: a, y :: b, ha, hb, h => by
    obtain ⟨ha1, ha2⟩ := List.pairwise_cons.1 ha
    obtain ⟨hb1, hb2⟩ := List.pairwise_cons.1 hb
    have hxy : x = y := by
      rcases List.mem_cons.1 ((h x).1 (by simp)) with h1 | h1
      · exact h1
      · rcases List.mem_cons.1 ((h y).2 (by simp)) with h2 | h2
        · exact h2.symm
        · have := ha1 y h2; have := hb1 x h1; omega
    subst hxy
    rw [asc_unique a b ha2 hb2 fun z => ?_]
    constructor
    · intro hz
      rcases List.mem_cons.1 ((h z).1 (List.mem_cons_of_mem _ hz)) with h1 | h1
      · have := ha1 z hz; omega
      · exact h1
    · intro hz
      rcases List.mem_cons.1 ((h z).2 (List.mem_cons_of_mem _ hz)) with h1 | h1
      · have := hb1 z hz; omega
      · exact h1
end Go.Proofs.YtlddeeagnlgciaaGreatDoor

/- The edges of two swimmers' splits: the program's list and the reference's are the same; passes are the same. Plain. -/
namespace Go.Proofs.YtlddeeagnlgciaaGreatDoor
open Go.RowKit
set_option linter.unusedVariables false

/-- what slices.Compact leaves of a list in order: it rises, with the same members -/
theorem compact_up (d : Array Int) (hs : ∀ i j, i < j → j < d.size → d[i]! ≤ d[j]!) : ∀ m, m ≤ d.size → (Lib.compactUpTo d m).Pairwise (· < ·) ∧ (∀ x, x ∈ Lib.compactUpTo d m ↔ ∃ j, j < m ∧ d[j]! = x)
  | 0, _ => ⟨by simp [Lib.compactUpTo], fun x => by simp [Lib.compactUpTo]⟩
  | m + 1, hm => by
    obtain ⟨h1, h2⟩ := compact_up d hs m (by omega)
    rw [Lib.compactUpTo_succ]
    by_cases hk : Lib.keeps d m = true
    · rw [if_pos hk]
      have hlt : ∀ j, j < m → d[j]! < d[m]! := fun j hj => by
        have h3 := hs j m hj (by omega)
        have h4 := hs (m - 1) m (by omega) (by omega)
        have h5 : d[j]! ≤ d[m - 1]! := by
          by_cases hjm : j = m - 1
          · rw [hjm]; exact Int.le_refl _
          · exact hs j (m - 1) (by omega) (by omega)
        have h6 : d[m]! ≠ d[m - 1]! := by
          unfold Lib.keeps at hk
          rw [decide_eq_true_iff] at hk
          rcases hk with h | h
          · omega
          · exact h
        omega
      refine ⟨List.pairwise_append.2 ⟨h1, by simp, fun x hx y hy => ?_⟩, fun x => ?_⟩
      · obtain ⟨j, hj, rfl⟩ := (h2 x).1 hx
        simp at hy
        subst hy
        exact hlt j hj
      · rw [List.mem_append, h2]
        constructor
        · rintro (⟨j, hj, e⟩ | h)
          · exact ⟨j, by omega, e⟩
          · simp at h; exact ⟨m, by omega, h.symm⟩
        · rintro ⟨j, hj, e⟩
          by_cases hjm : j = m
          · subst hjm; exact .inr (by simp [e])
          · exact .inl ⟨j, by omega, e⟩
    · rw [if_neg hk, List.append_nil]
      refine ⟨h1, fun x => ?_⟩
      rw [h2]
      constructor
      · rintro ⟨j, hj, e⟩; exact ⟨j, by omega, e⟩
      · rintro ⟨j, hj, e⟩
        by_cases hjm : j = m
        · subst hjm
          have h0 : j ≠ 0 ∧ d[j]! = d[j - 1]! := by
            unfold Lib.keeps at hk
            rw [decide_eq_true_iff] at hk
            exact ⟨fun h => hk (.inl h), by by_cases h : d[j]! = d[j - 1]!; exact h; exact absurd (.inr h) hk⟩
          exact ⟨j - 1, by omega, by rw [← h0.2]; exact e⟩
        · exact ⟨j, by omega, e⟩
theorem compact_sort (l : List Int) : (Lib.compact (l.mergeSort fun x y => decide (x ≤ y))).Pairwise (· < ·) ∧ ∀ x, x ∈ Lib.compact (l.mergeSort fun x y => decide (x ≤ y)) ↔ x ∈ l := by
  have hp : (l.mergeSort fun x y => decide (x ≤ y)).Perm l := List.mergeSort_perm _ _
  have hs : (l.mergeSort fun x y => decide (x ≤ y)).Pairwise fun x y => x ≤ y := by
    have h := List.pairwise_mergeSort (le := fun x y : Int => decide (x ≤ y)) (fun a b c h1 h2 => by simp at *; omega) (fun a b => by simp; omega) l
    exact h.imp fun h => by simpa using h
  generalize l.mergeSort (fun x y => decide (x ≤ y)) = s at *
  have hss : ∀ i j, i < j → j < s.toArray.size → s.toArray[i]! ≤ s.toArray[j]! := fun i j hij hj => by
    have hj' : j < s.length := by simpa using hj
    have h3 := List.pairwise_iff_getElem.1 hs i j (by omega) hj' hij
    rw [getElem!_pos s.toArray i (by simp; omega), getElem!_pos s.toArray j hj]
    simpa using h3
  obtain ⟨h1, h2⟩ := compact_up s.toArray hss s.length (by simp)
  refine ⟨h1, fun x => ?_⟩
  show x ∈ Lib.compactUpTo s.toArray s.length ↔ _
  rw [h2, ← hp.mem_iff]
  constructor
  · rintro ⟨j, hj, e⟩
    rw [getElem!_pos s.toArray j (by simpa using hj)] at e
    rw [← e]
    simp
  · intro hx
    obtain ⟨j, hj⟩ := List.mem_iff_getElem?.1 hx
    have hjl := lt_of_at hj
    refine ⟨j, hjl, ?_⟩
    rw [getElem!_pos s.toArray j (by simpa using hjl)]
    rw [List.getElem?_eq_getElem hjl] at hj
    injection hj with hj
/-- the program's edges, the reference's -/
def edgesP (a b : List Int) (fin : Int) : List Int := Lib.compact ((0 :: fin :: (a ++ b).filter fun x => decide (x < fin)).mergeSort fun x y => decide (x ≤ y))
def edgesR (a b : List Int) (fin : Int) : List Int := (Lib.compact ((0 :: (a ++ b)).mergeSort fun x y => decide (x ≤ y))).filter fun x => !decide (fin < x)
theorem edges_same {a b : List Int} {fin : Int} (hf : fin ∈ a ++ b) (h0 : 0 ≤ fin) : edgesR a b fin = edgesP a b fin := by
  obtain ⟨p1, p2⟩ := compact_sort (0 :: fin :: (a ++ b).filter fun x => decide (x < fin))
  obtain ⟨r1, r2⟩ := compact_sort (0 :: (a ++ b))
  refine asc_unique _ _ (r1.filter _) p1 fun x => ?_
  unfold edgesR edgesP
  rw [List.mem_filter, r2, p2]
  simp only [List.mem_cons, List.mem_filter, Bool.not_eq_true', decide_eq_false_iff_not, decide_eq_true_eq]
  constructor
  · rintro ⟨h | h, hx⟩
    · exact .inl h
    · by_cases hxf : x = fin
      · exact .inr (.inl hxf)
      · exact .inr (.inr ⟨h, by omega⟩)
  · rintro (h | h | ⟨h, hx⟩)
    · exact ⟨.inl h, by omega⟩
    · subst h; exact ⟨.inr hf, by omega⟩
    · exact ⟨.inr h, by omega⟩
/-- edges from 0 to the end, rising; between two of them no split -/
theorem edges_ok {a b : List Int} {fin : Int} (hf : fin ∈ a ++ b) (hp : ∀ x ∈ a ++ b, 0 < x) : ∃ rest, edgesP a b fin = 0 :: rest ∧ (edgesP a b fin).Pairwise (· < ·) ∧ (∀ x ∈ edgesP a b fin, 0 ≤ x ∧ x ≤ fin) ∧ (∀ x ∈ a ++ b, x ≤ fin → x ∈ edgesP a b fin) := by
  obtain ⟨p1, p2⟩ := compact_sort (0 :: fin :: (a ++ b).filter fun x => decide (x < fin))
  have hmem : ∀ x, x ∈ edgesP a b fin ↔ x = 0 ∨ x = fin ∨ (x ∈ a ++ b ∧ x < fin) := fun x => by
    unfold edgesP
    rw [p2]
    simp only [List.mem_cons, List.mem_filter, decide_eq_true_eq]
  have hfp := hp fin hf
  have hbd : ∀ x ∈ edgesP a b fin, 0 ≤ x ∧ x ≤ fin := fun x hx => by
    rcases (hmem x).1 hx with h | h | ⟨h1, h2⟩
    · omega
    · omega
    · have := hp x h1; omega
  have hall : ∀ x ∈ a ++ b, x ≤ fin → x ∈ edgesP a b fin := fun x hx hxf => by
    refine (hmem x).2 ?_
    by_cases h : x = fin
    · exact .inr (.inl h)
    · exact .inr (.inr ⟨hx, by omega⟩)
  have h0m : (0 : Int) ∈ edgesP a b fin := (hmem 0).2 (.inl rfl)
  have hpw : (edgesP a b fin).Pairwise (· < ·) := p1
  generalize edgesP a b fin = L at *
  rcases L with _ | ⟨e, rest⟩
  · cases h0m
  · have he : e = 0 := by
      rcases List.mem_cons.1 h0m with h | h
      · exact h.symm
      · have h1 := (List.pairwise_cons.1 hpw).1 0 h
        have h2 := hbd e (by simp)
        omega
    subst he
    exact ⟨rest, rfl, hpw, hbd, hall⟩
end Go.Proofs.YtlddeeagnlgciaaGreatDoor

/- The passes of two swimmers: one list, by the program's way and by the reference's. Plain. -/
namespace Go.Proofs.YtlddeeagnlgciaaGreatDoor
open Go.RowKit
set_option linter.unusedVariables false

/-- the time at which two meet, in lowest terms -/
def meetF (a b : List Int) (t : Int) : Int × Int := (fracN (meetP a b t).1 (meetP a b t).2, fracD (meetP a b t).1 (meetP a b t).2)
theorem frac_before {p q f : Int} (hq : 0 < q) (h : p < f * q) : fracN p q < f * fracD p q := by
  obtain ⟨hg, e1, e2⟩ := frac_split (a := p) hq
  generalize (Int.gcd p q : Int) = g at *
  generalize fracN p q = N at *
  generalize fracD p q = D at *
  subst e1 e2
  have e3 : f * (g * D) = g * (f * D) := by simp only [Int.mul_comm, Int.mul_left_comm]
  rw [e3] at h
  exact Int.lt_of_mul_lt_mul_left h (Int.le_of_lt hg)
theorem far_zero {c tot : Int} {l : List Int} (hr : risingF l 0 = true) (hl : 0 < l.length) : (farP c tot l 0).1 = 0 ∧ 0 < (farP c tot l 0).2 := by
  obtain ⟨x, hx⟩ := at_of_lt hl
  have hx0 := rise_gt hr hx
  rw [farP_found (c := c) (tot := tot) (k := 0) (x := x) (y := 0) (fun j y hj => absurd hj (by omega)) hx hx0 (by simp)]
  constructor
  · show c * (((0 : Nat) : Int) * (x - 0) + 0 - 0) = 0
    simp
  · show 0 < x - 0
    omega
theorem side_zero {c tot : Int} {a b : List Int} (hra : risingF a 0 = true) (hrb : risingF b 0 = true) (ha : 0 < a.length) (hb : 0 < b.length) : sideP c tot a b 0 = 0 := by
  unfold sideP
  rw [(far_zero hra ha).1, (far_zero hrb hb).1]
  simp [cmpI_zero]
theorem far_pos {c tot t : Int} {l : List Int} (hr : risingF l 0 = true) : 0 < (farP c tot l t).2 := by
  by_cases h : ∃ x ∈ l, t < x
  · obtain ⟨k, x, h1, h2, h3⟩ := first_after l h
    generalize hy : (if k = 0 then (0 : Int) else l.getD (k - 1) 0) = y
    rw [farP_found (c := c) (tot := tot) h1 h2 h3 hy.symm]
    show 0 < x - y
    by_cases hk : k = 0
    · subst hk; rw [if_pos rfl] at hy; subst hy; have := rise_gt hr h2; omega
    · rw [if_neg hk] at hy
      obtain ⟨z, hz⟩ := at_of_lt (l := l) (k := k - 1) (by have := lt_of_at h2; omega)
      rw [getD_of hz] at hy
      subst hy
      have := rise_lt hr (show k - 1 < k by omega) hz h2
      omega
  · rw [farP_none (fun j y hy => by
      have hn : ¬ t < y := fun hlt => h ⟨y, List.mem_of_getElem? hy, hlt⟩
      omega)]
    show (0 : Int) < 1
    decide
theorem rise_all {l : List Int} (hr : risingF l 0 = true) : ∀ x ∈ l, 0 < x := fun x hx => by
  obtain ⟨j, hj⟩ := List.mem_iff_getElem?.1 hx
  exact rise_gt hr hj
/-- two swimmers of a race -/
structure Two2 (c tot : Int) (a b : List Int) (fin : Int) : Prop where
  c0 : 0 < c
  ra : risingF a 0 = true
  rb : risingF b 0 = true
  ta : tot = c * a.length
  tb : tot = c * b.length
  la : 0 < a.length
  lb : 0 < b.length
  fm : fin ∈ a ++ b
  xa : ∃ x ∈ a, fin ≤ x
  xb : ∃ x ∈ b, fin ≤ x
/-- between two edges in a row the meeting is told right -/
theorem edge_step {c tot fin : Int} {a b : List Int} (h : Two2 c tot a b fin) {E E' : Int} (h0 : 0 ≤ E) (hlt : E < E') (hf : E' ≤ fin) (hno : ∀ x ∈ a ++ b, x ≤ fin → x ≤ E ∨ E' ≤ x) (hs : sideP c tot a b E' ≠ 0) (hs2 : sideP c tot a b E = -sideP c tot a b E') :
    0 < (meetP a b E).2 ∧ 0 ≤ (meetP a b E).1 ∧ (meetF a b E).1 < fin * (meetF a b E).2 := by
  have hna : ∀ x ∈ a, x ≤ E ∨ E' ≤ x := fun x hx => by
    by_cases hxf : x ≤ fin
    · exact hno x (List.mem_append_left _ hx) hxf
    · exact .inr (by omega)
  have hnb : ∀ x ∈ b, x ≤ E ∨ E' ≤ x := fun x hx => by
    by_cases hxf : x ≤ fin
    · exact hno x (List.mem_append_right _ hx) hxf
    · exact .inr (by omega)
  obtain ⟨xa, hxa, hxa2⟩ := h.xa
  obtain ⟨xb, hxb, hxb2⟩ := h.xb
  obtain ⟨m1, m2, m3, m4⟩ := meet_ok h.c0 h.ra h.rb h.ta h.tb h0 (Int.le_of_lt hlt) ⟨xa, hxa, by omega⟩ ⟨xb, hxb, by omega⟩ hna hnb (fun t => far_pos h.ra) (fun t => far_pos h.rb) hs hs2
  refine ⟨m1, m2, ?_⟩
  have m5 := Int.mul_le_mul_of_nonneg_right hf (Int.le_of_lt m1)
  exact frac_before m1 (by omega)
theorem edges_chain {c tot fin : Int} {a b : List Int} (h : Two2 c tot a b fin) : ∀ (l : List Int) (e : Int), (e :: l).Pairwise (· < ·) → (∀ x ∈ e :: l, 0 ≤ x ∧ x ≤ fin) → (∀ x ∈ a ++ b, x ≤ fin → x ≤ e ∨ x ∈ l) → EdgeOk (sideP c tot a b) (meetF a b) fin e l
  | [], _, _, _, _ => trivial
  | t :: l, e, hp, hb, hm => by
    obtain ⟨hp1, hp2⟩ := List.pairwise_cons.1 hp
    obtain ⟨hp3, hp4⟩ := List.pairwise_cons.1 hp2
    have hbe := hb e (by simp)
    have hbt := hb t (by simp)
    have het := hp1 t (by simp)
    refine ⟨by omega, fun hs hs2 => (edge_step h hbe.1 het hbt.2 (fun x hx hxf => ?_) hs hs2).2.2, edges_chain h l t hp2 (fun x hx => hb x (List.mem_cons_of_mem _ hx)) fun x hx hxf => ?_⟩
    · rcases hm x hx hxf with h1 | h1
      · exact .inl h1
      · rcases List.mem_cons.1 h1 with h2 | h2
        · exact .inr (by omega)
        · have := hp3 x h2; exact .inr (by omega)
    · rcases hm x hx hxf with h1 | h1
      · exact .inl (by omega)
      · rcases List.mem_cons.1 h1 with h2 | h2
        · exact .inl (by omega)
        · exact .inr h2
theorem side3 (c tot : Int) (a b : List Int) (t : Int) : sideP c tot a b t = -1 ∨ sideP c tot a b t = 0 ∨ sideP c tot a b t = 1 := cmp3' _ _
theorem passRef_cons (S : Int → Int) (M : Int → Int × Int) (fin side before : Int) (eq : Int × Int) (prev t : Int) (l : List Int) : passRef S M fin side before eq prev (t :: l) = (if S t ≠ 0 ∧ side ≠ 0 ∧ S t ≠ side ∧ (if S t = 0 then (t, 1) else if before * S t < 0 then M prev else eq).1 < fin * (if S t = 0 then (t, 1) else if before * S t < 0 then M prev else eq).2 then [if S t = 0 then (t, 1) else if before * S t < 0 then M prev else eq] else []) ++ passRef S M fin (if S t ≠ 0 then S t else side) (S t) (if S t = 0 then (t, 1) else if before * S t < 0 then M prev else eq) t l := rfl
/-- the passes -/
def passL (c tot : Int) (a b : List Int) (fin : Int) : List (Int × Int) := passGo (sideP c tot a b) (meetF a b) 0 0 (edgesP a b fin).tail
theorem passes_same {c tot fin : Int} {a b : List Int} (h : Two2 c tot a b fin) (eq0 : Int × Int) (p0 : Int) :
    passRef (sideP c tot a b) (meetF a b) fin 0 0 eq0 p0 (edgesR a b fin) = passL c tot a b fin := by
  have hpos : ∀ x ∈ a ++ b, 0 < x := fun x hx => by
    rcases List.mem_append.1 hx with hx | hx
    · exact rise_all h.ra x hx
    · exact rise_all h.rb x hx
  have hf0 := hpos fin h.fm
  obtain ⟨rest, he, hpw, hbd, hall⟩ := edges_ok h.fm hpos
  rw [edges_same h.fm (by omega)]
  unfold passL
  rw [he]
  have hs0 := side_zero (c := c) (tot := tot) h.ra h.rb h.la h.lb
  have hch : EdgeOk (sideP c tot a b) (meetF a b) fin 0 rest := by
    rw [he] at hpw hbd hall
    refine edges_chain h rest 0 hpw hbd fun x hx hxf => ?_
    rcases List.mem_cons.1 (hall x hx hxf) with h1 | h1
    · exact .inl (by omega)
    · exact .inr h1
  have h1 := pass_same (sideP c tot a b) (meetF a b) fin (side3 c tot a b) rest 0 0 (0, 1) hch (fun _ => rfl) (fun hne => absurd hs0 hne) (.inr (.inl rfl))
  rw [hs0] at h1
  rw [List.tail_cons, ← h1, passRef_cons]
  simp only [hs0, if_true, ne_eq, not_true_eq_false, false_and, if_false, List.nil_append]
end Go.Proofs.YtlddeeagnlgciaaGreatDoor
