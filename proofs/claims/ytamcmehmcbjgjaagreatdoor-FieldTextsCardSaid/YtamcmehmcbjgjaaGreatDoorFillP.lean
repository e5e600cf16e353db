import Derived.Test.YtamcmehmcbjgjaaGreatDoorTurns
import Derived.Deep.RegionHeld3
import Derived.Deep.AppendLies
import Derived.Test.YtamcmehmcbjgjaaGreatDoorSplits2
/- Plain lemmas: splits that are filled in. -/
namespace Go.Proofs.YtamcmehmcbjgjaaGreatDoor
open Go.RowKit
set_option linter.unusedVariables false

def mixK (f : Nat → Int) (l : List Int) (k : Nat) : List Int := (List.range l.length).map fun i => if i < k then f i else l.getD i 0
theorem mixK_len (f : Nat → Int) (l : List Int) (k : Nat) : (mixK f l k).length = l.length := by simp [mixK]
theorem mixK_zero (f : Nat → Int) (l : List Int) : mixK f l 0 = l := by
  apply List.ext_getElem?; intro i
  by_cases h : i < l.length <;> simp [mixK, h]
theorem mixK_full (f : Nat → Int) (l : List Int) : mixK f l l.length = listOf f l.length := by
  apply List.ext_getElem?; intro i
  by_cases h : i < l.length <;> simp [mixK, listOf, h]
theorem mixK_set (f : Nat → Int) (l : List Int) (k : Nat) : (mixK f l k).set k (f k) = mixK f l (k + 1) := by
  apply List.ext_getElem?; intro i
  rw [List.getElem?_set]
  by_cases hi : i < l.length
  · by_cases hk : k = i
    · subst hk; simp [mixK, hi]
    · simp only [hk, if_false]
      simp only [mixK, List.getElem?_map, List.getElem?_range hi, Option.map_some]
      congr 1
      by_cases h : i < k
      · rw [if_pos h, if_pos (by omega)]
      · rw [if_neg h, if_neg (by omega)]
  · by_cases hk : k = i
    · subst hk; simp [mixK, hi]
    · simp [mixK, hi, hk]
theorem mixK_skip (f : Nat → Int) (l : List Int) (k : Nat) (h : f k = l.getD k 0) : mixK f l k = mixK f l (k + 1) := by
  apply List.ext_getElem?; intro i
  by_cases hi : i < l.length
  · simp only [mixK, List.getElem?_map, List.getElem?_range hi, Option.map_some]
    congr 1
    by_cases hk : i = k
    · subst hk; rw [if_neg (by omega), if_pos (by omega), h]
    · by_cases h2 : i < k
      · rw [if_pos h2, if_pos (by omega)]
      · rw [if_neg h2, if_neg (by omega)]
  · simp [mixK, hi]

/-- the last one that is known before i: its number and its time -/
def prevF (l : List Int) : Nat → Int × Int
  | 0 => (-1, 0)
  | i + 1 => if l.getD i 0 = 0 then prevF l i else (i, l.getD i 0)
/-- the first one that is known from i on -/
def nextF (l : List Int) (i : Nat) : Nat := i + (l.drop i).findIdx (fun x => x != 0)
def fillAt (l : List Int) (i : Nat) : Int := (prevF l i).2 + (l.getD (nextF l i) 0 - (prevF l i).2) * (i - (prevF l i).1) / (nextF l i - (prevF l i).1)
def fillL (l : List Int) : List Int := listOf (fillAt l) l.length

theorem prevF_zero {l : List Int} {i : Nat} (h : l.getD i 0 = 0) : prevF l (i + 1) = prevF l i := by rw [prevF, if_pos h]
theorem prevF_known {l : List Int} {i : Nat} (h : l.getD i 0 ≠ 0) : prevF l (i + 1) = ((i : Int), l.getD i 0) := by rw [prevF, if_neg h]
theorem prevF_const {l : List Int} {i : Nat} : ∀ (d : Nat), (∀ t, i ≤ t → t < i + d → l.getD t 0 = 0) → prevF l (i + d) = prevF l i
  | 0, _ => rfl
  | d + 1, h => by
    rw [show i + (d + 1) = (i + d) + 1 from by omega, prevF_zero (h (i + d) (by omega) (by omega))]
    exact prevF_const d (fun t h1 h2 => h t h1 (by omega))
theorem nextF_eq {l : List Int} {i k : Nat} (hik : i ≤ k) (hk : l.getD k 0 ≠ 0) (hz : ∀ t, i ≤ t → t < k → l.getD t 0 = 0) : nextF l i = k := by
  unfold nextF
  have hkl : k < l.length := by
    rcases Nat.lt_or_ge k l.length with h | h
    · exact h
    · exfalso; apply hk; rw [List.getD_eq_getElem?_getD, List.getElem?_eq_none h]; rfl
  have : (l.drop i).findIdx (fun x => x != 0) = k - i := by
    rw [List.findIdx_eq (by rw [List.length_drop]; omega)]
    constructor
    · have e : (l.drop i)[k - i]'(by rw [List.length_drop]; omega) = l[k] := by rw [List.getElem_drop]; congr 1; omega
      rw [e]
      rw [List.getD_eq_getElem?_getD, List.getElem?_eq_getElem hkl] at hk
      simpa using hk
    · intro j hj
      have h1 := hz (i + j) (by omega) (by omega)
      rw [List.getElem_drop]
      rw [List.getD_eq_getElem?_getD, List.getElem?_eq_getElem (by omega)] at h1
      simpa using h1
  rw [this]; omega
/-- a value that is filled in -/
theorem fillAt_eq {l : List Int} {m i k : Nat} {a b : Int} (hm : prevF l m = ((m : Int) - 1, a)) (hmi : m ≤ i) (hik : i ≤ k) (hk : l.getD k 0 = b) (hb : b ≠ 0) (hz : ∀ t, m ≤ t → t < k → l.getD t 0 = 0) :
    fillAt l i = a + (b - a) * (i - ((m : Int) - 1)) / (k - ((m : Int) - 1)) := by
  have e1 : prevF l i = ((m : Int) - 1, a) := by
    rw [← hm, show i = m + (i - m) from by omega]
    exact prevF_const _ (fun t h1 h2 => hz t h1 (by omega))
  have e2 : nextF l i = k := nextF_eq hik (by rw [hk]; exact hb) (fun t h1 h2 => hz t (by omega) h2)
  unfold fillAt
  rw [e1, e2, hk]
theorem fillAt_known {l : List Int} {m k : Nat} {a b : Int} (hm : prevF l m = ((m : Int) - 1, a)) (hmk : m ≤ k) (hk : l.getD k 0 = b) (hb : b ≠ 0) (hz : ∀ t, m ≤ t → t < k → l.getD t 0 = 0) : fillAt l k = b := by
  rw [fillAt_eq hm hmk (Nat.le_refl _) hk hb hz, Int.mul_ediv_cancel _ (by omega)]
  omega
/-- the place where the last known one stands: one past it -/
theorem prevF_at (l : List Int) : ∀ i : Nat, ∃ (m : Nat) (a : Int), m ≤ i ∧ prevF l m = ((m : Int) - 1, a) ∧ prevF l i = ((m : Int) - 1, a) ∧ ∀ t, m ≤ t → t < i → l.getD t 0 = 0
  | 0 => ⟨0, 0, Nat.le_refl _, rfl, rfl, fun t _ h => absurd h (by omega)⟩
  | i + 1 => by
    by_cases h : l.getD i 0 = 0
    · obtain ⟨m, a, h1, h2, h3, h4⟩ := prevF_at l i
      refine ⟨m, a, by omega, h2, by rw [prevF_zero h, h3], fun t ht ht2 => ?_⟩
      by_cases e : t = i
      · rw [e]; exact h
      · exact h4 t ht (by omega)
    · exact ⟨i + 1, l.getD i 0, Nat.le_refl _, by rw [prevF_known h]; congr 1; omega, by rw [prevF_known h]; congr 1; omega, fun t h1 h2 => absurd h2 (by omega)⟩
theorem next_known {l : List Int} (hl : l.getLastD 0 ≠ 0) : ∀ (d i : Nat), i + d = l.length → i < l.length → ∃ k, i ≤ k ∧ k < l.length ∧ l.getD k 0 ≠ 0 ∧ ∀ t, i ≤ t → t < k → l.getD t 0 = 0
  | 0, i, h, hi => by omega
  | d + 1, i, h, hi => by
    by_cases h0 : l.getD i 0 = 0
    · by_cases hi2 : i + 1 < l.length
      · obtain ⟨k, h1, h2, h3, h4⟩ := next_known hl d (i + 1) (by omega) hi2
        refine ⟨k, by omega, h2, h3, fun t ht ht2 => ?_⟩
        by_cases e : t = i
        · rw [e]; exact h0
        · exact h4 t (by omega) ht2
      · exfalso
        have := last_at (l := l) rfl (by omega)
        rw [← getD_of this, show l.length - 1 = i from by omega] at hl
        exact hl h0
    · exact ⟨i, Nat.le_refl _, hi, h0, fun t h1 h2 => absurd h2 (by omega)⟩
theorem sp_step {l : List Int} {i : Nat} {x last : Int} (h : spErrL (l.drop i) last = 0) (hx : l[i]? = some x) : (0 ≤ x ∧ x ≤ 360000) ∧ (x ≠ 0 → last < x) ∧ spErrL (l.drop (i + 1)) (if x ≠ 0 then x else last) = 0 := by
  rw [drop_at hx, spErrL] at h
  split at h
  · cases h
  · rename_i h1
    split at h
    · cases h
    · rename_i h2
      exact ⟨by omega, fun hx0 => by rcases Int.lt_or_le last x with h3 | h3
                                     · exact h3
                                     · exact absurd ⟨hx0, h3⟩ h2, h⟩
theorem prevF_sp {l : List Int} (h : spErrL l 0 = 0) : ∀ i, i ≤ l.length → 0 ≤ (prevF l i).2 ∧ (prevF l i).2 ≤ 360000 ∧ spErrL (l.drop i) (prevF l i).2 = 0
  | 0, _ => ⟨by show (0 : Int) ≤ 0; omega, by show (0 : Int) ≤ 360000; omega, by rw [List.drop_zero]; exact h⟩
  | i + 1, hi => by
    obtain ⟨h1, h2, h3⟩ := prevF_sp h i (by omega)
    obtain ⟨x, hx⟩ := at_of_lt (l := l) (k := i) (by omega)
    obtain ⟨h4, h5, h6⟩ := sp_step h3 hx
    have hg := getD_of hx
    by_cases hx0 : x = 0
    · rw [prevF_zero (by rw [hg]; exact hx0)]
      rw [if_neg (by simp [hx0])] at h6
      exact ⟨h1, h2, h6⟩
    · rw [prevF_known (by rw [hg]; exact hx0), hg]
      rw [if_pos hx0] at h6
      exact ⟨h4.1, h4.2, h6⟩
theorem sp_next {l : List Int} {k : Nat} : ∀ (d i : Nat) (last : Int), i + d = k → spErrL (l.drop i) last = 0 → (∀ t, i ≤ t → t < k → l.getD t 0 = 0) → ∀ b, l[k]? = some b → b ≠ 0 → last < b ∧ b ≤ 360000
  | 0, i, last, hik, h, _, b, hb, hb0 => by
    obtain rfl : i = k := by omega
    obtain ⟨h1, h2, _⟩ := sp_step h hb
    exact ⟨h2 hb0, h1.2⟩
  | d + 1, i, last, hik, h, hz, b, hb, hb0 => by
    have hlt : k < l.length := (List.getElem?_eq_some_iff.mp hb).1
    obtain ⟨x, hx⟩ := at_of_lt (l := l) (k := i) (by omega)
    have hx0 : x = 0 := by rw [← getD_of hx]; exact hz i (by omega) (by omega)
    obtain ⟨_, _, h6⟩ := sp_step h hx
    rw [if_neg (by simp [hx0])] at h6
    exact sp_next d (i + 1) last (by omega) h6 (fun t h1 h2 => hz t (by omega) h2) b hb hb0

theorem fill_seg {l : List Int} (hs : spErrL l 0 = 0) (hl : l.getLastD 0 ≠ 0) {i : Nat} (hi : i < l.length) : ∃ (m k : Nat) (a b : Int), m ≤ i ∧ i ≤ k ∧ k < l.length ∧ prevF l m = ((m : Int) - 1, a) ∧ l.getD k 0 = b ∧ b ≠ 0 ∧ (∀ t, m ≤ t → t < k → l.getD t 0 = 0) ∧ 0 ≤ a ∧ a < b ∧ b ≤ 360000 := by
  obtain ⟨m, a, h1, h2, h3, h4⟩ := prevF_at l i
  obtain ⟨k, h5, h6, h7, h8⟩ := next_known hl (l.length - i) i (by omega) hi
  obtain ⟨h9, _, h10⟩ := prevF_sp hs i (by omega)
  obtain ⟨b, hb⟩ := at_of_lt (l := l) (k := k) h6
  have hbd := getD_of hb
  rw [h3] at h9 h10
  obtain ⟨h11, h12⟩ := sp_next (k - i) i a (by omega) h10 h8 b hb (by rw [← hbd]; exact h7)
  refine ⟨m, k, a, b, h1, h5, h6, h2, hbd, by rw [← hbd]; exact h7, fun t ht ht2 => ?_, h9, h11, h12⟩
  by_cases e : t < i
  · exact h4 t ht e
  · exact h8 t (by omega) ht2
theorem frac_bd {D i q : Int} (hD : 0 ≤ D) (hi : 0 ≤ i) (hiq : i ≤ q) (hq : 0 < q) : 0 ≤ D * i / q ∧ D * i / q ≤ D :=
  ⟨Int.ediv_nonneg (Int.mul_nonneg hD hi) (by omega), Int.ediv_le_of_le_mul hq (Int.mul_le_mul_of_nonneg_left hiq hD)⟩
theorem frac_mono {D i j q : Int} (hD : 0 ≤ D) (hij : i ≤ j) (hq : 0 < q) : D * i / q ≤ D * j / q :=
  Int.ediv_le_ediv hq (Int.mul_le_mul_of_nonneg_left hij hD)
theorem fill_bd {l : List Int} (hs : spErrL l 0 = 0) (hl : l.getLastD 0 ≠ 0) {i : Nat} (hi : i < l.length) : (prevF l i).2 ≤ fillAt l i ∧ 0 ≤ fillAt l i ∧ fillAt l i ≤ 360000 := by
  obtain ⟨m, k, a, b, h1, h2, h3, h4, h5, h6, h7, h8, h9, h10⟩ := fill_seg hs hl hi
  have e := fillAt_eq h4 h1 h2 h5 h6 h7
  have hp : prevF l i = ((m : Int) - 1, a) := by
    rw [← h4, show i = m + (i - m) from by omega]
    exact prevF_const _ (fun t h1 h2 => h7 t h1 (by omega))
  have := frac_bd (D := b - a) (i := i - ((m : Int) - 1)) (q := k - ((m : Int) - 1)) (by omega) (by omega) (by omega) (by omega)
  rw [e, hp]
  dsimp only
  omega
theorem fill_mono {l : List Int} (hs : spErrL l 0 = 0) (hl : l.getLastD 0 ≠ 0) {i : Nat} (hi : i + 1 < l.length) : fillAt l i ≤ fillAt l (i + 1) := by
  obtain ⟨m, k, a, b, h1, h2, h3, h4, h5, h6, h7, h8, h9, h10⟩ := fill_seg hs hl (i := i) (by omega)
  by_cases hk : k = i
  · subst hk
    rw [fillAt_known h4 h1 h5 h6 h7]
    have := (fill_bd hs hl hi).1
    rw [prevF_known (by rw [h5]; exact h6), h5] at this
    exact this
  · rw [fillAt_eq h4 h1 h2 h5 h6 h7, fillAt_eq h4 (i := i + 1) (by omega) (by omega) h5 h6 h7]
    have := frac_mono (D := b - a) (i := i - ((m : Int) - 1)) (j := (i + 1 : Nat) - ((m : Int) - 1)) (q := k - ((m : Int) - 1)) (by omega) (by omega) (by omega)
    omega
theorem fillL_len (l : List Int) : (fillL l).length = l.length := by unfold fillL listOf; simp
theorem fillL_at {l : List Int} {i : Nat} (hi : i < l.length) : (fillL l)[i]? = some (fillAt l i) := by
  unfold fillL listOf; simp [hi]
theorem fillL_getD {l : List Int} {i : Nat} (hi : i < l.length) : (fillL l).getD i 0 = fillAt l i := getD_of (fillL_at hi)
end Go.Proofs.YtamcmehmcbjgjaaGreatDoor

/- timing.Legs and the reference's LegsOf. -/
namespace Go.Proofs.YtamcmehmcbjgjaaGreatDoor
open Go.RowKit
set_option linter.unusedVariables false

def legsF (l : List Int) (e : Nat) : Nat → Nat → Int → Option (List Int)
  | 0, _, _ => some []
  | m + 1, k, last => if l.getD k 0 = 0 then none else (legsF l e m (k + e) (l.getD k 0)).map (fun r => (l.getD k 0 - last) :: r)
def legsR (r : Race) (l : List Int) : Option (List Int) := legsF l (r.metres / r.course).toNat r.legs.toNat ((r.metres / r.course).toNat - 1) 0
def legL (o : Option (List Int)) : List Int := o.getD []
def legE (o : Option (List Int)) : Int := if o = none then 8 else 0
theorem R1.cell {α : Type} {enc : α → Value} {e : TypeId} {w : World} {b off n : Nat} {l : List α} {k : Nat} {x : α} (h : R1 enc e w (some ⟨b, off, none⟩) n l) (hx : l[k]? = some x) : w.cell? ⟨b, off + k, none⟩ = some (enc x) := by
  have hk : k < n := by rw [← h.len]; exact (List.getElem?_eq_some_iff.mp hx).1
  obtain ⟨b', off', x', e, _, hx', hc⟩ := h.at_ hk
  injection e with e; injection e with e1 e2
  subst e1 e2
  rw [hx] at hx'
  obtain rfl := Option.some.inj hx'
  exact hc
theorem legsF_zero {l : List Int} {e m k : Nat} {last x : Int} (h : l[k]? = some x) (hx : x = 0) : legsF l e (m + 1) k last = none := by
  rw [legsF, getD_of h, if_pos hx]
theorem legsF_step {l : List Int} {e m k : Nat} {last x : Int} (h : l[k]? = some x) (hx : x ≠ 0) : legsF l e (m + 1) k last = (legsF l e m (k + e) x).map (fun r => (x - last) :: r) := by
  rw [legsF, getD_of h, if_neg hx]
theorem map_app (o : Option (List Int)) (acc : List Int) (x : Int) : (o.map (fun r => x :: r)).map (fun r => acc ++ r) = o.map (fun r => (acc ++ [x]) ++ r) := by
  cases o with
  | none => rfl
  | some r => simp
theorem len_eq {r : Race} {l : List Int} (h : checkSp r l = 0) : ∃ e g : Nat, r.metres / r.course = (e : Int) ∧ r.legs = (g : Int) ∧ 1 ≤ e ∧ e ≤ 60 ∧ 1 ≤ g ∧ g ≤ 4 ∧ l.length = e * g ∧ legsR r l = legsF l e g (e - 1) 0 := by
  obtain ⟨h0, h1⟩ := checkSp_ok h
  obtain ⟨h2, _, _⟩ := splitsErr_ok h1
  obtain ⟨_, _, _, _, _, hc, hl1, hl2, h3, h4, _, _, _, h5⟩ := raceErr_ok h0
  have hm : 1 ≤ r.metres / r.course ∧ r.metres / r.course ≤ 60 := by rcases hc with hc | hc <;> rw [hc] at h5 ⊢ <;> omega
  refine ⟨(r.metres / r.course).toNat, r.legs.toNat, by omega, by omega, by omega, by omega, by omega, by omega, ?_, rfl⟩
  unfold lenV at h2
  have e1 : r.metres / r.course = ((r.metres / r.course).toNat : Int) := by omega
  have e2 : r.legs = (r.legs.toNat : Int) := by omega
  rw [e1, e2] at h2
  exact_mod_cast h2
theorem leg_at {e g j : Nat} (he : 1 ≤ e) (hj : j < g) : e - 1 + e * j < e * g := by
  have : e * (j + 1) ≤ e * g := Nat.mul_le_mul_left e hj
  rw [Nat.mul_add] at this
  omega
theorem leg_end {e g : Nat} (he : 1 ≤ e) : ¬ e - 1 + e * g < e * g := by omega

theorem retLE_leg {B w' : World} {A : Option Addr} {n c : Nat} {L : List Int} {o : Option (List Int)} (hr : RI 3 w' A n L) (hb : Below B.heap.size B w') (h : o = some L) : RetLE B (legL o) (legE o) (.returned (.tuple #[.slice A n c, .int .i64 0])) w' := by
  subst h; exact ⟨A, n, c, rfl, hr, hb⟩
theorem retLE_noleg {B w' : World} {o : Option (List Int)} (hb : Below B.heap.size B w') (h : o = none) : RetLE B (legL o) (legE o) (.returned (.tuple #[.slice none 0 0, .int .i64 8])) w' := by
  subst h; exact ⟨none, 0, 0, rfl, R1.nil_ _ _ _ _, hb⟩

end Go.Proofs.YtamcmehmcbjgjaaGreatDoor

/- timing.Fill. -/
namespace Go.Proofs.YtamcmehmcbjgjaaGreatDoor
open Go.RowKit
set_option linter.unusedVariables false

theorem own_cellI {w : World} {base b n c : Nat} {L : List Int} (h : w.ownsRow base 3 1 (.slice (some ⟨b, 0, none⟩) n c) n (ints L)) {j : Nat} (hj : j < n) : ∃ u : Int, w.cell? ⟨b, j, none⟩ = some (.int .i64 u) := by
  have hl := h.1
  rw [ints_len, Nat.mul_one] at hl
  obtain ⟨u, hu⟩ := at_of_lt (l := L) (k := j) (by omega)
  exact ⟨u, by rw [h.cellAt j (by omega), ints_at, hu]; rfl⟩
theorem own_setI {w : World} {base b n c : Nat} {L : List Int} (h : w.ownsRow base 3 1 (.slice (some ⟨b, 0, none⟩) n c) n (ints L)) (j : Nat) (x : Int) : (w.setCell ⟨b, j, none⟩ (.int .i64 x)).ownsRow base 3 1 (.slice (some ⟨b, 0, none⟩) n c) n (ints (L.set j x)) := by
  have := (h.stored j (.int .i64 x)).1
  rwa [ints_set] at this

end Go.Proofs.YtamcmehmcbjgjaaGreatDoor
