import Derived.Test.YtklggnglaeagpaaGreatDoorQTurns
import Derived.Deep.RegionHeld3
import Derived.Deep.AppendLies
import Derived.Test.YtklggnglaeagpaaGreatDoorQSplits2
/- Plain lemmas: splits that are filled in. -/
namespace Go.Proofs.YtklggnglaeagpaaGreatDoor
open Go.RowKit
set_option linter.unusedVariables false

def mixK (f : Nat → Int) (l : List Int) (k : Nat) : List Int := (List.range l.length).map fun i => if i < k then f i else l.getD i 0
theorem mixK_zero (f : Nat → Int) (l : List Int) : mixK f l 0 = l := by
  apply List.ext_getElem?; intro i
  by_cases h : i < l.length <;> simp [mixK, h]
theorem mixK_full (f : Nat → Int) (l : List Int) : mixK f l l.length = listOf f l.length := by
  apply List.ext_getElem?; intro i
  by_cases h : i < l.length <;> simp [mixK, listOf, h]
theorem mixK_set (f : Nat → Int) (l : List Int) (k : Nat) : (mixK f l k).set k (f k) = mixK f l (k + 1) := by
  apply List.ext_getElem?; intro i
  rw [List.getElem?_set]
  by_cases hi : i < l.length
  · by_cases hk : k = i
    · subst hk; simp [mixK, hi]
    · simp only [hk, if_false]
      simp only [mixK, List.getElem?_map, List.getElem?_range hi, Option.map_some]
      congr 1
      by_cases h : i < k
      · rw [if_pos h, if_pos (by omega)]
      · rw [if_neg h, if_neg (by omega)]
  · by_cases hk : k = i
    · subst hk; simp [mixK, hi]
    · simp [mixK, hi, hk]
theorem mixK_skip (f : Nat → Int) (l : List Int) (k : Nat) (h : f k = l.getD k 0) : mixK f l k = mixK f l (k + 1) := by
  apply List.ext_getElem?; intro i
  by_cases hi : i < l.length
  · simp only [mixK, List.getElem?_map, List.getElem?_range hi, Option.map_some]
    congr 1
    by_cases hk : i = k
    · subst hk; rw [if_neg (by omega), if_pos (by omega), h]
    · by_cases h2 : i < k
      · rw [if_pos h2, if_pos (by omega)]
      · rw [if_neg h2, if_neg (by omega)]
  · simp [mixK, hi]

/-- the last one that is known before i: its number and its time -/
def prevF (l : List Int) : Nat → Int × Int
  | 0 => (-1, 0)
  | i + 1 => if l.getD i 0 = 0 then prevF l i else (i, l.getD i 0)
/-- the first one that is known from i on -/
def nextF (l : List Int) (i : Nat) : Nat := i + (l.drop i).findIdx (fun x => x != 0)
def fillAt (l : List Int) (i : Nat) : Int := (prevF l i).2 + (l.getD (nextF l i) 0 - (prevF l i).2) * (i - (prevF l i).1) / (nextF l i - (prevF l i).1)
def fillL (l : List Int) : List Int := listOf (fillAt l) l.length

theorem prevF_zero {l : List Int} {i : Nat} (h : l.getD i 0 = 0) : prevF l (i + 1) = prevF l i := by rw [prevF, if_pos h]
theorem prevF_known {l : List Int} {i : Nat} (h : l.getD i 0 ≠ 0) : prevF l (i + 1) = ((i : Int), l.getD i 0) := by rw [prevF, if_neg h]
theorem prevF_const {l : List Int} {i : Nat} : ∀ (d : Nat), (∀ t, i ≤ t → t < i + d → l.getD t 0 = 0) → prevF l (i + d) = prevF l i
  | 0, _ => rfl
  | d + 1, h => by
    rw [show i + (d + 1) = (i + d) + 1 from by omega, prevF_zero (h (i + d) (by omega) (by omega))]
    exact prevF_const d (fun t h1 h2 => h t h1 (by omega))
theorem nextF_eq {l : List Int} {i k : Nat} (hik : i ≤ k) (hk : l.getD k 0 ≠ 0) (hz : ∀ t, i ≤ t → t < k → l.getD t 0 = 0) : nextF l i = k := by
  unfold nextF
  have hkl : k < l.length := by
    rcases Nat.lt_or_ge k l.length with h | h
    · exact h
    · exfalso; apply hk; rw [List.getD_eq_getElem?_getD, List.getElem?_eq_none h]; rfl
  have : (l.drop i).findIdx (fun x => x != 0) = k - i := by
    rw [List.findIdx_eq (by rw [List.length_drop]; omega)]
    constructor
    · have e : (l.drop i)[k - i]'(by rw [List.length_drop]; omega) = l[k] := by rw [List.getElem_drop]; congr 1; omega
      rw [e]
      rw [List.getD_eq_getElem?_getD, List.getElem?_eq_getElem hkl] at hk
      simpa using hk
    · intro j hj
      have h1 := hz (i + j) (by omega) (by omega)
      rw [List.getElem_drop]
      rw [List.getD_eq_getElem?_getD, List.getElem?_eq_getElem (by omega)] at h1
      simpa using h1
  rw [this]; omega
/-- a value that is filled in -/
theorem fillAt_eq {l : List Int} {m i k : Nat} {a b : Int} (hm : prevF l m = ((m : Int) - 1, a)) (hmi : m ≤ i) (hik : i ≤ k) (hk : l.getD k 0 = b) (hb : b ≠ 0) (hz : ∀ t, m ≤ t → t < k → l.getD t 0 = 0) :
    fillAt l i = a + (b - a) * (i - ((m : Int) - 1)) / (k - ((m : Int) - 1)) := by
  have e1 : prevF l i = ((m : Int) - 1, a) := by
    rw [← hm, show i = m + (i - m) from by omega]
    exact prevF_const _ (fun t h1 h2 => hz t h1 (by omega))
  have e2 : nextF l i = k := nextF_eq hik (by rw [hk]; exact hb) (fun t h1 h2 => hz t (by omega) h2)
  unfold fillAt
  rw [e1, e2, hk]
theorem fillAt_known {l : List Int} {m k : Nat} {a b : Int} (hm : prevF l m = ((m : Int) - 1, a)) (hmk : m ≤ k) (hk : l.getD k 0 = b) (hb : b ≠ 0) (hz : ∀ t, m ≤ t → t < k → l.getD t 0 = 0) : fillAt l k = b := by
  rw [fillAt_eq hm hmk (Nat.le_refl _) hk hb hz, Int.mul_ediv_cancel _ (by omega)]
  omega
/-- the place where the last known one stands: one past it -/
theorem prevF_at (l : List Int) : ∀ i : Nat, ∃ (m : Nat) (a : Int), m ≤ i ∧ prevF l m = ((m : Int) - 1, a) ∧ prevF l i = ((m : Int) - 1, a) ∧ ∀ t, m ≤ t → t < i → l.getD t 0 = 0
  | 0 => ⟨0, 0, Nat.le_refl _, rfl, rfl, fun t _ h => absurd h (by omega)⟩
  | i + 1 => by
    by_cases h : l.getD i 0 = 0
    · obtain ⟨m, a, h1, h2, h3, h4⟩ := prevF_at l i
      refine ⟨m, a, by omega, h2, by rw [prevF_zero h, h3], fun t ht ht2 => ?_⟩
      by_cases e : t = i
      · rw [e]; exact h
      · exact h4 t ht (by omega)
    · exact ⟨i + 1, l.getD i 0, Nat.le_refl _, by rw [prevF_known h]; congr 1; omega, by rw [prevF_known h]; congr 1; omega, fun t h1 h2 => absurd h2 (by omega)⟩
theorem sp_step {l : List Int} {i : Nat} {x last : Int} (h : spErrL (l.drop i) last = 0) (hx : l[i]? = some x) : (0 ≤ x ∧ x ≤ 360000) ∧ (x ≠ 0 → last < x) ∧ spErrL (l.drop (i + 1)) (if x ≠ 0 then x else last) = 0 := by
  rw [drop_at hx, spErrL] at h
  split at h
  · cases h
  · rename_i h1
    split at h
    · cases h
    · rename_i h2
      exact ⟨by omega, fun hx0 => by rcases Int.lt_or_le last x with h3 | h3
                                     · exact h3
                                     · exact absurd ⟨hx0, h3⟩ h2, h⟩
theorem frac_bd {D i q : Int} (hD : 0 ≤ D) (hi : 0 ≤ i) (hiq : i ≤ q) (hq : 0 < q) : 0 ≤ D * i / q ∧ D * i / q ≤ D :=
  ⟨Int.ediv_nonneg (Int.mul_nonneg hD hi) (by omega), Int.ediv_le_of_le_mul hq (Int.mul_le_mul_of_nonneg_left hiq hD)⟩
theorem fillL_len (l : List Int) : (fillL l).length = l.length := by unfold fillL listOf; simp
theorem fillL_at {l : List Int} {i : Nat} (hi : i < l.length) : (fillL l)[i]? = some (fillAt l i) := by
  unfold fillL listOf; simp [hi]
end Go.Proofs.YtklggnglaeagpaaGreatDoor

/- timing.Legs and the reference's LegsOf. -/
namespace Go.Proofs.YtklggnglaeagpaaGreatDoor
open Go.RowKit
set_option linter.unusedVariables false

theorem R1.cell {α : Type} {enc : α → Value} {e : TypeId} {w : World} {b off n : Nat} {l : List α} {k : Nat} {x : α} (h : R1 enc e w (some ⟨b, off, none⟩) n l) (hx : l[k]? = some x) : w.cell? ⟨b, off + k, none⟩ = some (enc x) := by
  have hk : k < n := by rw [← h.len]; exact (List.getElem?_eq_some_iff.mp hx).1
  obtain ⟨b', off', x', e, _, hx', hc⟩ := h.at_ hk
  injection e with e; injection e with e1 e2
  subst e1 e2
  rw [hx] at hx'
  obtain rfl := Option.some.inj hx'
  exact hc
end Go.Proofs.YtklggnglaeagpaaGreatDoor

/- timing.Fill. -/
namespace Go.Proofs.YtklggnglaeagpaaGreatDoor
open Go.RowKit
set_option linter.unusedVariables false

theorem own_cellI {w : World} {base b n c : Nat} {L : List Int} (h : w.ownsRow base 3 1 (.slice (some ⟨b, 0, none⟩) n c) n (ints L)) {j : Nat} (hj : j < n) : ∃ u : Int, w.cell? ⟨b, j, none⟩ = some (.int .i64 u) := by
  have hl := h.1
  rw [ints_len, Nat.mul_one] at hl
  obtain ⟨u, hu⟩ := at_of_lt (l := L) (k := j) (by omega)
  exact ⟨u, by rw [h.cellAt j (by omega), ints_at, hu]; rfl⟩
theorem own_setI {w : World} {base b n c : Nat} {L : List Int} (h : w.ownsRow base 3 1 (.slice (some ⟨b, 0, none⟩) n c) n (ints L)) (j : Nat) (x : Int) : (w.setCell ⟨b, j, none⟩ (.int .i64 x)).ownsRow base 3 1 (.slice (some ⟨b, 0, none⟩) n c) n (ints (L.set j x)) := by
  have := (h.stored j (.int .i64 x)).1
  rwa [ints_set] at this

end Go.Proofs.YtklggnglaeagpaaGreatDoor
