/- Plain lemmas: a list that is filled in order; bounds of right splits. -/
import Derived.Test.YtjfppcejcbfngaaDoorSplitF
namespace Go.Proofs.YtjfppcejcbfngaaDoor
open Go.RowKit
set_option linter.unusedVariables false

def fillK (f : Nat → Int) (n k : Nat) : List Int := (List.range n).map fun i => if i < k then f i else 0
def listOf (f : Nat → Int) (n : Nat) : List Int := (List.range n).map f
theorem fillK_len (f : Nat → Int) (n k : Nat) : (fillK f n k).length = n := by simp [fillK]
theorem fillK_zero (f : Nat → Int) (n : Nat) : fillK f n 0 = List.replicate n 0 := by
  apply List.ext_getElem?; intro i
  by_cases h : i < n <;> simp [fillK, h]
theorem fillK_full (f : Nat → Int) (n : Nat) : fillK f n n = listOf f n := by
  apply List.ext_getElem?; intro i
  by_cases h : i < n <;> simp [fillK, listOf, h]
theorem fillK_set (f : Nat → Int) (n k : Nat) : (fillK f n k).set k (f k) = fillK f n (k + 1) := by
  apply List.ext_getElem?; intro i
  rw [List.getElem?_set]
  by_cases hi : i < n
  · by_cases hk : k = i
    · subst hk; simp [fillK, hi]
    · simp only [hk, if_false]
      simp only [fillK, List.getElem?_map, List.getElem?_range hi, Option.map_some]
      congr 1
      by_cases h : i < k
      · rw [if_pos h, if_pos (by omega)]
      · rw [if_neg h, if_neg (by omega)]
  · by_cases hk : k = i
    · subst hk; simp [fillK, hi]
    · simp [fillK, hi, hk]
theorem fillK_skip (f : Nat → Int) (n k : Nat) (h : f k = 0) : fillK f n k = fillK f n (k + 1) := by
  apply List.ext_getElem?; intro i
  by_cases hi : i < n
  · simp only [fillK, List.getElem?_map, List.getElem?_range hi, Option.map_some]
    congr 1
    by_cases hk : i = k
    · subst hk; rw [if_neg (by omega), if_pos (by omega), h]
    · by_cases h2 : i < k
      · rw [if_pos h2, if_pos (by omega)]
      · rw [if_neg h2, if_neg (by omega)]
  · simp [fillK, hi]
theorem ints_set (l : List Int) (k : Nat) (x : Int) : (ints l).set k (.int .i64 x) = ints (l.set k x) := by
  unfold ints; rw [List.map_set]
theorem ints_repl (n : Nat) (x : Int) : ints (List.replicate n x) = List.replicate n (.int .i64 x) := by unfold ints; simp

theorem spErrL_bd {l : List Int} : ∀ {last : Int}, spErrL l last = 0 → ∀ x ∈ l, 0 ≤ x ∧ x ≤ 360000 := by
  induction l with
  | nil => intro _ _ x hx; cases hx
  | cons a t ih =>
    intro last h x hx
    unfold spErrL at h
    split at h
    · cases h
    · rename_i h1
      split at h
      · cases h
      · rcases List.mem_cons.1 hx with rfl | hx
        · exact Decidable.not_not.1 h1
        · exact ih h x hx
theorem checkSp_ok {r : Race} {l : List Int} (h : checkSp r l = 0) : raceErr r = 0 ∧ splitsErr r l = 0 := by
  unfold checkSp at h
  split at h
  · omega
  · exact ⟨by omega, h⟩
theorem splitsErr_ok {r : Race} {l : List Int} (h : splitsErr r l = 0) : (l.length : Int) = lenV r ∧ spErrL l 0 = 0 ∧ l.getLastD 0 ≠ 0 := by
  unfold splitsErr at h
  split at h
  · cases h
  · rename_i h1
    split at h
    · omega
    · split at h
      · cases h
      · exact ⟨by omega, by omega, by assumption⟩
theorem checkSp_of {r : Race} {l : List Int} (h0 : raceErr r = 0) (h1 : splitsErr r l = 0) : checkSp r l = 0 := by unfold checkSp; rw [if_neg (by simpa using h0)]; exact h1
theorem splits_bd {r : Race} {l : List Int} (h : checkSp r l = 0) : 1 ≤ l.length ∧ l.length ≤ 240 ∧ ∀ x ∈ l, 0 ≤ x ∧ x ≤ 360000 := by
  obtain ⟨h0, h1⟩ := checkSp_ok h
  obtain ⟨h2, h3, _⟩ := splitsErr_ok h1
  have := lenV_bd h0
  exact ⟨by omega, by omega, spErrL_bd h3⟩
theorem getD_of {l : List Int} {k : Nat} {x : Int} (h : l[k]? = some x) : l.getD k 0 = x := by rw [List.getD_eq_getElem?_getD, h]; rfl
theorem mem_of_at {l : List Int} {k : Nat} {x : Int} (h : l[k]? = some x) : x ∈ l := List.mem_of_getElem? h
end Go.Proofs.YtjfppcejcbfngaaDoor
