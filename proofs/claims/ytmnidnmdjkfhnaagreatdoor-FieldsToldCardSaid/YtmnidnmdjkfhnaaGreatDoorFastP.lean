/- fastest: swim by swim, in a row of its own. -/
import Derived.Test.YtmnidnmdjkfhnaaGreatDoorBestR
import Derived.Test.YtmnidnmdjkfhnaaGreatDoorRows2
import Derived.Test.YtmnidnmdjkfhnaaGreatDoorFrac
import Derived.Test.YtmnidnmdjkfhnaaGreatDoorLikes
import Derived.Test.YtmnidnmdjkfhnaaGreatDoorTrnM
import Derived.BigGuardPart
namespace Go.Proofs.YtmnidnmdjkfhnaaGreatDoor
open Go.RowKit
set_option linter.unusedVariables false

theorem colG_length (j : Nat) (l : List Sw) : ∀ g, (colG j g l).length = g.length := by
  induction l with
  | nil => intro g; rfl
  | cons x r ih => intro g; rw [colG, ih]; unfold stepG; split <;> rfl
theorem getD_le {l : List Int} (h : ∀ x ∈ l, 0 ≤ x ∧ x ≤ 360000) (j : Nat) : 0 ≤ l.getD j 0 ∧ l.getD j 0 ≤ 360000 := by
  by_cases hj : j < l.length
  · rw [List.getD_eq_getElem?_getD, List.getElem?_eq_getElem hj]; exact h _ (List.getElem_mem hj)
  · rw [List.getD_eq_getElem?_getD, List.getElem?_eq_none (by omega)]; exact ⟨Int.le_refl _, by decide⟩
theorem lap_le {l : List Int} (h : ∀ x ∈ l, 0 ≤ x ∧ x ≤ 360000) (j : Nat) : (lapsL l).getD j 0 ≤ 360000 := by
  by_cases hj : j < (lapsL l).length
  · have h0 : (lapsL l).getD j 0 = lapAt l j := by
      rw [lapsL_len] at hj
      rw [List.getD_eq_getElem?_getD]; unfold lapsL listOf; rw [List.getElem?_map, List.getElem?_range hj]; rfl
    have h1 := getD_le h j
    have h2 := getD_le h (j - 1)
    rw [h0]; unfold lapAt
    repeat' split
    all_goals omega
  · rw [List.getD_eq_getElem?_getD, List.getElem?_eq_none (by omega)]; decide
theorem gp_set : ∀ (l : List Gp) (k : Nat) (a : ByteArray) (b c : Int) (t : Gp), l[k]? = some t →
    (((l.flatMap gpE).set (k * 3) (.string a)).set (k * 3 + 1) (.int .i64 b)).set (k * 3 + 2) (.int .i64 c) = (l.set k ⟨a, b, c⟩).flatMap gpE
  | [], _, _, _, _, _, h => by simp at h
  | x :: l, 0, a, b, c, t, h => by
    obtain rfl : x = t := by simpa using h
    simp [gpE]
  | x :: l, k + 1, a, b, c, t, h => by
    have ih := gp_set l k a b c t (by simpa using h)
    have e : ∀ (m : List Value) (i : Nat) (v : Value), (gpE x ++ m).set ((k + 1) * 3 + i) v = gpE x ++ m.set (k * 3 + i) v := fun m i v => by
      rw [List.set_append_right _ _ (by show 3 ≤ _; omega)]
      congr 2
      show (k + 1) * 3 + i - 3 = _; omega
    rw [List.set_cons_succ, List.flatMap_cons, List.flatMap_cons, ← ih]
    have e0 := e (l.flatMap gpE) 0 (.string a)
    simp only [Nat.add_zero] at e0
    rw [e0, e, e]
theorem own_setG {w : World} {base b n c : Nat} {L : List Gp} (h : w.ownsRow base 51 3 (.slice (some ⟨b, 0, none⟩) n c) n (L.flatMap gpE)) {k : Nat} {t : Gp} (hk : L[k]? = some t) (a : ByteArray) (x y : Int) :
    (((w.setCell ⟨b, k * 3, none⟩ (.string a)).setCell ⟨b, k * 3 + 1, none⟩ (.int .i64 x)).setCell ⟨b, k * 3 + 2, none⟩ (.int .i64 y)).ownsRow base 51 3 (.slice (some ⟨b, 0, none⟩) n c) n ((L.set k ⟨a, x, y⟩).flatMap gpE) ∧ w.grownBy (((w.setCell ⟨b, k * 3, none⟩ (.string a)).setCell ⟨b, k * 3 + 1, none⟩ (.int .i64 x)).setCell ⟨b, k * 3 + 2, none⟩ (.int .i64 y)) (some b) := by
  have h1 := h.stored (k * 3) (.string a)
  have h2 := h1.1.stored (k * 3 + 1) (.int .i64 x)
  have h3 := h2.1.stored (k * 3 + 2) (.int .i64 y)
  rw [gp_set L k a x y t hk] at h3
  exact ⟨h3.1, grown_trans h1.2 (grown_trans h2.2 h3.2)⟩
/-- the program's row after j swims -/
def rowF (m : Nat) (l : List Sw) (j : Nat) : List Gp := if j = 0 then [] else bestL m (l.take j)
def rowN (m j : Nat) : Nat := if j = 0 then 0 else m

end Go.Proofs.YtmnidnmdjkfhnaaGreatDoor
