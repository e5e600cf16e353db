import Derived.Test.YtamcmehmcbjgjaaGreatDoorBestR
import Derived.Test.YtamcmehmcbjgjaaGreatDoorRows2
import Derived.Test.YtamcmehmcbjgjaaGreatDoorTurns
import Derived.Test.YtamcmehmcbjgjaaGreatDoorTrnM
import Derived.BigGuardPart
import Derived.Test.YtamcmehmcbjgjaaGreatDoorFill
/- fastest: swim by swim, in a row of its own. -/
namespace Go.Proofs.YtamcmehmcbjgjaaGreatDoor
open Go.RowKit
set_option linter.unusedVariables false

theorem colG_length (j : Nat) (l : List Sw) : ∀ g, (colG j g l).length = g.length := by
  induction l with
  | nil => intro g; rfl
  | cons x r ih => intro g; rw [colG, ih]; unfold stepG; split <;> rfl
theorem getD_le {l : List Int} (h : ∀ x ∈ l, 0 ≤ x ∧ x ≤ 360000) (j : Nat) : 0 ≤ l.getD j 0 ∧ l.getD j 0 ≤ 360000 := by
  by_cases hj : j < l.length
  · rw [List.getD_eq_getElem?_getD, List.getElem?_eq_getElem hj]; exact h _ (List.getElem_mem hj)
  · rw [List.getD_eq_getElem?_getD, List.getElem?_eq_none (by omega)]; exact ⟨Int.le_refl _, by decide⟩
theorem lap_le {l : List Int} (h : ∀ x ∈ l, 0 ≤ x ∧ x ≤ 360000) (j : Nat) : (lapsL l).getD j 0 ≤ 360000 := by
  by_cases hj : j < (lapsL l).length
  · have h0 : (lapsL l).getD j 0 = lapAt l j := by
      rw [lapsL_len] at hj
      rw [List.getD_eq_getElem?_getD]; unfold lapsL listOf; rw [List.getElem?_map, List.getElem?_range hj]; rfl
    have h1 := getD_le h j
    have h2 := getD_le h (j - 1)
    rw [h0]; unfold lapAt
    repeat' split
    all_goals omega
  · rw [List.getD_eq_getElem?_getD, List.getElem?_eq_none (by omega)]; decide
theorem gp_set : ∀ (l : List Gp) (k : Nat) (a : ByteArray) (b c : Int) (t : Gp), l[k]? = some t →
    (((l.flatMap gpE).set (k * 3) (.string a)).set (k * 3 + 1) (.int .i64 b)).set (k * 3 + 2) (.int .i64 c) = (l.set k ⟨a, b, c⟩).flatMap gpE
  | [], _, _, _, _, _, h => by simp at h
  | x :: l, 0, a, b, c, t, h => by
    obtain rfl : x = t := by simpa using h
    simp [gpE]
  | x :: l, k + 1, a, b, c, t, h => by
    have ih := gp_set l k a b c t (by simpa using h)
    have e : ∀ (m : List Value) (i : Nat) (v : Value), (gpE x ++ m).set ((k + 1) * 3 + i) v = gpE x ++ m.set (k * 3 + i) v := fun m i v => by
      rw [List.set_append_right _ _ (by show 3 ≤ _; omega)]
      congr 2
      show (k + 1) * 3 + i - 3 = _; omega
    rw [List.set_cons_succ, List.flatMap_cons, List.flatMap_cons, ← ih]
    have e0 := e (l.flatMap gpE) 0 (.string a)
    simp only [Nat.add_zero] at e0
    rw [e0, e, e]
/-- the program's row after j swims -/
def rowF (m : Nat) (l : List Sw) (j : Nat) : List Gp := if j = 0 then [] else bestL m (l.take j)
def rowN (m j : Nat) : Nat := if j = 0 then 0 else m

end Go.Proofs.YtamcmehmcbjgjaaGreatDoor

/- checkSome: the field's fault, or an empty field's. -/
namespace Go.Proofs.YtamcmehmcbjgjaaGreatDoor
open Go.RowKit
set_option linter.unusedVariables false

def someErr (r : Race) (l : List Sw) : Int := if fieldErr r l ≠ 0 then fieldErr r l else if l.length = 0 then 8 else 0
theorem some_way {r : Race} {l : List Sw} : orV [fieldErr r l, noneErr (decide (l.length = 0))] = someErr r l := by
  rw [orV_two]; unfold someErr noneErr; by_cases h : l.length = 0 <;> simp [h]
end Go.Proofs.YtamcmehmcbjgjaaGreatDoor

/- race.Fastest and race.Ideal, errors and answers in one; what the reference's BestLaps is of a right field. -/
namespace Go.Proofs.YtamcmehmcbjgjaaGreatDoor
open Go.RowKit
set_option linter.unusedVariables false

theorem some_ok {r : Race} {l : List Sw} (h : someErr r l = 0) : fieldErr r l = 0 ∧ 1 ≤ l.length := by
  unfold someErr at h
  split at h
  · rename_i h1; exact absurd h h1
  · split at h
    · cases h
    · exact ⟨by omega, by omega⟩
def fastN (r : Race) (l : List Sw) : Nat := if someErr r l = 0 then (lenV r).toNat else 0
def fastL (r : Race) (l : List Sw) : List Gp := if someErr r l = 0 then bestL (lenV r).toNat l else []
def idealV (r : Race) (l : List Sw) : Int := sumG (fastL r l)
theorem colG_bd (j : Nat) (l : List Sw) (h : ∀ x ∈ l, ∀ y ∈ x.sp, 0 ≤ y ∧ y ≤ 360000) : ∀ g : Gp, (-360000 ≤ g.behind ∧ g.behind ≤ 360001) → -360000 ≤ (colG j g l).behind ∧ (colG j g l).behind ≤ 360001 := by
  induction l with
  | nil => intro g hg; exact hg
  | cons x r ih =>
    intro g hg
    refine ih (fun y hy => h y (by simp [hy])) _ ?_
    unfold stepG
    split
    · rename_i hlt
      refine ⟨?_, by dsimp only; omega⟩
      have hb := h x (by simp)
      show -360000 ≤ (lapsL x.sp).getD j 0
      by_cases hj : j < x.sp.length
      · have h0 : (lapsL x.sp).getD j 0 = lapAt x.sp j := by
          rw [List.getD_eq_getElem?_getD]; unfold lapsL listOf; rw [List.getElem?_map, List.getElem?_range hj]; rfl
        have h1 := getD_le hb j
        have h2 := getD_le hb (j - 1)
        rw [h0]; unfold lapAt
        repeat' split
        all_goals omega
      · rw [List.getD_eq_getElem?_getD, List.getElem?_eq_none (by rw [lapsL_len]; omega)]; decide
    · exact hg
theorem bestL_bd {m : Nat} {l : List Sw} (h : ∀ x ∈ l, ∀ y ∈ x.sp, 0 ≤ y ∧ y ≤ 360000) : ∀ g ∈ bestL m l, -360000 ≤ g.behind ∧ g.behind ≤ 360001 := by
  intro g hg
  unfold bestL at hg
  obtain ⟨j, _, rfl⟩ := List.mem_map.1 hg
  exact colG_bd j l h _ (by unfold zeroG; dsimp only; omega)
theorem sumG_take {l : List Gp} {k : Nat} {x : Gp} (h : l[k]? = some x) : sumG (l.take (k + 1)) = sumG (l.take k) + x.behind := by
  have happ : ∀ a b : List Gp, sumG (a ++ b) = sumG a + sumG b := by
    intro a b
    induction a with
    | nil => simp [sumG]
    | cons x r ih => simp only [List.cons_append, sumG, ih]; omega
  rw [List.take_add_one, h, happ]; simp [sumG]
theorem sumG_bd {l : List Gp} (h : ∀ g ∈ l, -360000 ≤ g.behind ∧ g.behind ≤ 360001) : -(l.length * 360001) ≤ sumG l ∧ sumG l ≤ l.length * 360001 := by
  induction l with
  | nil => simp [sumG]
  | cons x r ih =>
    have h1 := ih (fun y hy => h y (by simp [hy]))
    have h2 := h x (by simp)
    simp only [sumG, List.length_cons]
    omega
/-- what a right field is -/
theorem some_field {r : Race} {A : Option Addr} {n : Nat} {l : List Sw} {w : World} (h : RSw w A n l) (h0 : someErr r l = 0) : 1 ≤ n ∧ n ≤ 20 ∧ 1 ≤ (lenV r).toNat ∧ (lenV r).toNat ≤ 240 ∧ (∀ x ∈ l, x.n = (lenV r).toNat) ∧ (∀ x ∈ l, checkSp r x.sp = 0) ∧ (∀ x ∈ l, ∀ y ∈ x.sp, 0 ≤ y ∧ y ≤ 360000) := by
  obtain ⟨h1, h2⟩ := some_ok h0
  obtain ⟨hr, hl, hx⟩ := fieldErr_ok h1
  have hb := lenV_bd hr
  have hlen := h.len
  refine ⟨by omega, by omega, by omega, by omega, fun x hm => ?_, fun x hm => (wholeErr_ok (hx x hm)).1, fun x hm => (splits_bd (wholeErr_ok (hx x hm)).1).2.2⟩
  have h3 := whole_len (hx x hm)
  have h4 := (h.2 x hm).len
  omega
end Go.Proofs.YtamcmehmcbjgjaaGreatDoor
