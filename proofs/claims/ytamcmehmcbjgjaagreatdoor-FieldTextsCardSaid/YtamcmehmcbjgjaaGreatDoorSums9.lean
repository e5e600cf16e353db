import Derived.Test.YtamcmehmcbjgjaaGreatDoorLens
import Derived.Test.YtamcmehmcbjgjaaGreatDoorPlainR
import Derived.Test.YtamcmehmcbjgjaaGreatDoorDraws
import Derived.Test.YtamcmehmcbjgjaaGreatDoorTurns
import Derived.Test.YtamcmehmcbjgjaaGreatDoorSplits2
import Derived.Test.YtamcmehmcbjgjaaGreatDoorLegsP
/- The stream's plain race is right. -/
namespace Go.Proofs.YtamcmehmcbjgjaaGreatDoor
open Go.RowKit
set_option linter.unusedVariables false

end Go.Proofs.YtamcmehmcbjgjaaGreatDoor

/- Plain laws of the splits that the stream makes of a plain race: they are right, and all known. -/
namespace Go.Proofs.YtamcmehmcbjgjaaGreatDoor
open Go.RowKit
set_option linter.unusedVariables false

theorem ks_sp {zs : Zs} : ∀ (m k : Nat) (t : Int), 0 ≤ t → t + 1699 * m ≤ 360000 → spErrL (ksL zs m k t) t = 0
  | 0, _, _, _, _ => rfl
  | m + 1, k, t, h0, h1 => by
    have st := ks_step zs k
    unfold ksL spErrL
    rw [if_neg (by omega), if_neg (by omega), if_pos (by omega)]
    exact ks_sp m _ _ (by omega) (by omega)
theorem ks_rise {zs : Zs} : ∀ (m k : Nat) (t : Int), risingF (ksL zs m k t) t = true
  | 0, _, _ => rfl
  | m + 1, k, t => by
    have st := ks_step zs k
    unfold ksL
    show (if _ then false else risingF _ _) = true
    rw [if_neg (by omega)]
    exact ks_rise m _ _
theorem ks_length {zs : Zs} : ∀ (m k : Nat) (t : Int), (ksL zs m k t).length = m
  | 0, _, _ => rfl
  | m + 1, k, t => by unfold ksL; rw [List.length_cons, ks_length m]
theorem rise_has {l : List Int} (h : risingF l 0 = true) : hasB l 0 = false := by
  unfold hasB
  rw [← Bool.not_eq_true, List.contains_iff_mem]
  intro hm
  obtain ⟨j, hj⟩ := List.mem_iff_getElem?.mp hm
  have := rise_gt h hj
  omega
theorem rise_last {l : List Int} (h : risingF l 0 = true) (hn : 1 ≤ l.length) : 0 < l.getLastD 0 := rise_gt h (last_at rfl hn)
theorem whole_of {r : Race} {l : List Int} (h0 : raceErr r = 0) (h1 : (l.length : Int) = lenV r) (h2 : spErrL l 0 = 0) (h3 : risingF l 0 = true) : wholeErr r l = 0 := by
  have hb := lenV_bd h0
  have hl := rise_last h3 (by omega)
  have hs : splitsErr r l = 0 := by unfold splitsErr; rw [if_neg (by omega), if_neg (by omega), if_neg (by omega)]
  unfold wholeErr knownErr
  rw [if_neg (by omega), if_neg (by omega), rise_has h3]
  rfl
theorem ks_whole (zs : Zs) (k k' : Nat) : wholeErr (plainRace zs k).1 (knownSplits zs k' (plainRace zs k).1) = 0 := by
  have hb := lenV_bd (plainRace_ok zs k)
  have hl := plain_len zs k
  refine whole_of (plainRace_ok zs k) ?_ ?_ ?_
  · unfold knownSplits; rw [ks_length]; omega
  · exact ks_sp _ _ _ (by omega) (by omega)
  · exact ks_rise _ _ _
end Go.Proofs.YtamcmehmcbjgjaaGreatDoor

/- Plain laws: laps and legs of splits that are all known. -/
namespace Go.Proofs.YtamcmehmcbjgjaaGreatDoor
open Go.RowKit
set_option linter.unusedVariables false

theorem laps_known {l : List Int} {j : Nat} {x : Int} (h : risingF l 0 = true) (hx : l[j]? = some x) : (lapsL l)[j]? = some (x - lastOf l j) := by
  have hlt := (List.getElem?_eq_some_iff.mp hx).1
  have e1 : (lapsL l)[j]? = some (lapAt l j) := by unfold lapsL listOf; simp [hlt]
  rw [e1]
  congr 1
  have hx0 := rise_gt h hx
  by_cases hj : j = 0
  · subst hj
    rw [lapAt_zero hx]; simp [lastOf]
  · obtain ⟨y, hy⟩ := at_of_lt (l := l) (k := j - 1) (by omega)
    have hy0 := rise_gt h hy
    rw [lapAt_succ (by omega) hx hy, if_pos ⟨by omega, by omega⟩]
    unfold lastOf
    rw [if_neg hj, getD_of hy]
/-- the end of the j-th leg; each has e lengths -/
def legP (l : List Int) (e j : Nat) : Int := if j = 0 then 0 else l.getD (e - 1 + e * (j - 1)) 0
def legG (l : List Int) (e : Nat) : Nat → Nat → List Int
  | 0, _ => []
  | m + 1, j => (legP l e (j + 1) - legP l e j) :: legG l e m (j + 1)
theorem legsF_known {l : List Int} {e : Nat} : ∀ (m j : Nat), (∀ i, i < j + m → l.getD (e - 1 + e * i) 0 ≠ 0) → legsF l e m (e - 1 + e * j) (legP l e j) = some (legG l e m j)
  | 0, _, _ => rfl
  | m + 1, j, h => by
    have h1 := h j (by omega)
    have e1 : legP l e (j + 1) = l.getD (e - 1 + e * j) 0 := by unfold legP; rw [if_neg (by omega), Nat.add_sub_cancel]
    unfold legsF legG
    rw [if_neg h1, show e - 1 + e * j + e = e - 1 + e * (j + 1) from by rw [Nat.mul_add]; omega, ← e1, legsF_known m (j + 1) (fun i hi => h i (by omega))]
    rfl
theorem legG_len {l : List Int} {e : Nat} : ∀ (m j : Nat), (legG l e m j).length = m
  | 0, _ => rfl
  | m + 1, j => by unfold legG; rw [List.length_cons, legG_len m]
theorem legG_at {l : List Int} {e : Nat} : ∀ (m j i : Nat), i < m → (legG l e m j)[i]? = some (legP l e (j + i + 1) - legP l e (j + i))
  | 0, _, _, h => absurd h (by omega)
  | m + 1, j, 0, _ => rfl
  | m + 1, j, i + 1, h => by
    unfold legG
    rw [List.getElem?_cons_succ, legG_at m (j + 1) i (by omega)]
    rw [show j + 1 + i = j + (i + 1) from by omega]
theorem rise_ne {l : List Int} (h : risingF l 0 = true) {i : Nat} (hi : i < l.length) : l.getD i 0 ≠ 0 := by
  obtain ⟨x, hx⟩ := at_of_lt (l := l) (k := i) hi
  have := rise_gt h hx
  rw [getD_of hx]; omega
theorem legs_known {r : Race} {l : List Int} (h : wholeErr r l = 0) : ∃ (e g : Nat), 1 ≤ e ∧ 1 ≤ g ∧ g ≤ 4 ∧ r.legs = (g : Int) ∧ l.length = e * g ∧ legsR r l = some (legG l e g 0) := by
  have hr := whole_rise h
  obtain ⟨hc, _⟩ := wholeErr_ok h
  obtain ⟨e, g, he, hg, he1, he2, hg1, hg2, hlen, hR⟩ := len_eq hc
  refine ⟨e, g, he1, hg1, hg2, hg, hlen, ?_⟩
  rw [hR]
  have := legsF_known (l := l) (e := e) g 0 (fun i hi => rise_ne hr (by rw [hlen]; exact leg_at he1 (by omega)))
  rw [Nat.mul_zero, Nat.add_zero] at this
  exact this
theorem legP_bd {l : List Int} {e g j : Nat} (hb : ∀ x ∈ l, 0 ≤ x ∧ x ≤ 360000) (he : 1 ≤ e) (hl : l.length = e * g) (hj : j ≤ g) : 0 ≤ legP l e j ∧ legP l e j ≤ 360000 := by
  unfold legP
  split
  · omega
  · obtain ⟨x, hx⟩ := at_of_lt (l := l) (k := e - 1 + e * (j - 1)) (by rw [hl]; exact leg_at he (by omega))
    rw [getD_of hx]
    exact hb x (mem_of_at hx)
theorem legP_end {l : List Int} {e g : Nat} (he : 1 ≤ e) (hg : 1 ≤ g) (hl : l.length = e * g) : legP l e g = l.getLastD 0 := by
  have hpos : 1 ≤ e * g := Nat.mul_pos he hg
  have h1 := last_at (l := l) rfl (by omega)
  unfold legP
  rw [if_neg (by omega)]
  have : e - 1 + e * (g - 1) = l.length - 1 := by
    rw [hl]
    obtain ⟨g', rfl⟩ : ∃ g', g = g' + 1 := ⟨g - 1, by omega⟩
    rw [Nat.add_sub_cancel, Nat.mul_add]
    omega
  rw [this, getD_of h1]
end Go.Proofs.YtamcmehmcbjgjaaGreatDoor
