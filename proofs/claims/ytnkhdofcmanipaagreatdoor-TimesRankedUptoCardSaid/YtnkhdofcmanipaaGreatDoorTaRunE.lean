/- A run of zero draws of one size ends: the loop of TimesRanked that cuts seeds into heats. -/
import Derived.Test.YtnkhdofcmanipaaGreatDoorTaStream
namespace Go.Proofs.YtnkhdofcmanipaaGreatDoor
open Go.RowKit
set_option linter.unusedVariables false

theorem p7919 {N : Int} (h2 : 2 ≤ N) (h20 : N ≤ 20) : ¬ N ∣ 7919 := by
  have h : N = 2 ∨ N = 3 ∨ N = 4 ∨ N = 5 ∨ N = 6 ∨ N = 7 ∨ N = 8 ∨ N = 9 ∨ N = 10 ∨ N = 11 ∨ N = 12 ∨ N = 13 ∨ N = 14 ∨ N = 15 ∨ N = 16 ∨ N = 17 ∨ N = 18 ∨ N = 19 ∨ N = 20 := by omega
  rcases h with rfl | rfl | rfl | rfl | rfl | rfl | rfl | rfl | rfl | rfl | rfl | rfl | rfl | rfl | rfl | rfl | rfl | rfl | rfl <;> decide
theorem next_dvd {zs : Zs} {k : Nat} {N : Int} (h1 : 1 ≤ N) (h : nextV zs k N = 0) : (∃ x, zs.l[k % zs.l.length]? = some x ∧ N ∣ belowV x 1073741824 + ((k : Int) / (zs.l.length : Int)) * (7919 + (k : Int) % (zs.l.length : Int))) ∨ (zs.l[k % zs.l.length]? = none ∧ N ∣ (k + 1 : Int) * 7919) := by
  unfold nextV at h
  cases hx : zs.l[k % zs.l.length]? with
  | none =>
    rw [hx] at h
    dsimp only at h
    rw [belowV_of h1] at h
    exact .inr ⟨rfl, Int.dvd_of_emod_eq_zero h⟩
  | some x =>
    rw [hx] at h
    dsimp only at h
    rw [belowV_of h1] at h
    exact .inl ⟨x, rfl, Int.dvd_of_emod_eq_zero h⟩
/-- two laps, the same place: what is left -/
theorem lap_dvd {zs : Zs} {k : Nat} {N : Int} (h1 : 1 ≤ N) (hm : 0 < zs.l.length) (ha : nextV zs k N = 0) (hb : nextV zs (k + zs.l.length) N = 0) : N ∣ 7919 + (k : Int) % (zs.l.length : Int) := by
  have hlt : k % zs.l.length < zs.l.length := Nat.mod_lt _ hm
  rcases next_dvd h1 ha with ⟨x, hx, hd⟩ | ⟨hx, _⟩
  · rcases next_dvd h1 hb with ⟨y, hy, he⟩ | ⟨hy, _⟩
    · rw [Nat.add_mod_right, hx] at hy
      injection hy with hy
      subst hy
      have e1 : ((k + zs.l.length : Nat) : Int) / (zs.l.length : Int) = (k : Int) / (zs.l.length : Int) + 1 := by
        rw [← Int.natCast_ediv, Nat.add_div_right _ hm, ← Int.natCast_ediv]; rfl
      have e2 : ((k + zs.l.length : Nat) : Int) % (zs.l.length : Int) = (k : Int) % (zs.l.length : Int) := by
        rw [← Int.natCast_emod, Nat.add_mod_right, ← Int.natCast_emod]
      rw [e1, e2] at he
      have h9 := Int.dvd_sub he hd
      rw [Int.add_mul] at h9
      have e3 : ∀ a b c : Int, a + (b + 1 * c) - (a + b) = c := fun a b c => by omega
      rwa [e3] at h9
    · rw [List.getElem?_eq_none_iff, Nat.add_mod_right] at hy; omega
  · rw [List.getElem?_eq_none_iff] at hx; omega
theorem run_ends {zs : Zs} {k : Nat} {N : Int} (h2 : 2 ≤ N) (h20 : N ≤ 20) (h : ∀ j, j ≤ zs.l.length + 1 → nextV zs (k + j) N = 0) : False := by
  rcases Nat.eq_zero_or_pos zs.l.length with hm | hm
  · rcases next_dvd (by omega) (h 0 (by omega)) with ⟨x, hx, _⟩ | ⟨_, hd⟩
    · have := (List.getElem?_eq_some_iff.1 hx).1; omega
    · rcases next_dvd (by omega) (h 1 (by omega)) with ⟨x, hx, _⟩ | ⟨_, he⟩
      · have := (List.getElem?_eq_some_iff.1 hx).1; omega
      · have h9 := Int.dvd_sub he hd
        have e : (((k + 1 : Nat) : Int) + 1) * 7919 - (((k + 0 : Nat) : Int) + 1) * 7919 = 7919 := by omega
        rw [e] at h9
        exact p7919 h2 h20 h9
  · have d1 := lap_dvd (by omega) hm (h 0 (by omega)) (by have := h zs.l.length (by omega); simpa using this)
    have d2 := lap_dvd (k := k + 1) (by omega) hm (h 1 (by omega)) (by have := h (zs.l.length + 1) (by omega); rwa [Nat.add_right_comm, Nat.add_assoc] at *)
    rw [Nat.add_zero] at d1
    rcases Nat.lt_or_ge (k % zs.l.length + 1) zs.l.length with h3 | h3
    · have e : ((k + 1 : Nat) : Int) % (zs.l.length : Int) = (k : Int) % (zs.l.length : Int) + 1 := by
        rw [← Int.natCast_emod, ← Int.natCast_emod, Nat.add_mod, Nat.mod_eq_of_lt (a := 1) (by omega), Nat.mod_eq_of_lt h3]; rfl
      rw [e] at d2
      have h9 := Int.dvd_sub d2 d1
      have e3 : ∀ a : Int, 7919 + (a + 1) - (7919 + a) = 1 := fun a => by omega
      rw [e3] at h9
      have := Int.le_of_dvd (by omega) h9
      omega
    · have hlt := Nat.mod_lt k hm
      have e : ((k + 1 : Nat) : Int) % (zs.l.length : Int) = 0 := by
        have h5 : (k + 1) % zs.l.length = 0 := by
          rw [Nat.add_mod]
          rcases Nat.lt_or_ge 1 zs.l.length with h6 | h6
          · rw [Nat.mod_eq_of_lt h6, show k % zs.l.length + 1 = zs.l.length by omega, Nat.mod_self]
          · rw [show zs.l.length = 1 by omega, Nat.mod_one]
        rw [← Int.natCast_emod, h5]; rfl
      rw [e] at d2
      exact p7919 h2 h20 (by simpa using d2)
end Go.Proofs.YtnkhdofcmanipaaGreatDoor
