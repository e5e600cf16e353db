/- Plain laws: even splits, splits in proportion to themselves. -/
import Derived.Test.YtdbfcneeiiialaaDoorSums9
import Derived.Test.YtdbfcneeiiialaaDoorFillP
namespace Go.Proofs.YtdbfcneeiiialaaDoor
open Go.RowKit
set_option linter.unusedVariables false

theorem likeL_self {l : List Int} (h : l.getLastD 0 ≠ 0) : likeL l (l.getLastD 0) = l := by
  unfold likeL likeF
  have : ∀ (m : List Int), m.map (fun x => x * l.getLastD 0 / l.getLastD 0) = m := by
    intro m
    induction m with
    | nil => rfl
    | cons x m ih => rw [List.map_cons, ih, Int.mul_ediv_cancel _ h]
  exact this l
theorem ev_step {t N k : Int} (hN : 0 < N) (ht : N ≤ t) : t * k / N < t * (k + 1) / N := by
  have h1 : t * (k + 1) = t * k + t := by rw [Int.mul_add, Int.mul_one]
  have h2 : (t * k + N) / N = t * k / N + 1 := by rw [Int.add_ediv_of_dvd_right (Int.dvd_refl N), Int.ediv_self (by omega)]
  have h3 : (t * k + N) / N ≤ (t * k + t) / N := Int.ediv_le_ediv hN (by omega)
  rw [h1]; omega
theorem evGo_rise {t N : Int} (hN : 0 < N) (ht : N ≤ t) : ∀ (m : Nat) (k last : Int), last < t * k / N → risingF (evGo t N m k) last = true
  | 0, _, _, _ => rfl
  | m + 1, k, last, h => by
    show (if t * k / N ≤ last then false else risingF (evGo t N m (k + 1)) (t * k / N)) = true
    rw [if_neg (by omega)]
    exact evGo_rise hN ht m (k + 1) _ (ev_step hN ht)
theorem even_rise {t N : Int} (hN : 0 < N) (ht : N ≤ t) : risingF (evenL t N) 0 = true := by
  refine evGo_rise hN ht _ 1 0 ?_
  rw [Int.mul_one]
  have : N / N ≤ t / N := Int.ediv_le_ediv hN ht
  rw [Int.ediv_self (by omega)] at this
  omega
theorem evGo_len {t N : Int} : ∀ (m : Nat) (k : Int), (evGo t N m k).length = m
  | 0, _ => rfl
  | m + 1, k => by unfold evGo; rw [List.length_cons, evGo_len m]
theorem evGo_at {t N : Int} : ∀ (m : Nat) (k : Int) (i : Nat), i < m → (evGo t N m k)[i]? = some (t * (k + i) / N)
  | 0, _, _, h => absurd h (by omega)
  | m + 1, k, 0, _ => by simp [evGo]
  | m + 1, k, i + 1, h => by
    unfold evGo
    rw [List.getElem?_cons_succ, evGo_at m (k + 1) i (by omega)]
    rw [show k + 1 + (i : Int) = k + ((i + 1 : Nat) : Int) from by omega]
/-- rising splits that are no greater than the longest time are in order -/
theorem sp_of_rise : ∀ {l : List Int} {last : Int}, risingF l last = true → 0 ≤ last → (∀ x ∈ l, x ≤ 360000) → spErrL l last = 0
  | [], _, _, _, _ => rfl
  | x :: l, last, h, h0, hb => by
    have hx := hb x (by simp)
    have h' : (if x ≤ last then false else risingF l x) = true := h
    split at h'
    · cases h'
    · unfold spErrL
      rw [if_neg (by omega), if_neg (by omega), if_pos (by omega)]
      exact sp_of_rise h' (by omega) (fun y hy => hb y (by simp [hy]))
theorem even_bd {t N : Int} (hN : 0 < N) (h0 : 0 ≤ t) (h1 : t ≤ 360000) : ∀ x ∈ evenL t N, x ≤ 360000 := by
  intro x hx
  obtain ⟨i, hi⟩ := List.mem_iff_getElem?.mp hx
  have hlt := (List.getElem?_eq_some_iff.mp hi).1
  unfold evenL at hlt hi
  rw [evGo_len] at hlt
  rw [evGo_at _ _ _ hlt] at hi
  obtain rfl := Option.some.inj hi
  have := (frac_bd (D := t) (i := 1 + (i : Int)) (q := N) h0 (by omega) (by omega) hN).2
  omega
theorem even_whole {r : Race} {t : Int} (h0 : raceErr r = 0) (ht0 : 0 ≤ t) (ht : t ≤ 360000) (hr : risingF (evenL t (lenV r)) 0 = true) : wholeErr r (evenL t (lenV r)) = 0 := by
  have hb := lenV_bd h0
  refine whole_of h0 ?_ (sp_of_rise hr (by omega) (even_bd (by omega) ht0 ht)) hr
  unfold evenL; rw [evGo_len]; omega
theorem even_last {t N : Int} (hN : 0 < N) : (evenL t N)[N.toNat - 1]? = some t := by
  unfold evenL
  rw [evGo_at _ _ _ (by omega), show (1 : Int) + ((N.toNat - 1 : Nat) : Int) = N from by omega, Int.mul_ediv_cancel _ (by omega)]
end Go.Proofs.YtdbfcneeiiialaaDoor
