/- Each rank is 1 and how many have a lesser one: the plain law. -/
import Derived.Test.YtklggnglaeagpaaGreatDoorP23
namespace Go.Proofs.YtklggnglaeagpaaGreatDoor
open Go.RowKit
set_option linter.unusedVariables false

def cntR (r : Int) (L : List Rk) : Nat := (L.filter fun b => decide (b.rank < r)).length
theorem cntR_cons (r : Int) (x : Rk) (L : List Rk) : cntR r (x :: L) = (if x.rank < r then 1 else 0) + cntR r L := by
  unfold cntR
  rw [List.filter_cons]
  by_cases h : x.rank < r
  · rw [if_pos (by simpa using h), if_pos h, List.length_cons]; omega
  · rw [if_neg (by simpa using h), if_neg h]; omega
theorem cntR_zero {r : Int} : ∀ {L : List Rk}, (∀ b ∈ L, r ≤ b.rank) → cntR r L = 0
  | [], _ => rfl
  | x :: L, h => by
    rw [cntR_cons, cntR_zero fun b hb => h b (by simp [hb]), if_neg (by have := h x (by simp); omega)]
def qR (d : Int) (x : Rk) (i : Int) : Option (Int × Int) → Int
  | some (t, k) => if x.time / d = t then k else i + 1
  | none => i + 1
theorem rnkF_cons (d : Int) (x : Rk) (r : List Rk) (i : Int) (p : Option (Int × Int)) : rnkF d (x :: r) i p = ⟨x.who, qR d x i p, x.time, x.fault⟩ :: rnkF d r (i + 1) (some (x.time / d, qR d x i p)) := by
  cases p <;> rfl
theorem rnk_main (d : Int) : ∀ (S : List Rk) (i k t : Int), 1 ≤ k → k ≤ i → ∀ a ∈ rnkF d S i (some (t, k)), k ≤ a.rank ∧ (a.rank = k ∨ (i < a.rank ∧ (cntR a.rank (rnkF d S i (some (t, k))) : Int) = a.rank - 1 - i))
  | [], i, k, t, _, _ => fun a ha => by cases ha
  | x :: r, i, k, t, h1, h2 => by
    rw [rnkF_cons]
    have hq : qR d x i (some (t, k)) = k ∨ qR d x i (some (t, k)) = i + 1 := by
      unfold qR
      simp only
      split
      · exact .inl rfl
      · exact .inr rfl
    generalize qR d x i (some (t, k)) = q at *
    have ih := rnk_main d r (i + 1) q (x.time / d) (by omega) (by omega)
    have h0 : q = i + 1 → cntR (i + 1) (rnkF d r (i + 1) (some (x.time / d, q))) = 0 := fun hqi => cntR_zero fun b hb => by have := (ih b hb).1; omega
    intro a ha
    rcases List.mem_cons.1 ha with rfl | ha
    · refine ⟨by show k ≤ q; omega, ?_⟩
      rcases hq with hq | hq
      · exact .inl hq
      · subst hq
        refine .inr ⟨by show i < i + 1; omega, ?_⟩
        show ((cntR (i + 1) (_ :: _) : Nat) : Int) = i + 1 - 1 - i
        rw [cntR_cons, if_neg (by show ¬ i + 1 < i + 1; omega), h0 rfl]
        omega
    · obtain ⟨a1, a2⟩ := ih a ha
      refine ⟨by omega, ?_⟩
      rcases a2 with a2 | ⟨a2, a3⟩
      · rcases hq with hq | hq
        · exact .inl (by omega)
        · subst hq
          refine .inr ⟨by omega, ?_⟩
          rw [cntR_cons, if_neg (by show ¬ i + 1 < a.rank; omega), a2, h0 rfl]
          omega
      · refine .inr ⟨by omega, ?_⟩
        rw [cntR_cons, if_pos (by show q < a.rank; omega)]
        omega
theorem rnk_start (d : Int) (S : List Rk) : ∀ a ∈ rnkF d S 0 none, 1 ≤ a.rank ∧ (cntR a.rank (rnkF d S 0 none) : Int) = a.rank - 1 := by
  rcases S with _ | ⟨x, r⟩
  · intro a ha; cases ha
  · rw [rnkF_cons]
    have ih := rnk_main d r (0 + 1) (0 + 1) (x.time / d) (by omega) (by omega)
    have h0 : cntR 1 (rnkF d r (0 + 1) (some (x.time / d, 0 + 1))) = 0 := cntR_zero fun b hb => by have := (ih b hb).1; omega
    intro a ha
    rcases List.mem_cons.1 ha with rfl | ha
    · refine ⟨by show (1 : Int) ≤ 0 + 1; omega, ?_⟩
      show ((cntR (0 + 1) (_ :: _) : Nat) : Int) = 0 + 1 - 1
      rw [cntR_cons, if_neg (by show ¬ ((0 : Int) + 1 < 0 + 1); omega)]
      have : cntR (0 + 1) (rnkF d r (0 + 1) (some (x.time / d, 0 + 1))) = 0 := h0
      show ((0 + cntR (0 + 1) (rnkF d r (0 + 1) (some (x.time / d, 0 + 1))) : Nat) : Int) = _
      omega
    · obtain ⟨a1, a2⟩ := ih a ha
      refine ⟨by omega, ?_⟩
      rcases a2 with a2 | ⟨a2, a3⟩
      · rw [cntR_cons, if_neg (by show ¬ ((0 : Int) + 1 < a.rank); omega)]
        have e : a.rank = 1 := by omega
        rw [e]
        show ((0 + cntR 1 (rnkF d r (0 + 1) (some (x.time / d, 0 + 1))) : Nat) : Int) = _
        omega
      · rw [cntR_cons, if_pos (by show (0 : Int) + 1 < a.rank; omega)]
        show ((1 + cntR a.rank (rnkF d r (0 + 1) (some (x.time / d, 0 + 1))) : Nat) : Int) = _
        omega
theorem rnkF_mem (d : Int) : ∀ (S : List Rk) (i : Int) (p : Option (Int × Int)) (a : Rk), a ∈ rnkF d S i p → ∃ x ∈ S, a.who = x.who ∧ a.time = x.time ∧ a.fault = x.fault
  | [], _, _, _, h => by cases h
  | x :: r, i, p, a, h => by
    rw [rnkF_cons] at h
    rcases List.mem_cons.1 h with rfl | h
    · exact ⟨x, by simp, rfl, rfl, rfl⟩
    · obtain ⟨y, hy, he⟩ := rnkF_mem d r _ _ a h
      exact ⟨y, by simp [hy], he⟩
theorem rnkF_who (d : Int) : ∀ (S : List Rk) (i : Int) (p : Option (Int × Int)), (rnkF d S i p).map Rk.who = S.map Rk.who
  | [], _, _ => rfl
  | x :: r, i, p => by rw [rnkF_cons, List.map_cons, List.map_cons, rnkF_who d r]
theorem rankL_perm (d : Int) (f : ByteArray → Int) (l : List Sd) : ((rankL d f l).map Rk.who).Perm (l.map Sd.who) := by
  unfold rankL
  rw [List.map_append, rnkF_who]
  have h1 : ((rkSorted d (goodL f l)).map Rk.who).Perm ((goodL f l).map Rk.who) := (rk_perm d _).map _
  have h2 : (goodL f l).map Rk.who = (l.filter (isGood f)).map Sd.who := by unfold goodL; rw [List.map_map]; rfl
  have h3 : (badL f l).map Rk.who = (l.filter fun x => !isGood f x).map Sd.who := by unfold badL; rw [List.map_map]; rfl
  rw [h3]
  refine (h1.append_right _).trans ?_
  rw [h2, ← List.map_append]
  exact (List.filter_append_perm (isGood f) l).map _
theorem rankL_ok {d : Int} {f : ByteArray → Int} {l : List Sd} {a : Rk} (ha : a ∈ rankL d f l) : (0 ≤ a.rank ∧ a.rank ≤ l.length) ∧ (∃ y ∈ l, a.who = y.who ∧ a.time = y.time ∧ a.fault = f y.who) ∧ (a.rank = 0 ∨ (a.time ≠ 0 ∧ a.fault = 0)) := by
  unfold rankL at ha
  rcases List.mem_append.1 ha with ha | ha
  · obtain ⟨r1, r2⟩ := rnk_start d (rkSorted d (goodL f l)) a ha
    obtain ⟨x, hx, e1, e2, e3⟩ := rnkF_mem d _ _ _ a ha
    have hx2 : x ∈ goodL f l := (rk_perm d _).mem_iff.1 hx
    unfold goodL at hx2
    obtain ⟨y, hy, rfl⟩ := List.mem_map.1 hx2
    obtain ⟨hy1, hy2⟩ := List.mem_filter.1 hy
    unfold isGood at hy2
    simp only [Bool.and_eq_true, decide_eq_true_eq] at hy2
    have hlen : (rnkF d (rkSorted d (goodL f l)) 0 none).length ≤ l.length := by
      rw [rnkF_len, (rk_perm d _).length_eq]
      unfold goodL
      rw [List.length_map]
      exact List.length_filter_le _ _
    have hlt : cntR a.rank (rnkF d (rkSorted d (goodL f l)) 0 none) < (rnkF d (rkSorted d (goodL f l)) 0 none).length := by
      unfold cntR
      exact List.length_filter_lt_length_iff_exists.2 ⟨a, ha, by simp⟩
    refine ⟨⟨by omega, by omega⟩, ⟨y, hy1, e1, e2, e3⟩, .inr ⟨?_, ?_⟩⟩
    · rw [e2]; show y.time ≠ 0; omega
    · rw [e3]; exact hy2.1
  · unfold badL at ha
    obtain ⟨y, hy, rfl⟩ := List.mem_map.1 ha
    exact ⟨⟨by show (0 : Int) ≤ 0; omega, by show (0 : Int) ≤ _; omega⟩, ⟨y, (List.mem_filter.1 hy).1, rfl, rfl, rfl⟩, .inl rfl⟩
end Go.Proofs.YtklggnglaeagpaaGreatDoor
