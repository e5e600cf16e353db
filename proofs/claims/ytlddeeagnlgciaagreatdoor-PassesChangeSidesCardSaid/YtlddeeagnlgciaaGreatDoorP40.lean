/- PassesChangeSides, plain: passes from either side are the same, rise, and lie before the end. -/
import Derived.Test.YtlddeeagnlgciaaGreatDoorPassL
namespace Go.Proofs.YtlddeeagnlgciaaGreatDoor
open Go.RowKit
set_option linter.unusedVariables false

theorem side_flip (c tot : Int) (a b : List Int) (t : Int) : sideP c tot b a t = -sideP c tot a b t := by
  unfold sideP
  generalize (farP c tot a t).1 * (farP c tot b t).2 = x
  generalize (farP c tot b t).1 * (farP c tot a t).2 = y
  unfold Lib.compareInt
  split <;> split <;> (try split) <;> (try split) <;> omega
theorem meet_flip {a b : List Int} {t : Int} (h : 0 < (meetP a b t).2) : meetF b a t = meetF a b t := by
  have e : meetP b a t = meetP a b t := by
    unfold meetP at h ⊢
    have e1 : (lapP b t).2.1 * (lapP a t).2.2 - (lapP a t).2.1 * (lapP b t).2.2 - ((lapP b t).1 - (lapP a t).1) * (lapP b t).2.2 * (lapP a t).2.2 = -((lapP a t).2.1 * (lapP b t).2.2 - (lapP b t).2.1 * (lapP a t).2.2 - ((lapP a t).1 - (lapP b t).1) * (lapP a t).2.2 * (lapP b t).2.2) := by
      have e2 : ((lapP b t).1 - (lapP a t).1) * (lapP b t).2.2 * (lapP a t).2.2 = -(((lapP a t).1 - (lapP b t).1) * (lapP a t).2.2 * (lapP b t).2.2) := by
        rw [← Int.neg_mul, ← Int.neg_mul, Int.neg_sub, Int.mul_right_comm]
      rw [e2]; omega
    rw [e1]
    generalize (lapP a t).2.1 * (lapP b t).2.2 - (lapP b t).2.1 * (lapP a t).2.2 - ((lapP a t).1 - (lapP b t).1) * (lapP a t).2.2 * (lapP b t).2.2 = p at *
    by_cases h1 : (lapP b t).2.2 - (lapP a t).2.2 < 0
    · rw [if_pos h1] at h
      rw [if_pos h1, if_neg (by omega)]
      exact Prod.ext rfl (by show _ = _; omega)
    · rw [if_neg h1] at h
      have h2 : 0 < (lapP b t).2.2 - (lapP a t).2.2 := h
      rw [if_neg h1, if_pos (by omega)]
      exact Prod.ext (by show _ = _; omega) (by show _ = _; omega)
  unfold meetF
  rw [e]
theorem passGo_flip (S S' : Int → Int) (M M' : Int → Int × Int) (hS : ∀ t, S' t = -S t) : ∀ (l : List Int) (e o : Int), (∀ (k : Nat) (u v : Int), (e :: l)[k]? = some u → (e :: l)[k + 1]? = some v → S v ≠ 0 → S u = -S v → M' u = M u) → passGo S' M' e (-o) l = passGo S M e o l
  | [], _, _, _ => rfl
  | t :: l, e, o, h => by
    have h0 := h 0 e t rfl rfl
    have hr := passGo_flip S S' M M' hS l t (if S t ≠ 0 then S t else o) (fun k u v hu hv => h (k + 1) u v hu hv)
    unfold passGo
    rw [hS t, hS e]
    have e1 : (if -S t ≠ 0 then -S t else -o) = -(if S t ≠ 0 then S t else o) := by
      by_cases hq : S t = 0
      · simp [hq]
      · rw [if_pos (by omega), if_pos hq]
    rw [e1, hr]
    congr 1
    by_cases hq : S t ≠ 0 ∧ S e = -S t
    · rw [if_pos hq, if_pos (by omega), h0 hq.1 hq.2]
    · rw [if_neg hq, if_neg (by omega)]
      by_cases hq2 : S t ≠ 0 ∧ S e = 0 ∧ o = -S t
      · rw [if_pos hq2, if_pos (by omega)]
      · rw [if_neg hq2, if_neg (by omega)]
theorem edgesP_flip {a b : List Int} (fin : Int) : edgesP b a fin = edgesP a b fin := by
  obtain ⟨p1, p2⟩ := compact_sort (0 :: fin :: (a ++ b).filter fun x => decide (x < fin))
  obtain ⟨r1, r2⟩ := compact_sort (0 :: fin :: (b ++ a).filter fun x => decide (x < fin))
  refine asc_unique _ _ r1 p1 fun x => ?_
  unfold edgesP
  rw [r2, p2]
  simp only [List.mem_cons, List.mem_filter, List.mem_append]
  constructor
  · rintro (h | h | ⟨h | h, hx⟩)
    · exact .inl h
    · exact .inr (.inl h)
    · exact .inr (.inr ⟨.inr h, hx⟩)
    · exact .inr (.inr ⟨.inl h, hx⟩)
  · rintro (h | h | ⟨h | h, hx⟩)
    · exact .inl h
    · exact .inr (.inl h)
    · exact .inr (.inr ⟨.inr h, hx⟩)
    · exact .inr (.inr ⟨.inl h, hx⟩)
/-- what one step from an edge to the next one tells -/
structure StepQ (c tot : Int) (a b : List Int) (e t : Int) : Prop where
  lt : e < t
  ok : sideP c tot a b t ≠ 0 → sideP c tot a b e = -sideP c tot a b t → 0 < (meetP a b e).2 ∧ 0 ≤ (meetP a b e).1 ∧ (meetP a b e).1 < t * (meetP a b e).2 ∧ e * (meetP a b e).2 ≤ (meetP a b e).1
theorem step_q {c tot fin : Int} {a b : List Int} (h : Two2 c tot a b fin) {E E' : Int} (h0 : 0 ≤ E) (hlt : E < E') (hf : E' ≤ fin) (hno : ∀ x ∈ a ++ b, x ≤ fin → x ≤ E ∨ E' ≤ x) : StepQ c tot a b E E' := by
  refine ⟨hlt, fun hs hs2 => ?_⟩
  have hna : ∀ x ∈ a, x ≤ E ∨ E' ≤ x := fun x hx => by
    by_cases hxf : x ≤ fin
    · exact hno x (List.mem_append.2 (.inl hx)) hxf
    · exact .inr (by omega)
  have hnb : ∀ x ∈ b, x ≤ E ∨ E' ≤ x := fun x hx => by
    by_cases hxf : x ≤ fin
    · exact hno x (List.mem_append.2 (.inr hx)) hxf
    · exact .inr (by omega)
  have hxa : ∃ x ∈ a, E < x := by obtain ⟨x, h1, h2⟩ := h.xa; exact ⟨x, h1, by omega⟩
  have hxb : ∃ x ∈ b, E < x := by obtain ⟨x, h1, h2⟩ := h.xb; exact ⟨x, h1, by omega⟩
  exact meet_ok h.c0 h.ra h.rb h.ta h.tb h0 (Int.le_of_lt hlt) hxa hxb hna hnb (fun t => far_pos h.ra) (fun t => far_pos h.rb) hs hs2
theorem step_all {c tot fin : Int} {a b : List Int} (h : Two2 c tot a b fin) : (∃ rest, edgesP a b fin = 0 :: rest) ∧ (∀ x ∈ edgesP a b fin, 0 ≤ x ∧ x ≤ fin) ∧ ∀ (k : Nat) (e t : Int), (edgesP a b fin)[k]? = some e → (edgesP a b fin)[k + 1]? = some t → StepQ c tot a b e t := by
  have hp : ∀ x ∈ a ++ b, 0 < x := fun x hx => by
    rcases List.mem_append.1 hx with h1 | h1
    · exact rise_all h.ra x h1
    · exact rise_all h.rb x h1
  obtain ⟨rest, hE, hpw, hbd, hall⟩ := edges_ok h.fm hp
  refine ⟨⟨rest, hE⟩, hbd, fun k e t he ht => ?_⟩
  generalize edgesP a b fin = E at *
  have key : ∀ (i j : Nat) (x y : Int), i < j → E[i]? = some x → E[j]? = some y → x < y := fun i j x y hij hx hy => by
    have hjl := lt_of_at hy
    have h9 := List.pairwise_iff_getElem.1 hpw i j (by omega) hjl hij
    rw [List.getElem?_eq_getElem (by omega)] at hx hy
    injection hx with hx
    injection hy with hy
    rw [hx, hy] at h9
    exact h9
  have hbe := hbd e (List.mem_of_getElem? he)
  have hbt := hbd t (List.mem_of_getElem? ht)
  refine step_q h hbe.1 (key k (k + 1) e t (by omega) he ht) hbt.2 (fun x hx hxf => ?_)
  obtain ⟨i, hi⟩ := List.mem_iff_getElem?.1 (hall x hx hxf)
  rcases Nat.lt_trichotomy i (k + 1) with h9 | h9 | h9
  · by_cases h8 : i = k
    · rw [h8, he] at hi; injection hi with hi; exact .inl (by omega)
    · exact .inl (Int.le_of_lt (key i k x e (by omega) hi he))
  · rw [h9, ht] at hi; injection hi with hi; exact .inr (by omega)
  · exact .inr (Int.le_of_lt (key (k + 1) i t x h9 ht hi))
theorem two_flip {c tot fin : Int} {a b : List Int} (h : Two2 c tot a b fin) : Two2 c tot b a fin :=
  ⟨h.c0, h.rb, h.ra, h.tb, h.ta, h.lb, h.la, by have := h.fm; simp only [List.mem_append] at this ⊢; exact this.symm, h.xb, h.xa⟩
theorem passes_flip {c tot fin : Int} {a b : List Int} (h : Two2 c tot a b fin) : passL c tot b a fin = passL c tot a b fin := by
  obtain ⟨⟨rest, hE⟩, _, hst⟩ := step_all h
  unfold passL
  rw [edgesP_flip, hE]
  rw [hE] at hst
  have := passGo_flip (sideP c tot a b) (sideP c tot b a) (meetF a b) (meetF b a) (side_flip c tot a b) rest 0 0 (fun k u v hu hv hs hs2 => meet_flip ((hst k u v hu hv).ok hs hs2).1)
  simpa using this
/-- passes that rise, from one on, and lie before the end -/
def incP (fin : Int) : Int × Int → List (Int × Int) → Prop
  | _, [] => True
  | a, p :: r => (0 < p.2 ∧ 0 ≤ p.1 ∧ p.2 ≤ 360000 ∧ a.1 * p.2 < p.1 * a.2 ∧ p.1 < fin * p.2) ∧ incP fin p r
theorem frac_after {p q f : Int} (hq : 0 < q) (h : f * q ≤ p) : f * fracD p q ≤ fracN p q := by
  obtain ⟨hg, e1, e2⟩ := frac_split (a := p) hq
  generalize (Int.gcd p q : Int) = g at *
  generalize fracN p q = N at *
  generalize fracD p q = D at *
  subst e1 e2
  have e3 : f * (g * D) = g * (f * D) := by simp only [Int.mul_comm, Int.mul_left_comm]
  rw [e3] at h
  exact Int.le_of_mul_le_mul_left h hg
theorem frac_pos2 {p q : Int} (hq : 0 < q) : 0 < fracD p q := by
  obtain ⟨hg, e1, e2⟩ := frac_split (a := p) hq
  generalize (Int.gcd p q : Int) = g at *
  generalize fracD p q = D at *
  rw [e2] at hq
  rcases Int.lt_trichotomy D 0 with h | h | h
  · have := Int.mul_neg_of_pos_of_neg hg h; omega
  · rw [h, Int.mul_zero] at hq; omega
  · exact h
theorem inc_go {c tot fin : Int} {a b : List Int} (hd : ∀ e, 0 < (meetP a b e).2 → e < fin → (meetF a b e).2 ≤ 360000) : ∀ (l : List Int) (e o : Int) (last : Int × Int), (∀ x ∈ e :: l, 0 ≤ x ∧ x ≤ fin) → (∀ (k : Nat) (u v : Int), (e :: l)[k]? = some u → (e :: l)[k + 1]? = some v → StepQ c tot a b u v) → 0 < last.2 → last.1 < e * last.2 → incP fin last (passGo (sideP c tot a b) (meetF a b) e o l)
  | [], _, _, _, _, _, _, _ => trivial
  | t :: l, e, o, last, hb, hst, h0, hl => by
    have hq := hst 0 e t rfl rfl
    have hlt := hq.lt
    have hbe := hb e (by simp)
    have hbt := hb t (by simp)
    have hnext := fun o' last' (h1 : 0 < last'.2) (h2 : last'.1 < t * last'.2) => inc_go hd l t o' last' (fun x hx => hb x (by simp at hx ⊢; rcases hx with h | h; exact .inr (.inl h); exact .inr (.inr h))) (fun k u v hu hv => hst (k + 1) u v hu hv) h1 h2
    unfold passGo
    by_cases h1 : sideP c tot a b t ≠ 0 ∧ sideP c tot a b e = -sideP c tot a b t
    · rw [if_pos h1]
      obtain ⟨m1, m2, m3, m4⟩ := hq.ok h1.1 h1.2
      have n1 : (meetF a b e).1 < t * (meetF a b e).2 := frac_before m1 m3
      have n2 : e * (meetF a b e).2 ≤ (meetF a b e).1 := frac_after m1 m4
      have n3 : 0 < (meetF a b e).2 := frac_pos2 m1
      have n4 := Int.mul_nonneg hbe.1 (Int.le_of_lt n3)
      have n5 := Int.mul_lt_mul_of_pos_right hl n3
      have n6 : e * last.2 * (meetF a b e).2 = e * (meetF a b e).2 * last.2 := Int.mul_right_comm _ _ _
      have n7 := Int.mul_le_mul_of_nonneg_right n2 (Int.le_of_lt h0)
      have n8 := Int.mul_le_mul_of_nonneg_right hbt.2 (Int.le_of_lt n3)
      exact ⟨⟨n3, by omega, hd e m1 (by omega), by omega, by omega⟩, hnext _ _ n3 n1⟩
    · rw [if_neg h1]
      by_cases h2 : sideP c tot a b t ≠ 0 ∧ sideP c tot a b e = 0 ∧ o = -sideP c tot a b t
      · rw [if_pos h2]
        exact ⟨⟨by show (0 : Int) < 1; omega, hbe.1, by show (1 : Int) ≤ 360000; omega, by show last.1 * 1 < e * last.2; omega, by show e < fin * 1; omega⟩, hnext _ _ (by show (0 : Int) < 1; omega) (by show e < t * 1; omega)⟩
      · rw [if_neg h2]
        have n5 := Int.mul_lt_mul_of_pos_right hlt h0
        exact hnext _ _ h0 (by omega)
theorem passes_inc {c tot fin : Int} {a b : List Int} (h : Two2 c tot a b fin) (hd : ∀ e, 0 < (meetP a b e).2 → e < fin → (meetF a b e).2 ≤ 360000) : incP fin (0, 1) (passL c tot a b fin) := by
  obtain ⟨⟨rest, hE⟩, hbd, hst⟩ := step_all h
  unfold passL
  rw [hE] at hbd hst ⊢
  rw [List.tail_cons]
  rcases rest with _ | ⟨t, l⟩
  · trivial
  · have hz := side_zero h.ra h.rb h.la h.lb (c := c) (tot := tot)
    have hq := hst 0 0 t rfl rfl
    have hlt := hq.lt
    unfold passGo
    rw [hz, if_neg (by omega), if_neg (by omega), List.nil_append]
    exact inc_go hd l t _ (0, 1) (fun x hx => hbd x (by simp at hx ⊢; rcases hx with h | h; exact .inr (.inl h); exact .inr (.inr h))) (fun k u v hu hv => hst (k + 1) u v hu hv) (by show (0 : Int) < 1; omega) (by show 0 < t * 1; omega)
end Go.Proofs.YtlddeeagnlgciaaGreatDoor
