/- Touches are laps or ghosts: plain. -/
import Derived.Test.YtcdnjehkkbnfbaaGreatDoorTouQ
namespace Go.Proofs.YtcdnjehkkbnfbaaGreatDoor
open Go.RowKit Go.Shelf Go.Lib Go.Sort
set_option linter.unusedVariables false

theorem cnt_perm {e0 : Int} {M : Nat} : ∀ (l g h : List Int), ((cntGo e0 M g h l).2 ++ (cntGo e0 M g h l).1).Perm (h ++ g ++ l)
  | [], g, h => by simp [cntGo]
  | t :: r, g, h => by
    by_cases hc : t < (if g.length = 0 then e0 * 1000 else g.getD (g.length - 1) 0 + 2000) ∨ g.length = M
    · rw [show cntGo e0 M g h (t :: r) = cntGo e0 M g (h ++ [t]) r from if_pos hc]
      refine (cnt_perm r g (h ++ [t])).trans ?_
      rw [List.append_assoc, List.append_assoc, List.append_assoc]
      refine List.Perm.append_left h ?_
      exact (List.perm_middle (l₁ := g) (a := t) (l₂ := r)).symm
    · rw [show cntGo e0 M g h (t :: r) = cntGo e0 M (g ++ [t]) h r from if_neg hc]
      refine (cnt_perm r (g ++ [t]) h).trans ?_
      simp
theorem ghost_good (N : Nat) (l : List Int) : (ghostV N l ++ goodV N l).Perm l := by
  have := cnt_perm (e0 := e0N N) (M := mN N) l [] []
  simpa [ghostV, goodV] using this
theorem huGo_sorted {s0 : Int} : ∀ {T : List Td}, T.Pairwise (fun a b => a.tm ≤ b.tm) → (huGo s0 T).Pairwise (· ≤ ·)
  | [], _ => List.Pairwise.nil
  | x :: r, h => by
    obtain ⟨h1, h2⟩ := List.pairwise_cons.1 h
    unfold huGo
    split
    · refine List.pairwise_cons.2 ⟨fun y hy => ?_, huGo_sorted h2⟩
      have key : ∀ T : List Td, y ∈ huGo s0 T → ∃ t ∈ T, y = (t.tm - s0).tdiv 10 := by
        intro T
        induction T with
        | nil => intro h; cases h
        | cons z r ih =>
          intro h
          unfold huGo at h
          split at h
          · rcases List.mem_cons.1 h with rfl | h
            · exact ⟨z, List.mem_cons_self, rfl⟩
            · obtain ⟨t, h1, h2⟩ := ih h; exact ⟨t, List.mem_cons_of_mem _ h1, h2⟩
          · obtain ⟨t, h1, h2⟩ := ih h; exact ⟨t, List.mem_cons_of_mem _ h1, h2⟩
      obtain ⟨t, ht, rfl⟩ := key r hy
      have := h1 t ht
      rcases Int.le_total 0 (x.tm - s0) with h3 | h3
      · rw [Int.tdiv_eq_ediv_of_nonneg h3, Int.tdiv_eq_ediv_of_nonneg (by omega)]
        omega
      · rcases Int.le_total 0 (t.tm - s0) with h4 | h4
        · have e1 : (x.tm - s0).tdiv 10 = -((s0 - x.tm) / 10) := by
            rw [show x.tm - s0 = -(s0 - x.tm) by omega, Int.neg_tdiv, Int.tdiv_eq_ediv_of_nonneg (by omega)]
          rw [e1, Int.tdiv_eq_ediv_of_nonneg h4]; omega
        · have e1 : (x.tm - s0).tdiv 10 = -((s0 - x.tm) / 10) := by
            rw [show x.tm - s0 = -(s0 - x.tm) by omega, Int.neg_tdiv, Int.tdiv_eq_ediv_of_nonneg (by omega)]
          have e2 : (t.tm - s0).tdiv 10 = -((s0 - t.tm) / 10) := by
            rw [show t.tm - s0 = -(s0 - t.tm) by omega, Int.neg_tdiv, Int.tdiv_eq_ediv_of_nonneg (by omega)]
          rw [e1, e2]; omega
    · exact huGo_sorted h2
theorem tdCf_swo : SWO (ltOf tdCf) := by
  refine ⟨fun a => ?_, fun a b c => ?_, fun a b c => ?_⟩ <;> unfold ltOf tdCf Lib.compareInt <;> intros <;> (simp at *) <;> (try omega)
  all_goals (repeat' split at *) <;> (try omega) <;> simp_all <;> omega
theorem tdL_sorted (cl : List Ck) (l : List Sg) (H : Nat) (lane kind : Int) : (tdL cl l H lane kind).Pairwise (fun a b => a.tm ≤ b.tm) := by
  unfold tdL
  have h := (insL_spec tdCf_swo (lnGo cl (startsV cl l) H lane kind l)).2
  rw [List.pairwise_iff_getElem]
  intro i j hi hj hij
  have := h i j _ _ hij (List.getElem?_eq_getElem hi) (List.getElem?_eq_getElem hj)
  generalize (insL (ltOf tdCf) (lnGo cl (startsV cl l) H lane kind l))[i] = x at *
  generalize (insL (ltOf tdCf) (lnGo cl (startsV cl l) H lane kind l))[j] = y at *
  unfold ltOf tdCf Lib.compareInt at this
  repeat' split at this
  all_goals first | omega | (simp at this)
theorem touV_sorted (cl : List Ck) (l : List Sg) (H : Nat) (lane : Int) : (touV cl l H lane).Pairwise (· ≤ ·) := by
  unfold touV
  exact (huGo_sorted (tdL_sorted cl l H lane 2)).sublist (compact_sub _)
theorem sort_ghost (N : Nat) (cl : List Ck) (l : List Sg) (H : Nat) (lane : Int) {L : List Int} (h : L.Perm (touV cl l H lane)) : L.mergeSort (fun x y => decide (x ≤ y)) = touV cl l H lane := by
  refine List.Perm.eq_of_pairwise (le := fun a b => a ≤ b) (fun a b _ _ h1 h2 => Int.le_antisymm h1 h2) ?_ (touV_sorted cl l H lane) ((List.mergeSort_perm _ _).trans h)
  have := List.pairwise_mergeSort (le := fun x y : Int => decide (x ≤ y)) (fun a b c h1 h2 => by simp only [decide_eq_true_eq] at *; omega) (fun a b => by simp only [Bool.or_eq_true, decide_eq_true_eq]; omega) L
  exact this.imp (fun h => by simpa using h)
theorem fillP_filled (E : List Int) (j x e y : Int) : ∀ (m i : Nat), (LP.fillP E j x e y i m).filter (fun l => !l.filled) = []
  | 0, _ => rfl
  | m + 1, i => by unfold LP.fillP; rw [List.filter_cons]; simp [fillP_filled E j x e y m (i + 1)]
theorem lapsP_good (E : List Int) : ∀ (ps : List (Nat × Int)) (j x : Int) (i : Nat), ((LP.lapsP E j x i ps).filter (fun l => !l.filled)).map (fun l => l.time) = ps.map Prod.snd
  | [], _, _, _ => rfl
  | (k, y) :: r, j, x, i => by
    unfold LP.lapsP
    rw [List.filter_append, fillP_filled, List.nil_append, List.filter_cons]
    simp [lapsP_good E r]
theorem lapsV_good (N : Nat) (l : List Int) (hb : ∀ x ∈ l, 0 ≤ x ∧ x ≤ 1000000000) (hN1 : 1 ≤ N) (hN : N ≤ 16) : ((lapsV N l).filter (fun l => !l.filled)).map (fun l => l.time) = goodV N l := by
  unfold lapsV
  by_cases h0 : (goodV N l).length = 0
  · rw [if_pos h0, List.eq_nil_of_length_eq_zero h0]; rfl
  · rw [if_neg h0, lapsP_good]
    have := (standV_len N l hb hN1 hN h0).2
    rw [List.map_snd_zip (by omega)]
theorem lapsV_ends (N : Nat) (l : List Int) (hb : ∀ x ∈ l, 0 ≤ x ∧ x ≤ 1000000000) (hN1 : 1 ≤ N) (hN : N ≤ 16) : lapsV N l = [] ∨ (lapsV N l).map (fun l => l.length) = endsV N := by
  unfold lapsV
  by_cases h0 : (goodV N l).length = 0
  · rw [if_pos h0]; exact .inl rfl
  · rw [if_neg h0]
    right
    obtain ⟨h1, h2⟩ := standV_len N l hb hN1 hN h0
    have := LP.laps_ref (endsV N) (endsV_inc N) ((standV N (goodV N l)).zip (goodV N l)) 0 0 0 (by rw [endsV_len]; exact upL_up h1 h2)
    rw [← this, List.drop_zero, List.map_map]
    have hr : ∀ (ps : List (Int × Int)) (j x k : Int), (LP.refL ps j x k).length = k := by
      intro ps
      induction ps with
      | nil => intros; rfl
      | cons p r ih =>
        intro j x k
        obtain ⟨e, y⟩ := p
        unfold LP.refL
        split
        · rfl
        · split
          · rfl
          · exact ih _ _ _
    have : (fun l : LP.Lp => l.length) ∘ LP.refL (LP.prs (endsV N) ((standV N (goodV N l)).zip (goodV N l))) 0 0 = id := funext fun k => hr _ _ _ _
    rw [this, List.map_id]
theorem lapsV_step (N : Nat) (l : List Int) (hb : ∀ x ∈ l, 0 ≤ x ∧ x ≤ 1000000000) (hN1 : 1 ≤ N) (hN : N ≤ 16) {i : Nat} {x y : LP.Lp} (hx : (lapsV N l)[i]? = some x) (hy : (lapsV N l)[i + 1]? = some y) : y.length = x.length + 2 := by
  rcases lapsV_ends N l hb hN1 hN with h | h
  · rw [h] at hx; cases hx
  · have e1 : (endsV N)[i]? = some x.length := by rw [← h, List.getElem?_map, hx]; rfl
    have e2 : (endsV N)[i + 1]? = some y.length := by rw [← h, List.getElem?_map, hy]; rfl
    have l2 := lt_of_at e2
    rw [endsV_len] at l2
    rw [endsV_at N i (by omega)] at e1
    rw [endsV_at N (i + 1) l2] at e2
    injection e1 with e1
    injection e2 with e2
    omega
end Go.Proofs.YtcdnjehkkbnfbaaGreatDoor
