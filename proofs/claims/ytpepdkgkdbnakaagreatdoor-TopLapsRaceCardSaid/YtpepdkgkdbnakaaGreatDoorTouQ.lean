/- The last lap is the last touch that counts; what is taken of a lane is a right touch. Plain. -/
import Derived.Test.YtpepdkgkdbnakaaGreatDoorTouP
import Derived.Test.YtpepdkgkdbnakaaGreatDoorTouch7
namespace Go.Proofs.YtpepdkgkdbnakaaGreatDoor
open Go.RowKit Go.Shelf Go.Lib Go.Sort
set_option linter.unusedVariables false

theorem lapsP_last (E : List Int) : ∀ (ps : List (Nat × Int)) (j x : Int) (i : Nat), (LP.lapsP E j x i ps).getLast? = ps.getLast?.map (fun p => (⟨E.getD p.1 0, p.2, false⟩ : LP.Lp))
  | [], _, _, _ => rfl
  | [(k, y)], j, x, i => by
    simp only [LP.lapsP, List.getLast?_append, List.getLast?_singleton, Option.map_some]
    rfl
  | (k, y) :: q :: r, j, x, i => by
    have ih := lapsP_last E (q :: r) (E.getD k 0) y (k + 1)
    rw [List.getLast?_cons_cons]
    rw [← ih]
    show (LP.fillP E j x (E.getD k 0) y i (k - i) ++ ⟨E.getD k 0, y, false⟩ :: LP.lapsP E (E.getD k 0) y (k + 1) (q :: r)).getLast? = _
    have hne : (LP.lapsP E (E.getD k 0) y (k + 1) (q :: r)) ≠ [] := by
      obtain ⟨a, b⟩ := q
      simp [LP.lapsP]
    rw [List.getLast?_append, List.getLast?_cons_of_ne_nil hne]
    cases h : (LP.lapsP E (E.getD k 0) y (k + 1) (q :: r)).getLast? with
    | none => exact absurd (List.getLast?_eq_none_iff.1 h) hne
    | some z => rfl
theorem zip_last {α β : Type} : ∀ (a : List α) (b : List β), a.length = b.length → (a.zip b).getLast? = match a.getLast?, b.getLast? with | some x, some y => some (x, y) | _, _ => none
  | [], [], _ => rfl
  | [], _ :: _, h => by cases h
  | _ :: _, [], h => by cases h
  | [x], [y], _ => rfl
  | [x], _ :: _ :: _, h => by simp at h
  | _ :: _ :: _, [y], h => by simp at h
  | x :: x2 :: a, y :: y2 :: b, h => by
    have := zip_last (x2 :: a) (y2 :: b) (by simpa using h)
    simp only [List.zip_cons_cons, List.getLast?_cons_cons] at *
    exact this
theorem endsV_lastN (N : Nat) (hN1 : 1 ≤ N) : (endsV N).getD (mN N - 1) 0 = N := by
  have : 1 ≤ mN N := by unfold mN; omega
  rw [getD_ofI (endsV_at N (mN N - 1) (by omega))]
  have := ends_last N hN1
  omega
theorem standV_len (N : Nat) (l : List Int) (hb : ∀ x ∈ l, 0 ≤ x ∧ x ≤ 1000000000) (hN1 : 1 ≤ N) (hN : N ≤ 16) (h0 : (goodV N l).length ≠ 0) : UpL 0 (mN N) (standV N (goodV N l)) ∧ (standV N (goodV N l)).length = (goodV N l).length := by
  have hG := goodV_ok (N := N) hb
  have q5 : 1 ≤ mN N ∧ mN N ≤ 8 := by unfold mN; omega
  have hB := offG_bd (N := (N : Int)) (m := (goodV N l).length) hG.1 (endsV_bd hN) (by omega)
  have hsv := stnd_up hB (mN N) (mN N - 1) ((goodV N l).length - 1) 0 0 (by have := hG.2; omega) (by have := hG.2; omega) (by omega)
  exact ⟨hsv.1, by unfold standV; rw [List.length_append, hsv.2]; simp; omega⟩
theorem lapsV_last (N : Nat) (l : List Int) (hb : ∀ x ∈ l, 0 ≤ x ∧ x ≤ 1000000000) (hN1 : 1 ≤ N) (hN : N ≤ 16) : (lapsV N l).getLast? = (goodV N l).getLast?.map (fun y => (⟨N, y, false⟩ : LP.Lp)) := by
  unfold lapsV
  by_cases h0 : (goodV N l).length = 0
  · rw [if_pos h0, List.eq_nil_of_length_eq_zero h0]; rfl
  · rw [if_neg h0, lapsP_last, zip_last _ _ (standV_len N l hb hN1 hN h0).2]
    have h1 : (standV N (goodV N l)).getLast? = some (mN N - 1) := by unfold standV; rw [List.getLast?_append]; rfl
    rw [h1]
    cases h : (goodV N l).getLast? with
    | none => exact absurd (by rw [List.getLast?_eq_none_iff.1 h]; rfl) h0
    | some y =>
      show some (⟨(endsV N).getD (mN N - 1) 0, y, false⟩ : LP.Lp) = some ⟨N, y, false⟩
      rw [endsV_lastN N hN1]
theorem lastV_of (L : List LP.Lp) : lastV L = match L.getLast? with | some x => x.time | none => 0 := by
  unfold lastV
  rcases List.eq_nil_or_concat L with rfl | ⟨r, x, rfl⟩
  · rfl
  · simp
theorem lastV_laps (N : Nat) (l : List Int) (hb : ∀ x ∈ l, 0 ≤ x ∧ x ≤ 1000000000) (hN1 : 1 ≤ N) (hN : N ≤ 16) : lastV (lapsV N l) = (goodV N l).getLast?.getD 0 := by
  rw [lastV_of, lapsV_last N l hb hN1 hN]
  cases (goodV N l).getLast? <;> rfl
theorem goodV_sub {P : Int → Prop} {N : Nat} {l : List Int} (h : ∀ x ∈ l, P x) : ∀ x ∈ goodV N l, P x := (cnt_spec (e0 := e0N N) (M := mN N) l [] [] h (fun _ h => by cases h) (Nat.zero_le _)).1
theorem tdL_mem {cl : List Ck} {l : List Sg} {H : Nat} {lane kind : Int} {x : Td} (hx : x ∈ tdL cl l H lane kind) : x.x ∈ l ∧ x.x.kind = kind ∧ x.x.lane = lane := by
  unfold tdL at hx
  have hS : SWO (ltOf tdCf) := by
    refine ⟨fun a => ?_, fun a b c => ?_, fun a b c => ?_⟩ <;> unfold ltOf tdCf Lib.compareInt <;> intros <;> (simp at *) <;> (try omega)
    all_goals (repeat' split at *) <;> (try omega) <;> simp_all <;> omega
  have h1 := (insL_spec hS (lnGo cl (startsV cl l) H lane kind l)).1.subset hx
  have h2 : ∀ (l : List Sg) (S : List Int), x ∈ lnGo cl S H lane kind l → x.x ∈ l ∧ x.x.kind = kind ∧ x.x.lane = lane := by
    intro l S
    induction l with
    | nil => intro h; cases h
    | cons y r ih =>
      intro h
      unfold lnGo at h
      split at h
      · rename_i hc
        rcases List.mem_cons.1 h with rfl | h
        · exact ⟨List.mem_cons_self, hc.1.1, hc.1.2⟩
        · have := ih h; exact ⟨List.mem_cons_of_mem _ this.1, this.2⟩
      · have := ih h; exact ⟨List.mem_cons_of_mem _ this.1, this.2⟩
  exact h2 _ _ h1
theorem sg1_watch {x : Sg} (h : sg1 x = 0) (hk : x.kind = 4) : 1 ≤ x.time ∧ x.time ≤ 360000 := by
  by_cases hq : 1 ≤ x.time ∧ x.time ≤ 360000
  · exact hq
  · exfalso
    unfold sg1 at h
    repeat' split at h
    all_goals first | (simp at h; done) | (simp_all; done)
theorem wsV_bd {cl : List Ck} {l : List Sg} {H : Nat} {lane : Int} (h : sigErr l = 0) : ∀ y ∈ wsV (tdL cl l H lane 4), 1 ≤ y ∧ y ≤ 360000 := by
  intro y hy
  unfold wsV at hy
  obtain ⟨t, ht, rfl⟩ := List.mem_map.1 hy
  obtain ⟨m1, m2, _⟩ := tdL_mem (List.mem_of_mem_drop ht)
  unfold sigErr at h
  split at h
  · cases h
  · exact sg1_watch (sigGo_ok l _ _ h _ m1) m2
theorem touT_ok {cl : List Ck} {l : List Sg} {N H : Nat} {lane : Int} (h : bothErr cl l = 0) (hN1 : 1 ≤ N) (hN : N ≤ 16) (h1 : 1 ≤ H) (h2 : H ≤ (startsV cl l).length) :
    (0 ≤ (touT cl l N H lane).pad ∧ (touT cl l N H lane).pad ≤ 360000) ∧ (0 ≤ (touT cl l N H lane).btn ∧ (touT cl l N H lane).btn ≤ 360000) ∧ (touT cl l N H lane).ws.length ≤ 3 ∧ ∀ y ∈ (touT cl l N H lane).ws, 1 ≤ y ∧ y ≤ 360000 := by
  have hs : sigErr l = 0 := by
    unfold bothErr at h
    split at h
    · rename_i h1; exact absurd h h1
    · exact h
  have htb : ∀ x ∈ touV cl l H lane, 0 ≤ x ∧ x ≤ 360000 := fun x hx => ⟨touV_ge cl l H lane h1 h2 x hx, touV_le cl l H lane x hx⟩
  refine ⟨?_, ?_, wsV_len _, wsV_bd hs⟩
  · show 0 ≤ lastV (lapsV N (touV cl l H lane)) ∧ lastV (lapsV N (touV cl l H lane)) ≤ 360000
    rw [lastV_laps N _ (fun x hx => ⟨(htb x hx).1, by have := (htb x hx).2; omega⟩) hN1 hN]
    cases h : (goodV N (touV cl l H lane)).getLast? with
    | none => exact ⟨Int.le_refl _, by simp⟩
    | some y => exact goodV_sub htb y (List.mem_of_getLast? h)
  · show 0 ≤ btnV _ _ ∧ btnV _ _ ≤ 360000
    unfold btnV
    repeat' split
    all_goals omega
theorem touchErr_ok {x : Tc} (h1 : 0 ≤ x.pad ∧ x.pad ≤ 360000) (h2 : 0 ≤ x.btn ∧ x.btn ≤ 360000) (h3 : x.ws.length ≤ 3) (h4 : ∀ y ∈ x.ws, 1 ≤ y ∧ y ≤ 360000) : touchErr x = 0 := by
  unfold touchErr
  rw [if_neg (by unfold tOkP; rw [decide_eq_true h1]; simp), if_neg (by unfold tOkP; rw [decide_eq_true h2]; simp)]
  unfold watchErr
  rw [if_neg (by omega), if_neg]
  simp only [List.any_eq_true, not_exists, not_and]
  intro y hy
  unfold badW
  rw [decide_eq_true (h4 y hy)]; simp
theorem heatGo_zero : ∀ {l : List Tc}, (∀ x ∈ l, touchErr x = 0) → heatGo l = 0
  | [], _ => rfl
  | x :: r, h => by
    unfold heatGo
    rw [if_neg (by simp [h x List.mem_cons_self])]
    exact heatGo_zero (fun y hy => h y (List.mem_cons_of_mem _ hy))
theorem heatErr_zero {l : List Tc} (hl : l.length ≤ 10) (h : ∀ x ∈ l, touchErr x = 0) : heatErr l = 0 := by
  unfold heatErr; rw [if_neg (by omega)]; exact heatGo_zero h
end Go.Proofs.YtpepdkgkdbnakaaGreatDoor
