/- Which ends touches stand at: the least sum, found in two ways; the laps from it. PLAIN (no program). -/
namespace Go.Proofs.YtdbfcneeiiialaaGreatDoor
namespace LP
/-- a choice with its sum -/
abbrev Ch := Int × List Nat
def better : Option Ch → Option Ch → Option Ch
  | none, b => b
  | some x, none => some x
  | some x, some y => if x.1 ≤ y.1 then some x else some y
/-- the first of the least choices: left touches from t on, ends from e on, f of them but the last -/
def bst (off : Nat → Nat → Int) : Nat → Nat → Nat → Nat → Option Ch
  | _, 0, _, _ => some (0, [])
  | 0, _ + 1, _, _ => none
  | f + 1, d + 1, t, e => better ((bst off f d (t + 1) (e + 1)).map (fun c => (off t e + c.1, e :: c.2))) (bst off f (d + 1) t (e + 1))
def lst (off : Nat → Nat → Int) : Nat → Nat → Nat → Nat → Int
  | _, 0, _, _ => 0
  | 0, _ + 1, _, _ => 1125899906842624
  | f + 1, d + 1, t, e => if f + 1 < d + 1 then 1125899906842624 else min (off t e + lst off f d (t + 1) (e + 1)) (lst off f (d + 1) t (e + 1))
def stnd (off : Nat → Nat → Int) : Nat → Nat → Nat → Nat → List Nat
  | _, 0, _, _ => []
  | 0, _ + 1, _, _ => []
  | f + 1, d + 1, t, e => if off t e + lst off f d (t + 1) (e + 1) = lst off (f + 1) (d + 1) t e then e :: stnd off f d (t + 1) (e + 1) else stnd off f (d + 1) t (e + 1)
theorem bst_none (off : Nat → Nat → Int) : ∀ f d t e, bst off f d t e = none ↔ f < d
  | f, 0, t, e => by unfold bst; simp
  | 0, d + 1, t, e => by unfold bst; simp
  | f + 1, d + 1, t, e => by
    have h1 := bst_none off f d (t + 1) (e + 1)
    have h2 := bst_none off f (d + 1) t (e + 1)
    unfold bst
    cases ha : bst off f d (t + 1) (e + 1) with
    | none =>
      have := h1.1 ha
      simp only [Option.map_none, better]
      rw [h2]; omega
    | some x =>
      have hn : ¬ f < d := fun h => by rw [h1.2 h] at ha; cases ha
      cases hb : bst off f (d + 1) t (e + 1) with
      | none => simp only [Option.map_some, better]; simp; omega
      | some y => simp only [Option.map_some, better]; split <;> simp <;> omega
theorem bst_bd {off : Nat → Nat → Int} (B : Int) (hB : ∀ t e, 0 ≤ off t e ∧ off t e ≤ B) : ∀ f d t e x, bst off f d t e = some x → 0 ≤ x.1 ∧ x.1 ≤ d * B
  | f, 0, t, e, x, h => by unfold bst at h; injection h with h; subst h; simp
  | 0, d + 1, t, e, x, h => by unfold bst at h; cases h
  | f + 1, d + 1, t, e, x, h => by
    have h1 := bst_bd B hB f d (t + 1) (e + 1)
    have h2 := bst_bd B hB f (d + 1) t (e + 1)
    have hb := hB t e
    have hm : ((d + 1 : Nat) : Int) * B = d * B + B := by rw [Int.natCast_add, Int.add_mul]; simp
    unfold bst at h
    cases ha : bst off f d (t + 1) (e + 1) with
    | none => rw [ha] at h; exact h2 x h
    | some y =>
      rw [ha] at h
      have h1' := h1 y ha
      cases hc : bst off f (d + 1) t (e + 1) with
      | none => rw [hc] at h; simp only [Option.map_some, better] at h; injection h with h; subst h; simp only; omega
      | some z =>
        rw [hc] at h
        have h2' := h2 z hc
        simp only [Option.map_some, better] at h
        split at h <;> (injection h with h; subst h)
        · simp only; omega
        · exact h2'
theorem lst_bst {off : Nat → Nat → Int} (hB : ∀ t e, 0 ≤ off t e ∧ off t e ≤ 1099511627776) : ∀ f d t e, d ≤ 100 → lst off f d t e = match bst off f d t e with | none => 1125899906842624 | some x => x.1
  | f, 0, t, e, hd => by unfold lst bst; rfl
  | 0, d + 1, t, e, hd => by unfold lst bst; rfl
  | f + 1, d + 1, t, e, hd => by
    have h1 := lst_bst hB f d (t + 1) (e + 1) (by omega)
    have h2 := lst_bst hB f (d + 1) t (e + 1) hd
    have n1 := bst_none off f d (t + 1) (e + 1)
    have n2 := bst_none off f (d + 1) t (e + 1)
    have n3 := bst_none off (f + 1) (d + 1) t e
    unfold lst
    by_cases hlt : f + 1 < d + 1
    · rw [if_pos hlt, n3.2 hlt]
    · rw [if_neg hlt]
      have hb := hB t e
      cases ha : bst off f d (t + 1) (e + 1) with
      | none => have := n1.1 ha; omega
      | some y =>
        have hy := bst_bd _ hB _ _ _ _ _ ha
        rw [ha] at h1
        have e3 : bst off (f + 1) (d + 1) t e = better (some (off t e + y.1, e :: y.2)) (bst off f (d + 1) t (e + 1)) := by
          rw [bst, ha]; rfl
        rw [e3, h1, h2]
        have hdB : (d : Int) * 1099511627776 ≤ 99 * 1099511627776 := Int.mul_le_mul_of_nonneg_right (by omega) (by omega)
        cases hc : bst off f (d + 1) t (e + 1) with
        | none =>
          simp only [better]
          rw [Int.min_def, if_pos (by omega)]
        | some z =>
          simp only [better]
          by_cases h9 : off t e + y.1 ≤ z.1
          · rw [Int.min_def, if_pos h9, if_pos h9]
          · rw [Int.min_def, if_neg h9, if_neg h9]
theorem stnd_bst {off : Nat → Nat → Int} (hB : ∀ t e, 0 ≤ off t e ∧ off t e ≤ 1099511627776) : ∀ f d t e x, d ≤ 100 → bst off f d t e = some x → stnd off f d t e = x.2
  | f, 0, t, e, x, hd, h => by unfold bst at h; injection h with h; subst h; unfold stnd; rfl
  | 0, d + 1, t, e, x, hd, h => by unfold bst at h; cases h
  | f + 1, d + 1, t, e, x, hd, h => by
    have l1 := lst_bst hB f d (t + 1) (e + 1) (by omega)
    have l3 := lst_bst hB (f + 1) (d + 1) t e hd
    have i1 := stnd_bst hB f d (t + 1) (e + 1)
    have i2 := stnd_bst hB f (d + 1) t (e + 1)
    have n1 := bst_none off f d (t + 1) (e + 1)
    have n3 := bst_none off (f + 1) (d + 1) t e
    rw [h] at l3
    unfold stnd
    rw [l3, l1]
    have hb := hB t e
    rw [bst] at h
    cases ha : bst off f d (t + 1) (e + 1) with
    | none =>
      have := n1.1 ha
      have h9 := n3.2 (by omega)
      rw [bst] at h9
      rw [h9] at h; cases h
    | some y =>
      rw [ha] at h
      simp only [Option.map_some] at h
      cases hc : bst off f (d + 1) t (e + 1) with
      | none =>
        rw [hc] at h; simp only [better] at h; injection h with h; subst h
        rw [if_pos rfl, i1 y (by omega) ha]
      | some z =>
        rw [hc] at h; simp only [better] at h
        split at h
        · injection h with h; subst h
          rw [if_pos rfl, i1 y (by omega) ha]
        · rename_i h9
          injection h with h; subst h
          rw [if_neg (by simp only; omega), i2 z hd hc]
/-- the reference's state: the best choice so far and its sum -/
abbrev Best := List Int × Int
def upd (st : Best) (l : List Int) (s : Int) : Best := if st.2 < 0 ∨ s < st.2 then (l, s) else st
/-- the reference tries all choices in order -/
def tr (off : Nat → Nat → Int) (ends : List Int) (n : Int) : Nat → Nat → Nat → Nat → List Int → Int → Best → Best
  | _, 0, _, _, at_, sum, st => upd st (at_ ++ [n]) sum
  | 0, _ + 1, _, _, _, _, st => st
  | f + 1, d + 1, t, e, at_, sum, st => tr off ends n f (d + 1) t (e + 1) at_ sum (tr off ends n f d (t + 1) (e + 1) (at_ ++ [ends.getD e 0]) (sum + off t e) st)
theorem tr_bst {off : Nat → Nat → Int} (hB : ∀ t e, 0 ≤ off t e) (ends : List Int) (n : Int) : ∀ f d t e (at_ : List Int) (sum : Int) (st : Best), 0 ≤ sum →
    tr off ends n f d t e at_ sum st = match bst off f d t e with | none => st | some x => upd st (at_ ++ x.2.map (fun k => ends.getD k 0) ++ [n]) (sum + x.1)
  | f, 0, t, e, at_, sum, st, hs => by unfold tr bst; simp
  | 0, d + 1, t, e, at_, sum, st, hs => by unfold tr bst; rfl
  | f + 1, d + 1, t, e, at_, sum, st, hs => by
    have hb := hB t e
    have i1 := tr_bst hB ends n f d (t + 1) (e + 1) (at_ ++ [ends.getD e 0]) (sum + off t e) st (by omega)
    have i2 := fun st' => tr_bst hB ends n f (d + 1) t (e + 1) at_ sum st' hs
    unfold tr bst
    rw [i1, i2]
    have pos : ∀ f d t e x, bst off f d t e = some x → 0 ≤ x.1 := by
      intro f
      induction f with
      | zero => intro d t e x h; cases d <;> (unfold bst at h; cases h; try simp)
      | succ f ih =>
        intro d t e x h
        cases d with
        | zero => unfold bst at h; injection h with h; subst h; simp
        | succ d =>
          unfold bst at h
          cases ha : bst off f d (t + 1) (e + 1) with
          | none => rw [ha] at h; exact ih _ _ _ _ h
          | some y =>
            have q1 := ih _ _ _ _ ha
            have q2 := hB t e
            cases hc : bst off f (d + 1) t (e + 1) with
            | none => rw [ha, hc] at h; simp only [Option.map_some, better] at h; injection h with h; subst h; simp only; omega
            | some z =>
              rw [ha, hc] at h; simp only [Option.map_some, better] at h
              split at h <;> (injection h with h; subst h)
              · simp only; omega
              · exact ih _ _ _ _ hc
    cases ha : bst off f d (t + 1) (e + 1) with
    | none => simp only [Option.map_none, better]
    | some y =>
      have py := pos _ _ _ _ _ ha
      cases hc : bst off f (d + 1) t (e + 1) with
      | none => simp [better, Int.add_assoc]
      | some z =>
        have pz := pos _ _ _ _ _ hc
        simp only [Option.map_some, better]
        have e1 : at_ ++ [ends.getD e 0] ++ y.2.map (fun k => ends.getD k 0) ++ [n] = at_ ++ (e :: y.2).map (fun k => ends.getD k 0) ++ [n] := by simp
        rw [e1]
        unfold upd
        by_cases c1 : st.2 < 0 ∨ sum + off t e + y.1 < st.2
        · rw [if_pos c1]
          simp only
          by_cases c2 : off t e + y.1 ≤ z.1
          · rw [if_pos c2, if_neg (by omega)]
            simp only
            rw [if_pos (by omega)]
            rw [Int.add_assoc]
          · rw [if_neg c2, if_pos (by omega)]
            simp only
            rw [if_pos (by omega)]
        · rw [if_neg c1]
          by_cases c2 : off t e + y.1 ≤ z.1
          · rw [if_pos c2]
            simp only
            rw [if_neg (by omega), if_neg (by omega)]
          · rw [if_neg c2]
/-- what both find: the numbers of the ends -/
theorem stand_same {off : Nat → Nat → Int} (hB : ∀ t e, 0 ≤ off t e ∧ off t e ≤ 1099511627776) (ends : List Int) (n : Int) (f d : Nat) (hd : d ≤ 100) (hf : d ≤ f) :
    (tr off ends n f d 0 0 [] 0 ([], -1)).1 = (stnd off f d 0 0).map (fun k => ends.getD k 0) ++ [n] := by
  rw [tr_bst (fun t e => (hB t e).1) ends n f d 0 0 [] 0 _ (Int.le_refl 0)]
  cases h : bst off f d 0 0 with
  | none => have := (bst_none off f d 0 0).1 h; omega
  | some x =>
    rw [stnd_bst hB f d 0 0 x hd h]
    have := bst_bd _ hB _ _ _ _ _ h
    simp [upd]
/-- a lap -/
structure Lp where
  length : Int
  time : Int
  filled : Bool
deriving DecidableEq, Inhabited
def fillP (E : List Int) (j x e y : Int) : Nat → Nat → List Lp
  | _, 0 => []
  | i, m + 1 => ⟨E.getD i 0, x + ((y - x) * (E.getD i 0 - j)).tdiv (e - j), true⟩ :: fillP E j x e y (i + 1) m
/-- the laps, from the ends at which touches stand -/
def lapsP (E : List Int) : Int → Int → Nat → List (Nat × Int) → List Lp
  | _, _, _, [] => []
  | j, x, i, (k, y) :: r => fillP E j x (E.getD k 0) y i (k - i) ++ ⟨E.getD k 0, y, false⟩ :: lapsP E (E.getD k 0) y (k + 1) r
/-- the lap at an end, as the reference tells it -/
def refL : List (Int × Int) → Int → Int → Int → Lp
  | [], _, _, k => ⟨k, 0, true⟩
  | (e, y) :: r, j, x, k => if e = k then ⟨k, y, false⟩ else if k < e then ⟨k, x + ((y - x) * (k - j)).tdiv (e - j), true⟩ else refL r e y k
def Inc (E : List Int) : Prop := ∀ a b, a < b → b < E.length → E.getD a 0 < E.getD b 0
def Up : Nat → Nat → List (Nat × Int) → Prop
  | i, M, [] => i = M
  | i, M, (k, _) :: r => i ≤ k ∧ k < M ∧ Up (k + 1) M r
def prs (E : List Int) (ps : List (Nat × Int)) : List (Int × Int) := ps.map (fun p => (E.getD p.1 0, p.2))
theorem drop_get {E : List Int} {i : Nat} (h : i < E.length) : E.drop i = E.getD i 0 :: E.drop (i + 1) := by
  rw [List.drop_eq_getElem_cons h, List.getD_eq_getElem?_getD, List.getElem?_eq_getElem h]; rfl
theorem laps_ref (E : List Int) (hE : Inc E) : ∀ (ps : List (Nat × Int)) (j x : Int) (i : Nat), Up i E.length ps → (E.drop i).map (refL (prs E ps) j x) = lapsP E j x i ps
  | [], j, x, i, h => by
    have h : i = E.length := h
    rw [List.drop_eq_nil_of_le (by omega)]; rfl
  | (k, y) :: r, j, x, i, h => by
    obtain ⟨h1, h2, h3⟩ := h
    have hin : ∀ m i, i + m = k → (E.drop i).map (refL (prs E ((k, y) :: r)) j x) = fillP E j x (E.getD k 0) y i m ++ (E.drop k).map (refL (prs E ((k, y) :: r)) j x) := by
      intro m
      induction m with
      | zero => intro i hi; obtain rfl : i = k := by omega
                rfl
      | succ m ih =>
        intro i hi
        have hlt := hE i k (by omega) h2
        rw [drop_get (by omega), List.map_cons, ih (i + 1) (by omega)]
        have : refL (prs E ((k, y) :: r)) j x (E.getD i 0) = ⟨E.getD i 0, x + ((y - x) * (E.getD i 0 - j)).tdiv (E.getD k 0 - j), true⟩ := by
          show (if E.getD k 0 = E.getD i 0 then _ else if E.getD i 0 < E.getD k 0 then _ else _) = _
          rw [if_neg (by omega), if_pos hlt]
        rw [this]; rfl
    rw [hin (k - i) i (by omega)]
    unfold lapsP
    congr 1
    rw [drop_get h2, List.map_cons]
    have e1 : refL (prs E ((k, y) :: r)) j x (E.getD k 0) = ⟨E.getD k 0, y, false⟩ := by
      show (if E.getD k 0 = E.getD k 0 then _ else _) = _
      rw [if_pos rfl]
    rw [e1]
    congr 1
    rw [← laps_ref E hE r (E.getD k 0) y (k + 1) h3]
    apply List.map_congr_left
    intro z hz
    obtain ⟨q, hq, rfl⟩ := List.mem_iff_getElem.1 hz
    rw [List.length_drop] at hq
    rw [List.getElem_drop]
    have h9 := hE k (k + 1 + q) (by omega) (by omega)
    have e2 : E.getD (k + 1 + q) 0 = E[k + 1 + q] := by rw [List.getD_eq_getElem?_getD, List.getElem?_eq_getElem (by omega)]; rfl
    rw [e2] at h9
    show (if E.getD k 0 = E[k + 1 + q] then _ else if E[k + 1 + q] < E.getD k 0 then _ else _) = _
    rw [if_neg (by omega), if_neg (by omega)]
    rfl
/-- the last end ahead, and its time -/
def pv (k : Int) : Int × Int → List (Int × Int) → Int × Int
  | s, [] => s
  | s, p :: r => if p.1 < k then pv k p r else pv k s r
def nx (k : Int) : List (Int × Int) → Option (Int × Int)
  | [] => none
  | p :: r => if k < p.1 then some p else nx k r
theorem pv_far {k : Int} : ∀ {l : List (Int × Int)} {s}, (∀ p ∈ l, ¬ p.1 < k) → pv k s l = s
  | [], _, _ => rfl
  | p :: r, s, h => by
    unfold pv
    rw [if_neg (h p (by simp)), pv_far (fun q hq => h q (List.mem_cons_of_mem _ hq))]
theorem refL_far : ∀ (ps : List (Int × Int)) (j x k : Int), ps.Pairwise (fun a b => a.1 < b.1) → (∀ p ∈ ps, p.1 ≠ k) → ∀ q, nx k ps = some q →
    refL ps j x k = ⟨k, (pv k (j, x) ps).2 + ((q.2 - (pv k (j, x) ps).2) * (k - (pv k (j, x) ps).1)).tdiv (q.1 - (pv k (j, x) ps).1), true⟩
  | [], _, _, _, _, _, q, h => by cases h
  | (e, y) :: r, j, x, k, hp, hne, q, h => by
    have he : e ≠ k := hne (e, y) (by simp)
    rw [List.pairwise_cons] at hp
    unfold refL
    rw [if_neg he]
    unfold nx at h
    by_cases hk : k < e
    · rw [if_pos hk] at h ⊢
      injection h with h
      subst h
      have : pv k (j, x) ((e, y) :: r) = (j, x) := pv_far (fun p hp' => by
        rcases List.mem_cons.1 hp' with rfl | h1
        · simp only; omega
        · have := hp.1 p h1; simp only at this; omega)
      rw [this]
    · rw [if_neg hk] at h ⊢
      have e1 : pv k (j, x) ((e, y) :: r) = pv k (e, y) r := by
        show (if e < k then _ else _) = _
        rw [if_pos (by omega)]
      rw [e1]
      exact refL_far r e y k hp.2 (fun p hp' => hne p (List.mem_cons_of_mem _ hp')) q h
theorem refL_at : ∀ (ps : List (Int × Int)) (j x k y : Int), ps.Pairwise (fun a b => a.1 < b.1) → (k, y) ∈ ps → refL ps j x k = ⟨k, y, false⟩
  | [], _, _, _, _, _, h => by cases h
  | (e, z) :: r, j, x, k, y, hp, h => by
    rw [List.pairwise_cons] at hp
    unfold refL
    rcases List.mem_cons.1 h with h1 | h1
    · injection h1 with h1 h2
      subst h1; subst h2
      rw [if_pos rfl]
    · have := hp.1 _ h1
      simp only at this
      rw [if_neg (by omega), if_neg (by omega)]
      exact refL_at r e z k y hp.2 h1
end LP
end Go.Proofs.YtdbfcneeiiialaaGreatDoor
