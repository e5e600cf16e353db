/- The document's order of a swim-off is the program's: plain. -/
import Derived.Test.YtjafcnblgeibpaaGreatDoorDecP
import Derived.Test.YtjafcnblgeibpaaGreatDoorDecO
namespace Go.Proofs.YtjafcnblgeibpaaGreatDoor
open Go.RowKit Go.Shelf Go.Lib Go.Sort
set_option linter.unusedVariables false

theorem seedNodup8 {l : List Sd} (h : seedErr l = 0) : (l.map Sd.who).Nodup := by
  rw [seedErr_ref] at h
  split at h
  · cases h
  · split at h
    · rename_i h2; exact absurd h h2
    · split at h
      · assumption
      · cases h
theorem finL_sorted8 (l : List Sd) : (finL l).Pairwise fun x y => x.time ≤ y.time := by
  have h1 : (ordL l).Pairwise fun x y => ltOf sdCf y x = false := by
    rw [List.pairwise_iff_getElem]
    intro i j hi hj hij
    exact (insL_spec sdSWO l).2 i j _ _ hij (List.getElem?_eq_getElem hi) (List.getElem?_eq_getElem hj)
  have h2 : (finL l).Pairwise fun x y => ltOf sdCf y x = false := h1.filter _
  refine List.Pairwise.imp_of_mem (fun {x y} hx hy hxy => ?_) h2
  have hx0 := (finL_mem.1 hx).2
  have hy0 := (finL_mem.1 hy).2
  rw [sdLt_no] at hxy
  omega
theorem insR_past {lt : Sd → Sd → Bool} {x : Sd} : ∀ (Q P : List Sd), (∀ z ∈ P, lt x z = false) → insR lt x (Q ++ P) = insR lt x Q ++ P
  | [], [], _ => rfl
  | [], z :: P, h => by
    show insR lt x (z :: P) = [x] ++ (z :: P)
    rw [insR_cons, h z (List.mem_cons_self ..)]
    rfl
  | y :: Q, P, h => by
    rw [List.cons_append, insR_cons, insR_cons]
    split
    · rw [insR_past Q P h]; rfl
    · rfl
theorem fold_past {lt : Sd → Sd → Bool} : ∀ (S Q P : List Sd), (∀ x ∈ S, ∀ z ∈ P, lt x z = false) → S.foldl (fun P x => insR lt x P) (Q ++ P) = S.foldl (fun P x => insR lt x P) Q ++ P
  | [], _, _, _ => rfl
  | x :: S, Q, P, h => by
    rw [List.foldl_cons, List.foldl_cons, insR_past Q P (h x (List.mem_cons_self ..))]
    exact fold_past S _ P (fun y hy => h y (List.mem_cons_of_mem _ hy))
/-- two lists of which none of the second comes before one of the first are sorted each by itself -/
theorem insL_two {lt : Sd → Sd → Bool} {S1 S2 : List Sd} (h : ∀ x ∈ S1, ∀ y ∈ S2, lt y x = false) : insL lt (S1 ++ S2) = insL lt S1 ++ insL lt S2 := by
  rw [insL_fold, insL_fold, insL_fold, List.foldl_append]
  have hm : ∀ z ∈ S1.foldl (fun P x => insR lt x P) [], z ∈ S1 := fun z hz => by
    have := (insL_memG (lt := lt) (l := S1) (x := z)).1 (by rw [insL_fold, List.mem_reverse]; exact hz)
    exact this
  have h2 := fold_past (lt := lt) S2 [] (S1.foldl (fun P x => insR lt x P) []) (fun x hx z hz => h z (hm z hz) x hx)
  rw [List.nil_append] at h2
  rw [h2, List.reverse_append]
theorem insL_nil8 {lt : Sd → Sd → Bool} : insL lt ([] : List Sd) = [] := List.eq_nil_of_length_eq_zero (by rw [insL_len]; rfl)
theorem insL_id {lt : Sd → Sd → Bool} : ∀ {S : List Sd}, (∀ x ∈ S, ∀ y ∈ S, lt y x = false) → insL lt S = S
  | [], _ => insL_nil8
  | x :: S, h => by
    have h1 := insL_two (lt := lt) (S1 := [x]) (S2 := S) (fun a ha b hb => by
      obtain rfl := List.mem_singleton.1 ha
      exact h a (List.mem_cons_self ..) b (List.mem_cons_of_mem _ hb))
    rw [List.singleton_append] at h1
    rw [h1, insL_id (fun a ha b hb => h a (List.mem_cons_of_mem _ ha) b (List.mem_cons_of_mem _ hb))]
    have h2 : insL lt [x] = [x] := by rw [insL_fold]; rfl
    rw [h2]
    rfl
theorem ci_neg8 {a b : Int} : Lib.compareInt a b < 0 ↔ a < b := by unfold Lib.compareInt; split <;> (try split) <;> simp <;> omega
theorem ci_zero8 {a b : Int} : Lib.compareInt a b = 0 ↔ a = b := by unfold Lib.compareInt; split <;> (try split) <;> simp <;> omega
theorem timeAt_keep (s : ByteArray) : ∀ (v : List Sd) (f : Int), (∀ y ∈ v, y.who ≠ s) → v.foldl (fun f x => if x.who = s then x.time else f) f = f
  | [], _, _ => rfl
  | y :: r, f, h => by
    rw [List.foldl_cons, if_neg (h y (List.mem_cons_self ..))]
    exact timeAt_keep s r f (fun z hz => h z (List.mem_cons_of_mem _ hz))
theorem agV_none (s : ByteArray) : ∀ (v : List Sd), (∀ y ∈ v, y.who ≠ s) → agV v s = 360001
  | [], _ => rfl
  | y :: r, h => by
    show (if y.who = s ∧ 0 < y.time then y.time else agV r s) = 360001
    rw [if_neg (fun h9 => h y (List.mem_cons_self ..) h9.1)]
    exact agV_none s r (fun z hz => h z (List.mem_cons_of_mem _ hz))
theorem agV_time (s : ByteArray) : ∀ (off : List Sd) (f : Int), (off.map Sd.who).Nodup → (∀ x ∈ off, 0 ≤ x.time) → (∀ x ∈ off, x.who = s → True) →
    agV off s = (if ∃ x ∈ off, x.who = s then (if off.foldl (fun f x => if x.who = s then x.time else f) f = 0 then 360001 else off.foldl (fun f x => if x.who = s then x.time else f) f) else 360001)
  | [], f, _, _, _ => by simp [agV]
  | x :: r, f, hn, h0, _ => by
    rw [List.map_cons, List.nodup_cons] at hn
    have hx0 := h0 x (List.mem_cons_self ..)
    show (if x.who = s ∧ 0 < x.time then x.time else agV r s) = _
    by_cases hs : x.who = s
    · have hr : ∀ y ∈ r, y.who ≠ s := fun y hy e => hn.1 (by rw [hs, ← e]; exact List.mem_map_of_mem hy)
      rw [if_pos (show ∃ y ∈ x :: r, y.who = s from ⟨x, List.mem_cons_self .., hs⟩), List.foldl_cons, if_pos hs, timeAt_keep s r _ hr]
      by_cases ht : 0 < x.time
      · rw [if_pos ⟨hs, ht⟩, if_neg (by omega)]
      · rw [if_neg (fun h => ht h.2), agV_none s r hr, if_pos (by omega)]
    · rw [if_neg (fun h => hs h.1), agV_time s r f hn.2 (fun y hy => h0 y (List.mem_cons_of_mem _ hy)) (fun _ _ _ => trivial), List.foldl_cons, if_neg hs]
      have e : (∃ y ∈ x :: r, y.who = s) ↔ ∃ y ∈ r, y.who = s := by
        constructor
        · rintro ⟨y, hy, h⟩
          rcases List.mem_cons.1 hy with rfl | hy
          · exact absurd h hs
          · exact ⟨y, hy, h⟩
        · rintro ⟨y, hy, h⟩
          exact ⟨y, List.mem_cons_of_mem _ hy, h⟩
      by_cases h : ∃ y ∈ r, y.who = s
      · rw [if_pos h, if_pos (e.2 h)]
      · rw [if_neg h, if_neg (fun h' => h (e.1 h'))]
theorem timeAt_none {off : List Sd} {s : ByteArray} (h : ¬ ∃ x ∈ off, x.who = s) : timeAt off s = 0 := timeAt_keep s off 0 (fun y hy e => h ⟨y, hy, e⟩)
theorem timeAt_bd {off : List Sd} (h0 : ∀ x ∈ off, 0 ≤ x.time ∧ x.time ≤ 360000) (s : ByteArray) : 0 ≤ timeAt off s ∧ timeAt off s ≤ 360000 := by
  unfold timeAt
  have h : ∀ (v : List Sd) (f : Int), (∀ x ∈ v, 0 ≤ x.time ∧ x.time ≤ 360000) → (0 ≤ f ∧ f ≤ 360000) → 0 ≤ v.foldl (fun f x => if x.who = s then x.time else f) f ∧ v.foldl (fun f x => if x.who = s then x.time else f) f ≤ 360000 := by
    intro v
    induction v with
    | nil => intro f _ hf; exact hf
    | cons x r ih =>
      intro f h hf
      rw [List.foldl_cons]
      refine ih _ (fun y hy => h y (List.mem_cons_of_mem _ hy)) ?_
      split
      · exact h x (List.mem_cons_self ..)
      · exact hf
  exact h off 0 h0 ⟨by omega, by omega⟩
theorem ag_cmp {off : List Sd} (he : seedErr off = 0) (s t : ByteArray) : (Lib.compareInt (agV off s) (agV off t) < 0) ↔ (tmCf (timeAt off s) (timeAt off t) < 0) := by
  have hn := seedNodup8 he
  obtain ⟨_, ho⟩ := seedErr_ok he
  have h0 : ∀ x ∈ off, 0 ≤ x.time ∧ x.time ≤ 360000 := fun x hx => (ho x hx).2
  have key : ∀ s, agV off s = if timeAt off s = 0 then 360001 else timeAt off s := fun s => by
    rw [agV_time s off 0 hn (fun x hx => (h0 x hx).1) (fun _ _ _ => trivial)]
    show (if ∃ x ∈ off, x.who = s then (if timeAt off s = 0 then 360001 else timeAt off s) else 360001) = _
    by_cases h : ∃ x ∈ off, x.who = s
    · rw [if_pos h]
    · rw [if_neg h, if_pos (timeAt_none h)]
  rw [key s, key t, ci_neg8]
  have b1 := timeAt_bd h0 s
  have b2 := timeAt_bd h0 t
  generalize timeAt off s = a at *
  generalize timeAt off t = b at *
  unfold tmCf
  by_cases ha : a = 0
  · rw [if_pos ha, if_pos ha]
    by_cases hb : b = 0
    · rw [if_pos hb, if_pos hb]; simp
    · rw [if_neg hb, if_neg hb]; constructor <;> intro h <;> omega
  · rw [if_neg ha, if_neg ha]
    by_cases hb : b = 0
    · rw [if_pos hb, if_pos hb]; constructor <;> intro h <;> omega
    · rw [if_neg hb, if_neg hb, ci_neg8]
theorem run_same8 {t : Int} : ∀ {l : List Sd} {x : Sd}, x ∈ l.take (runN t l) → x.time = t
  | [], x, h => by simp at h
  | y :: r, x, h => by
    unfold runN at h
    split at h
    · rename_i ht
      rw [List.take_succ_cons] at h
      rcases List.mem_cons.1 h with rfl | h
      · exact ht
      · exact run_same8 h
    · simp at h
theorem runE_same8 {L : List Sd} {i : Nat} {y : Sd} (hy : L[i]? = some y) {x : Sd} (h : x ∈ (L.drop i).take (runE L i - i)) : x.time = y.time := by
  rw [drop_at hy, runE_at hy, show i + 1 + runN y.time (L.drop (i + 1)) - i = runN y.time (L.drop (i + 1)) + 1 by omega, List.take_succ_cons] at h
  rcases List.mem_cons.1 h with rfl | h
  · rfl
  · exact run_same8 h
/-- who is faster than the end of a run is in it -/
theorem run_after {L : List Sd} (hs : L.Pairwise fun x y => x.time ≤ y.time) {i : Nat} {x y : Sd} (hi : i < L.length) (hx : x ∈ (L.drop i).take (runE L i - i)) (hy : y ∈ L.drop (runE L i)) : x.time < y.time := by
  obtain ⟨z, hz⟩ := at_of_lt hi
  have hxz := runE_same8 hz hx
  have hgt := runE_gt L i
  obtain ⟨j, hj⟩ := List.getElem?_of_mem hy
  rw [List.getElem?_drop] at hj
  have hjl := lt_of_at hj
  have hEl : runE L i < L.length := by omega
  obtain ⟨e, he⟩ := at_of_lt hEl
  have h1 : e.time ≠ z.time := by
    intro h
    have h2 := runE_at hz
    have h3 := runN_same (L := L) (q := runE L i) he h
    have h4 : ∀ (l : List Sd) (t : Int), runN t (l.drop (runN t l)) = 0 := by
      intro l t
      induction l with
      | nil => simp [runN]
      | cons a r ih =>
        by_cases ha : a.time = t
        · rw [show runN t (a :: r) = if a.time = t then runN t r + 1 else 0 from rfl, if_pos ha, List.drop_succ_cons]; exact ih
        · rw [show runN t (a :: r) = if a.time = t then runN t r + 1 else 0 from rfl, if_neg ha, List.drop_zero, show runN t (a :: r) = if a.time = t then runN t r + 1 else 0 from rfl, if_neg ha]
    have h5 := h4 (L.drop (i + 1)) z.time
    rw [List.drop_drop, ← h2] at h5
    omega
  rw [List.pairwise_iff_getElem] at hs
  have hz' := List.getElem?_eq_some_iff.1 hz
  have he' := List.getElem?_eq_some_iff.1 he
  have hj' := List.getElem?_eq_some_iff.1 hj
  have h2 := hs i (runE L i) hi hEl hgt
  rw [hz'.2, he'.2] at h2
  have h3 : e.time ≤ y.time := by
    rcases Nat.eq_zero_or_pos j with h0 | h0
    · subst h0
      rw [Nat.add_zero, he] at hj
      obtain rfl := Option.some.inj hj
      exact Int.le_refl _
    · have h4 := hs (runE L i) (runE L i + j) hEl hjl (by omega)
      rw [he'.2, hj'.2] at h4
      exact h4
  omega
theorem nodup_at {N : List ByteArray} (hn : N.Nodup) {i j : Nat} {s : ByteArray} (hi : N[i]? = some s) (hj : N[j]? = some s) : i = j := by
  have a := List.getElem?_eq_some_iff.1 hi
  have b := List.getElem?_eq_some_iff.1 hj
  have h := List.pairwise_iff_getElem.1 hn
  rcases Nat.lt_trichotomy i j with h1 | h1 | h1
  · exact absurd (a.2.trans b.2.symm) (h i j a.1 b.1 h1)
  · exact h1
  · exact absurd (b.2.trans a.2.symm) (h j i b.1 a.1 h1)
theorem nms_at {L : List Sd} {g : Nat × Nat} {s : ByteArray} (h : s ∈ nmsOf L g) : ∃ k : Nat, g.1 ≤ k ∧ k < g.2 ∧ (L.map Sd.who)[k]? = some s := by
  unfold nmsOf at h
  obtain ⟨x, hx, rfl⟩ := List.mem_map.1 h
  obtain ⟨j, hj⟩ := List.getElem?_of_mem hx
  have hjl := lt_of_at hj
  rw [List.length_take] at hjl
  rw [List.getElem?_take_of_lt (by omega), List.getElem?_drop] at hj
  exact ⟨g.1 + j, by omega, by omega, by rw [List.getElem?_map, hj]; rfl⟩
theorem seg_at {L : List Sd} {i e : Nat} {x : Sd} (h : x ∈ (L.drop i).take (e - i)) : ∃ k : Nat, i ≤ k ∧ k < e ∧ (L.map Sd.who)[k]? = some x.who := nms_at (L := L) (g := (i, e)) (List.mem_map_of_mem h)
theorem ltR_late {G : List (List ByteArray)} {off : List Sd} {x y : Sd} (h : x.time < y.time) : ltOf (rfCf G off) y x = false := by
  have h1 : ¬ Lib.compareInt y.time x.time < 0 := fun h2 => by rw [ci_neg8] at h2; omega
  have h2 : Lib.compareInt y.time x.time ≠ 0 := fun h3 => by rw [ci_zero8] at h3; omega
  show decide (rfCf G off y x < 0) = false
  unfold rfCf
  rw [if_pos h2]
  exact decide_eq_false h1
theorem dec_step {f : Fl} {off L : List Sd} (hn : (L.map Sd.who).Nodup) (hs : L.Pairwise fun x y => x.time ≤ y.time) (he : seedErr off = 0) : ∀ (i : Nat) (acc : List Sd), acc.length = L.length → acc.drop i = L.drop i → (∀ g ∈ grpL f L 0, g.2 ≤ i ∨ g ∈ grpL f L i) → (∀ g ∈ grpL f L i, g ∈ grpL f L 0) →
    (grpL f L i).foldl (sortG (timeAt off)) acc = acc.take i ++ insL (ltOf (rfCf ((grpL f L 0).map (nmsOf L)) off)) (L.drop i) := by
  intro i acc hl hd h1 h2
  by_cases hi : i < L.length
  · have hgt := runE_gt L i
    have hle := runE_le hi
    have hsp : L.drop i = (L.drop i).take (runE L i - i) ++ L.drop (runE L i) := by
      have e : L.drop (runE L i) = (L.drop i).drop (runE L i - i) := by rw [List.drop_drop]; congr 1; omega
      rw [e, List.take_append_drop]
    obtain ⟨z, hz⟩ := at_of_lt hi
    have htw : insL (ltOf (rfCf ((grpL f L 0).map (nmsOf L)) off)) (L.drop i) = insL (ltOf (rfCf ((grpL f L 0).map (nmsOf L)) off)) ((L.drop i).take (runE L i - i)) ++ insL (ltOf (rfCf ((grpL f L 0).map (nmsOf L)) off)) (L.drop (runE L i)) := by
      have h9 := insL_two (lt := ltOf (rfCf ((grpL f L 0).map (nmsOf L)) off)) (S1 := (L.drop i).take (runE L i - i)) (S2 := L.drop (runE L i)) (fun x hx y hy => ltR_late (run_after hs hi hx hy))
      rw [← hsp] at h9
      exact h9
    have hdE : acc.drop (runE L i) = L.drop (runE L i) := by
      have h8 := congrArg (fun l => l.drop (runE L i - i)) hd
      simp only [List.drop_drop] at h8
      rw [show i + (runE L i - i) = runE L i by omega] at h8
      exact h8
    have hil : (acc.take i).length = i := by rw [List.length_take]; omega
    rw [htw, ← List.append_assoc]
    by_cases hc : cls f i ≠ cls f (runE L i - 1)
    · have hg0 : grpL f L i = (i, runE L i) :: grpL f L (runE L i) := by rw [grpL_at hi, if_pos hc]; rfl
      have hmem : (i, runE L i) ∈ grpL f L 0 := h2 _ (by rw [hg0]; exact List.mem_cons_self ..)
      rw [hg0, List.foldl_cons]
      have e9 := sortG_drop (T := timeAt off) (L := acc) (g := (i, runE L i)) (x := runE L i) (by show i ≤ runE L i; omega) (by show runE L i ≤ acc.length; omega) (Nat.le_refl _)
      have ih := dec_step hn hs he (runE L i) (sortG (timeAt off) acc (i, runE L i)) (by rw [sortG_len (by show i ≤ runE L i; omega), hl]) (by rw [e9]; exact hdE)
        (fun g hg => by
          rcases h1 g hg with h | h
          · exact .inl (by omega)
          · rw [hg0] at h
            rcases List.mem_cons.1 h with rfl | h
            · exact .inl (Nat.le_refl _)
            · exact .inr h)
        (fun g hg => h2 g (by rw [hg0]; exact List.mem_cons_of_mem _ hg))
      rw [ih]
      congr 1
      have hseg : insL (ltOf fun x y => tmCf (timeAt off x.who) (timeAt off y.who)) ((L.drop i).take (runE L i - i)) = insL (ltOf (rfCf ((grpL f L 0).map (nmsOf L)) off)) ((L.drop i).take (runE L i - i)) := by
        refine insL_congr (fun x => x ∈ (L.drop i).take (runE L i - i)) (fun x y hx hy => ?_) (fun x hx => hx)
        have ht : Lib.compareInt x.time y.time = 0 := ci_zero8.2 ((runE_same8 hz hx).trans (runE_same8 hz hy).symm)
        have hin : inG ((grpL f L 0).map (nmsOf L)) x.who = true := by
          unfold inG
          rw [List.any_eq_true]
          exact ⟨nmsOf L (i, runE L i), List.mem_map_of_mem hmem, (Lib.containsS_iff _ _).2 (List.mem_map_of_mem hx)⟩
        show decide (tmCf (timeAt off x.who) (timeAt off y.who) < 0) = decide (rfCf ((grpL f L 0).map (nmsOf L)) off x y < 0)
        unfold rfCf
        rw [if_neg (by simpa using ht), if_pos hin]
        exact decide_eq_decide.2 (ag_cmp he x.who y.who).symm
      unfold sortG
      dsimp only
      rw [hd, hseg, ← List.append_assoc]
      have hlen : (acc.take i ++ insL (ltOf (rfCf ((grpL f L 0).map (nmsOf L)) off)) ((L.drop i).take (runE L i - i))).length = runE L i := by
        rw [List.length_append, insL_len, List.length_take, List.length_take, List.length_drop]; omega
      rw [List.take_append_of_le_length (by rw [hlen]; exact Nat.le_refl _), List.take_of_length_le (by rw [hlen]; exact Nat.le_refl _)]
    · have hg0 : grpL f L i = grpL f L (runE L i) := by rw [grpL_at hi, if_neg hc, List.nil_append]
      rw [hg0]
      have ih := dec_step hn hs he (runE L i) acc hl hdE
        (fun g hg => by
          rcases h1 g hg with h | h
          · exact .inl (by omega)
          · rw [hg0] at h; exact .inr h)
        (fun g hg => h2 g (by rw [hg0]; exact hg))
      rw [ih]
      congr 1
      have hno : ∀ y ∈ (L.drop i).take (runE L i - i), inG ((grpL f L 0).map (nmsOf L)) y.who = false := by
        intro y hy
        obtain ⟨k, k0, k1, hk⟩ := seg_at hy
        unfold inG
        rw [List.any_eq_false]
        intro N hN hcon
        obtain ⟨g, hg, rfl⟩ := List.mem_map.1 hN
        obtain ⟨k', a0, a1, hk'⟩ := nms_at ((Lib.containsS_iff _ _).1 hcon)
        obtain rfl := nodup_at hn hk hk'
        rcases h1 g hg with h | h
        · omega
        · rw [hg0] at h
          have := (grpL_bd f L (runE L i) g h).1
          omega
      have hid : insL (ltOf (rfCf ((grpL f L 0).map (nmsOf L)) off)) ((L.drop i).take (runE L i - i)) = (L.drop i).take (runE L i - i) := by
        refine insL_id (fun x hx y hy => ?_)
        have ht : Lib.compareInt y.time x.time = 0 := ci_zero8.2 ((runE_same8 hz hy).trans (runE_same8 hz hx).symm)
        show decide (rfCf ((grpL f L 0).map (nmsOf L)) off y x < 0) = false
        unfold rfCf
        rw [if_neg (by simpa using ht), if_neg (by rw [hno y hy]; simp)]
        rfl
      rw [hid, ← hd]
      have e : runE L i = i + (runE L i - i) := by omega
      rw [e, List.take_add]
      congr 2
      omega
  · rw [grpL_end (by omega), List.foldl_nil, List.drop_of_length_le (by omega), insL_nil8, List.append_nil, List.take_of_length_le (by omega)]
termination_by i => L.length - i
decreasing_by all_goals (have := runE_gt L i; omega)
theorem finL_nodup8 {l : List Sd} (h0 : seedErr l = 0) : ((finL l).map Sd.who).Nodup := by
  have h1 : ((ordL l).map Sd.who).Nodup := (((ord_perm l).map Sd.who).nodup_iff).2 (seedNodup8 h0)
  exact h1.sublist ((List.filter_sublist).map _)
/-- the program's order is the document's -/
theorem dec_ref (f : Fl) {l off : List Sd} (h0 : seedErr l = 0) (he : seedErr off = 0) : decV f (timeAt off) (finL l) = refV f off l := by
  have h := dec_step (f := f) (L := finL l) (finL_nodup8 h0) (finL_sorted8 l) he 0 (finL l) rfl rfl (fun g hg => .inr hg) (fun g hg => hg)
  rw [List.take_zero, List.nil_append, List.drop_zero] at h
  exact h
end Go.Proofs.YtjafcnblgeibpaaGreatDoor
