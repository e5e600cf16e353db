import Derived.Test.YtdbfcneeiiialaaGreatDoorLapG
import Derived.Deep.RegionHeld3
import Derived.Test.YtdbfcneeiiialaaGreatDoorPadF
import Derived.Laws.StructEq
/- tumbref1.PadLaps. -/
namespace Go.Proofs.YtdbfcneeiiialaaGreatDoor
open Go.RowKit Go.Lib
set_option linter.unusedVariables false

theorem idxFrom_cases (x : Int) : ∀ (zs : List Int) (i : Nat), (∃ q, zs[q]? = some x ∧ Lib.idxFrom zs x i = ((i + q : Nat) : Int)) ∨ (Lib.idxFrom zs x i = -1 ∧ ∀ z ∈ zs, z ≠ x)
  | [], i => .inr ⟨rfl, fun _ h => by cases h⟩
  | z :: zs, i => by
    by_cases h : z = x
    · exact .inl ⟨0, by rw [h]; rfl, by simp [Lib.idxFrom, h]⟩
    · rcases idxFrom_cases x zs (i + 1) with ⟨q, h1, h2⟩ | ⟨h1, h2⟩
      · refine .inl ⟨q + 1, by simpa using h1, ?_⟩
        simp only [Lib.idxFrom, if_neg h]
        rw [h2]; congr 1; omega
      · refine .inr ⟨?_, fun y hy => ?_⟩
        · simp only [Lib.idxFrom, if_neg h]; exact h1
        · rcases List.mem_cons.1 hy with rfl | hy
          · exact h
          · exact h2 y hy
theorem idxBy_cases (p : Int → Bool) (d : Int) : ∀ (zs : List Int) (i : Nat), (∃ q y, zs[q]? = some y ∧ p y = true ∧ (∀ j z, j < q → zs[j]? = some z → p z = false) ∧ Lib.idxByFrom (fun _ y => p y) d zs i = ((i + q : Nat) : Int)) ∨ (Lib.idxByFrom (fun _ y => p y) d zs i = -1 ∧ ∀ z ∈ zs, p z = false)
  | [], i => .inr ⟨rfl, fun _ h => by cases h⟩
  | z :: zs, i => by
    by_cases h : p z = true
    · exact .inl ⟨0, z, rfl, h, fun j _ hj => absurd hj (by omega), by simp [Lib.idxByFrom, h]⟩
    · have h' : p z = false := by simpa using h
      rcases idxBy_cases p d zs (i + 1) with ⟨q, y, h1, h2, h3, h4⟩ | ⟨h1, h2⟩
      · refine .inl ⟨q + 1, y, by simpa using h1, h2, fun j u hj hu => ?_, ?_⟩
        · cases j with
          | zero => obtain rfl : z = u := by simpa using hu
                    exact h'
          | succ j => exact h3 j u (by omega) (by simpa using hu)
        · simp only [Lib.idxByFrom, h']
          rw [if_neg (by simp), h4]; congr 1; omega
      · refine .inr ⟨?_, fun y hy => ?_⟩
        · simp only [Lib.idxByFrom, h']
          rw [if_neg (by simp)]; exact h1
        · rcases List.mem_cons.1 hy with rfl | hy
          · exact h'
          · exact h2 y hy
theorem nx_first {k : Int} : ∀ {ps : List (Int × Int)} {q : Nat} {p : Int × Int}, ps[q]? = some p → k < p.1 → (∀ j z, j < q → ps[j]? = some z → ¬ k < z.1) → LP.nx k ps = some p
  | [], _, _, h, _, _ => by simp at h
  | a :: r, 0, p, h, hk, _ => by
    obtain rfl : a = p := by simpa using h
    unfold LP.nx; rw [if_pos hk]
  | a :: r, q + 1, p, h, hk, hf => by
    unfold LP.nx
    rw [if_neg (hf 0 a (by omega) rfl)]
    exact nx_first (by simpa using h) hk (fun j z hj hz => hf (j + 1) z (by omega) (by simpa using hz))
/-- the ends at which touches stand -/
def atV (N : Nat) (G : List Int) : List Int := (standV N G).map fun k => (endsV N).getD k 0
theorem atV_len {N : Nat} {G : List Int} : (atV N G).length = (standV N G).length := by unfold atV; rw [List.length_map]
theorem atV_prs (N : Nat) (G : List Int) : (atV N G).zip G = LP.prs (endsV N) ((standV N G).zip G) := by
  unfold atV LP.prs
  rw [List.zip_map_left]; rfl
theorem upL_up {M : Nat} : ∀ {l : List Nat} {i : Nat} {G : List Int}, UpL i M l → l.length = G.length → LP.Up i M (l.zip G)
  | [], i, G, h, hl => by
    have : G = [] := List.eq_nil_of_length_eq_zero hl.symm
    subst this; exact h
  | k :: r, i, [], h, hl => by cases hl
  | k :: r, i, y :: G, h, hl => ⟨h.1, h.2.1, upL_up h.2.2 (by simpa using hl)⟩
theorem upL_ge {M : Nat} : ∀ {l : List Nat} {i k : Nat}, UpL i M l → k ∈ l → i ≤ k ∧ k < M
  | [], _, _, _, h => by cases h
  | a :: r, i, k, h, hk => by
    rcases List.mem_cons.1 hk with rfl | hk
    · exact ⟨h.1, h.2.1⟩
    · have := upL_ge h.2.2 hk
      exact ⟨by have := h.1; omega, this.2⟩
theorem at_rise {N : Nat} : ∀ {l : List Nat} {i : Nat}, UpL i (mN N) l → (l.map fun k => (endsV N).getD k 0).Pairwise (· < ·)
  | [], _, _ => List.Pairwise.nil
  | a :: r, i, h => by
    rw [List.map_cons, List.pairwise_cons]
    refine ⟨fun y hy => ?_, at_rise h.2.2⟩
    obtain ⟨k, hk, rfl⟩ := List.mem_map.1 hy
    have := upL_ge h.2.2 hk
    exact endsV_inc N a k (by omega) (by rw [endsV_len]; exact this.2)
end Go.Proofs.YtdbfcneeiiialaaGreatDoor

/- tumbref1.PadLaps: the walk. -/
namespace Go.Proofs.YtdbfcneeiiialaaGreatDoor
open Go.RowKit Go.Lib
set_option linter.unusedVariables false

theorem zip_rise {L : List Int} (h : L.Pairwise (· < ·)) : ∀ {G : List Int}, (L.zip G).Pairwise (fun a b => a.1 < b.1) := by
  induction L with
  | nil => intro G; rw [List.zip_nil_left]; exact List.Pairwise.nil
  | cons a r ih =>
    intro G
    cases G with
    | nil => rw [List.zip_nil_right]; exact List.Pairwise.nil
    | cons y G =>
      rw [List.pairwise_cons] at h
      rw [List.zip_cons_cons, List.pairwise_cons]
      exact ⟨fun p hp => h.1 p.1 (List.of_mem_zip (a := p.1) (b := p.2) hp).1, ih h.2⟩
theorem index_c (A : Option Addr) (n c : Nat) (l : List Int) (x : Int) (w : World) (h : RI 3 w A n l) (hp : 0 < n) :
    Calls Tryz.prog 279 #[.slice A n c, .int .i64 x] w fun e w' => e = .returned (.int .i64 (Lib.idxFrom l x 0)) ∧ w' = w := by
  obtain ⟨b, off, y, rfl, _, _, _⟩ := h.at_ hp
  have hb := h.bd
  have hl := h.len
  refine (Tryz.slices_Index_int b off n c l x w (by omega) (by omega) (fun j hj => ?_)).mono ?_
  · obtain ⟨b', off', z, e, _, hz, hc⟩ := h.at_ (k := j) (by omega)
    injection e with e
    injection e with e1 e2
    subst e1 e2
    rw [hc, List.getD_eq_getElem?_getD, hz]; rfl
  · rintro e w' ⟨rfl, rfl⟩
    rw [List.take_of_length_le (by omega)]
    exact ⟨rfl, rfl⟩
end Go.Proofs.YtdbfcneeiiialaaGreatDoor

/- pad.checkLaps, pad.Laps, pad.Ghosts, tumbref1.GhostsOf; slices.Equal of laps. -/
namespace Go.Proofs.YtdbfcneeiiialaaGreatDoor
open Go.RowKit Go.Lib Go.Sort Go.Shelf
set_option linter.unusedVariables false

def clE (r : Race) (cl : List Ck) (l : List Sg) (heat lane : Int) : Int := if raceErr r ≠ 0 then raceErr r else ttE cl l heat lane
theorem touV_le (cl : List Ck) (l : List Sg) (H : Nat) (lane : Int) : ∀ x ∈ touV cl l H lane, x ≤ 360000 := by
  intro x hx
  unfold touV at hx
  have h1 := (compact_sub _).subset hx
  have : ∀ (t : List Td) (s0 : Int), x ∈ huGo s0 t → x ≤ 360000 := by
    intro t s0
    induction t with
    | nil => intro h; cases h
    | cons y r ih =>
      intro h
      unfold huGo at h
      split at h
      · rename_i h2
        rcases List.mem_cons.1 h with rfl | h
        · exact h2
        · exact ih h
      · exact ih h
  exact this _ _ h1
theorem tw_all {tm : Int} : ∀ {l : List Int} {i : Nat} {x : Int}, i < tw tm l → l[i]? = some x → x ≤ tm
  | [], _, _, _, h => by simp at h
  | a :: r, 0, x, h, hx => by
    obtain rfl : a = x := by simpa using hx
    unfold tw at h
    split at h
    · assumption
    · omega
  | a :: r, i + 1, x, h, hx => by
    unfold tw at h
    split at h
    · exact tw_all (l := r) (i := i) (by omega) (by simpa using hx)
    · omega
theorem touV_ge (cl : List Ck) (l : List Sg) (H : Nat) (lane : Int) (h1 : 1 ≤ H) (h2 : H ≤ (startsV cl l).length) : ∀ x ∈ touV cl l H lane, 0 ≤ x := by
  intro x hx
  unfold touV at hx
  replace hx := (compact_sub _).subset hx
  have key : ∀ t ∈ tdL cl l H lane 2, s0V cl l H ≤ t.tm := by
    intro t ht
    unfold tdL at ht
    have hS : SWO (ltOf tdCf) := by
      refine ⟨fun a => ?_, fun a b c => ?_, fun a b c => ?_⟩ <;> unfold ltOf tdCf Lib.compareInt <;> intros <;> (simp at *) <;> (try omega)
      all_goals (repeat' split at *) <;> (try omega) <;> simp_all <;> omega
    have ht := (insL_spec hS (lnGo cl (startsV cl l) H lane 2 l)).1.subset ht
    have hm : ∀ (l : List Sg) (S : List Int), t ∈ lnGo cl S H lane 2 l → ct t.tm S = H := by
      intro l S
      induction l with
      | nil => intro h; cases h
      | cons y r ih =>
        intro h
        unfold lnGo at h
        split at h
        · rename_i hc
          rcases List.mem_cons.1 h with rfl | h
          · exact hc.2
          · exact ih h
        · exact ih h
    have hc := hm _ _ ht
    rw [← tw_ct t.tm (startsV_sorted cl l)] at hc
    obtain ⟨y, hy⟩ := at_of_lt (l := startsV cl l) (k := H - 1) (by omega)
    have := tw_all (tm := t.tm) (l := startsV cl l) (i := H - 1) (by omega) hy
    unfold s0V
    rw [getD_ofI hy]; exact this
  generalize s0V cl l H = s0 at *
  generalize tdL cl l H lane 2 = T at *
  induction T with
  | nil => cases hx
  | cons y r ih =>
    unfold huGo at hx
    have hy := key y List.mem_cons_self
    split at hx
    · rcases List.mem_cons.1 hx with rfl | h
      · rw [Int.tdiv_eq_ediv_of_nonneg (by omega)]; omega
      · exact ih h (fun t ht => key t (List.mem_cons_of_mem _ ht))
    · exact ih hx (fun t ht => key t (List.mem_cons_of_mem _ ht))
/-- what Laps hands back -/
def RetLp2 (w : World) (E : Int) (L : List LP.Lp) (e : Ending) (w' : World) : Prop := ∃ A c, e = .returned (.tuple #[.slice A L.length c, .int .i64 E]) ∧ RLp w' A L.length L ∧ Below w.heap.size w w'
theorem clE_ok {r : Race} {cl : List Ck} {l : List Sg} {heat lane : Int} (h : clE r cl l heat lane = 0) : raceErr r = 0 ∧ ttE cl l heat lane = 0 := by
  unfold clE at h
  split at h
  · rename_i h1; exact absurd h h1
  · rename_i h1; exact ⟨Decidable.not_not.1 h1, h⟩
theorem lp_len (E : List Int) : ∀ (ps : List (Nat × Int)) (j x : Int) (i : Nat), (LP.lapsP E j x i ps).length ≤ (LP.lapsP E j x i ps).length := fun _ _ _ _ => Nat.le_refl _
theorem lapsV_len (N : Nat) (l : List Int) (hb : ∀ x ∈ l, 0 ≤ x ∧ x ≤ 1000000000) (hN1 : 1 ≤ N) (hN : N ≤ 16) : (lapsV N l).length ≤ 8 := by
  have hG := goodV_ok (N := N) hb
  have q5 : 1 ≤ mN N ∧ mN N ≤ 8 := by unfold mN; omega
  unfold lapsV
  split
  · simp
  · rename_i h
    have hB := offG_bd (N := (N : Int)) (m := (goodV N l).length) hG.1 (endsV_bd hN) (by omega)
    have hsv := stnd_up hB (mN N) (mN N - 1) ((goodV N l).length - 1) 0 0 (by have := hG.2; omega) (by have := hG.2; omega) (by omega)
    have := LP.laps_ref (endsV N) (endsV_inc N) ((standV N (goodV N l)).zip (goodV N l)) 0 0 0 (by rw [endsV_len]; exact upL_up hsv.1 (by unfold standV; rw [List.length_append, hsv.2]; simp; omega))
    rw [← this, List.length_map, List.length_drop, endsV_len]
    omega
end Go.Proofs.YtdbfcneeiiialaaGreatDoor

/- pad.Ghosts, tumbref1.GhostsOf; slices.Equal of laps. -/
namespace Go.Proofs.YtdbfcneeiiialaaGreatDoor
open Go.RowKit Go.Lib Go.Sort Go.Shelf
set_option linter.unusedVariables false

theorem RLp.atN {w : World} {A : Option Addr} {n : Nat} {l : List LP.Lp} (h : RLp w A n l) {k : Nat} (hk : k < n) : ∃ b off x, A = some ⟨b, off, none⟩ ∧ b < w.heap.size ∧ l[k]? = some x ∧ w.cell? ⟨b, off + k * 3, none⟩ = some (.int .i64 x.length) ∧ w.cell? ⟨b, off + k * 3 + 1, none⟩ = some (.int .i64 x.time) ∧ w.cell? ⟨b, off + k * 3 + 2, none⟩ = some (.bool x.filled) := by
  obtain ⟨b, off, x, hA, hb, hx, hc⟩ := h.at_ hk
  exact ⟨b, off, x, hA, hb, hx, hc 0 _ rfl, hc 1 _ rfl, hc 2 _ rfl⟩
set_option maxHeartbeats 1600000 in
set_option maxRecDepth 100000 in
theorem equalLp_c (A1 A2 : Option Addr) (n c m d : Nat) (l1 l2 : List LP.Lp) (w : World) (h1 : RLp w A1 n l1) (h2 : RLp w A2 m l2) :
    Calls Tryz.prog 101 #[.slice A1 n c, .slice A2 m d] w fun e w' => e = .returned (.bool (decide (l1 = l2))) ∧ ∃ q, w' = w.drewN q := by
  have b1 := h1.bd
  have b2 := h2.bd
  by_cases hnm : n = m
  rotate_left
  · have hd : decide (l1 = l2) = false := by simp; rintro rfl; have := h1.len; have := h2.len; omega
    have hne : ((n : Int) != (m : Int)) = true := by rw [bne_iff_ne]; omega
    rw [hd]
    clear hd
    go_enter Tryz.func101, Tryz.ntmps101
    go_wp2
    go_ret
    exact ⟨rfl, 0, rfl⟩
  subst hnm
  have hL1 := Lib.hid h1.len
  have hL2 := Lib.hid h2.len
  go_enter Tryz.func101, Tryz.ntmps101
  go_wp2
  go_loopw [13] (fun i wr => ∃ k q : Nat, k ≤ n ∧ i = .int .i64 k ∧ wr = w.drewN q ∧ Hid (∀ j, j < k → l1[j]? = l2[j]?)) (fun i _ => n - (intOf i).toNat)
  case atStart => exact ⟨0, 0, Nat.zero_le _, rfl, rfl, Lib.hid (fun j h => absurd h (by omega))⟩
  case round =>
    obtain ⟨k, q0, hk, rfl, rfl, hF⟩ := hrel
    by_cases hlt : k < n
    · obtain ⟨b, off, x, rfl, hbl, hx, c0, c1, c2⟩ := RLp.atN h1 hlt
      obtain ⟨b', off', y, rfl, hbl', hy, e0, e1, e2⟩ := RLp.atN h2 hlt
      have hx' := Lib.hid hx
      have hy' := Lib.hid hy
      clear hx hy
      by_cases hxy : x = y
      · subst hxy
        obtain ⟨x0, x1, x2⟩ := x
        dsimp only at c0 c1 c2 e0 e1 e2
        cases x2
        all_goals
          go_wp2
          go_quiet (fail)
          go_wp2
          go_roundw
          case rel => exact ⟨k + 1, _, by omega, by go_num, rfl, Lib.hid (fun j hj => by
            by_cases hjk : j = k
            · subst hjk; rw [hx'.out, hy'.out]
            · exact hF.out j (by omega))⟩
          case measure => simp [intOf]; omega
      · obtain ⟨x0, x1, x2⟩ := x
        obtain ⟨y0, y1, y2⟩ := y
        dsimp only at c0 c1 c2 e0 e1 e2
        have hcases : (x0 == y0) = false ∨ (x0 = y0 ∧ ((x1 == y1) = false)) ∨ (x0 = y0 ∧ x1 = y1 ∧ x2 ≠ y2) := by
          by_cases q0 : x0 = y0
          · by_cases q1 : x1 = y1
            · exact .inr (.inr ⟨q0, q1, fun q2 => hxy (by rw [q0, q1, q2])⟩)
            · exact .inr (.inl ⟨q0, beq_eq_false_iff_ne.2 q1⟩)
          · exact .inl (beq_eq_false_iff_ne.2 q0)
        have hfin : Hid (decide (l1 = l2) = false) := Lib.hid (by
          simp only [decide_eq_false_iff_not]
          rintro rfl
          rw [hx'.out] at hy'
          exact hxy (Option.some.inj hy'.out))
        clear hxy
        rcases hcases with h0 | ⟨rfl, h1⟩ | ⟨rfl, rfl, h1⟩
        · cases x2 <;> cases y2
          all_goals
            go_wp2
            go_quiet (fail)
            go_wp2
            go_ret
            exact ⟨ret_b (by rw [hfin.out]), _, by rw [World.drewN_drewN]⟩
        · cases x2 <;> cases y2
          all_goals
            go_wp2
            go_quiet (fail)
            go_wp2
            go_ret
            exact ⟨ret_b (by rw [hfin.out]), _, by rw [World.drewN_drewN]⟩
        · cases x2 <;> cases y2
          · exact absurd rfl h1
          · go_wp2
            go_quiet (fail)
            go_wp2
            go_ret
            exact ⟨ret_b (by rw [hfin.out]), _, by rw [World.drewN_drewN]⟩
          · go_wp2
            go_quiet (fail)
            go_wp2
            go_ret
            exact ⟨ret_b (by rw [hfin.out]), _, by rw [World.drewN_drewN]⟩
          · exact absurd rfl h1
    · have hfin : Hid (decide (l1 = l2) = true) := Lib.hid (by
        simp only [decide_eq_true_eq]
        apply List.ext_getElem?; intro j
        by_cases hj : j < n
        · exact hF.out j (by omega)
        · rw [List.getElem?_eq_none (by rw [hL1.out]; omega), List.getElem?_eq_none (by rw [hL2.out]; omega)])
      go_wp2
      go_ret
      exact ⟨ret_b (by rw [hfin.out]), _, rfl⟩
/-- what Ghosts hands back -/
def RetGh (w : World) (E : Int) (L : List Int) (e : Ending) (w' : World) : Prop := ∃ A c, e = .returned (.tuple #[.slice A L.length c, .int .i64 E]) ∧ RI 3 w' A L.length L ∧ Below w.heap.size w w'
end Go.Proofs.YtdbfcneeiiialaaGreatDoor
