/- pad.Merge and pad.Lacks. Printed by wip/genmerg.py. -/
import Derived.Test.YtjafcnblgeibpaaDoorBinS
import Derived.Test.YtjafcnblgeibpaaDoorSetG
import Derived.Test.YtjafcnblgeibpaaDoorPadF
namespace Go.Proofs.YtjafcnblgeibpaaDoor
open Go.RowKit Go.Shelf Go.Lib Go.Sort
set_option linter.unusedVariables false

/-- what a merge puts behind the first list; none: two signals of one key differ -/
def mrg (a : List Sg) : List Sg → Option (List Sg)
  | [] => some []
  | x :: r => match a.find? (fun y => sgCf y x == 0) with
    | none => (mrg a r).map (x :: ·)
    | some y => if y = x then mrg a r else none
theorem mrg_new {a b : List Sg} {k : Nat} {x : Sg} {P : List Sg} (hx : b[k]? = some x) (h : ∀ y ∈ a, sgCf y x ≠ 0) (hF : mrg a b = (mrg a (b.drop k)).map (P ++ ·)) : mrg a b = (mrg a (b.drop (k + 1))).map ((P ++ [x]) ++ ·) := by
  rw [hF, drop_at hx]
  have e : a.find? (fun y => sgCf y x == 0) = none := by
    rw [List.find?_eq_none]
    intro y hy
    simpa using h y hy
  simp only [mrg, e]
  cases mrg a (b.drop (k + 1)) <;> simp
theorem mrg_find {a : List Sg} {x y : Sg} (hs : a.Pairwise fun x y => sgCf x y < 0) (hy : y ∈ a) (h : sgCf y x = 0) : a.find? (fun y => sgCf y x == 0) = some y := by
  cases e : a.find? (fun y => sgCf y x == 0) with
  | none =>
    rw [List.find?_eq_none] at e
    exact absurd h (by simpa using e y hy)
  | some z =>
    have hz := List.mem_of_find?_eq_some e
    have h2 := List.find?_some e
    have h3 : sgCf z x = 0 := by simpa using h2
    obtain ⟨a1, a2⟩ := sgKey_zero.1 h
    obtain ⟨b1, b2⟩ := sgKey_zero.1 h3
    rw [key_same hs hz hy (sgKey_zero.2 ⟨b1.trans a1.symm, b2.trans a2.symm⟩)]
theorem mrg_old {a b : List Sg} {k : Nat} {x : Sg} {P : List Sg} (hs : a.Pairwise fun x y => sgCf x y < 0) (hx : b[k]? = some x) (hy : x ∈ a) (hF : mrg a b = (mrg a (b.drop k)).map (P ++ ·)) : mrg a b = (mrg a (b.drop (k + 1))).map (P ++ ·) := by
  rw [hF, drop_at hx]
  have e := mrg_find hs hy (sgKey_zero.2 ⟨rfl, rfl⟩ : sgCf x x = 0)
  simp only [mrg, e, if_pos]
theorem mrg_bad {a b : List Sg} {k : Nat} {x y : Sg} {P : List Sg} (hs : a.Pairwise fun x y => sgCf x y < 0) (hx : b[k]? = some x) (hy : y ∈ a) (h : sgCf y x = 0) (hne : y ≠ x) (hF : mrg a b = (mrg a (b.drop k)).map (P ++ ·)) : mrg a b = none := by
  rw [hF, drop_at hx]
  have e := mrg_find hs hy h
  simp only [mrg, e, if_neg hne]
  rfl
theorem mrg_len {a : List Sg} : ∀ {b p : List Sg}, mrg a b = some p → p.length ≤ b.length
  | [], p, h => by simp [mrg] at h; subst h; simp
  | x :: r, p, h => by
    unfold mrg at h
    split at h
    · cases e : mrg a r with
      | none => rw [e] at h; simp at h
      | some q =>
        rw [e] at h
        simp at h; subst h
        have := mrg_len e
        simp; omega
    · split at h
      · have := mrg_len h; simp; omega
      · cases h
/-- of lists of which equal keys are equal signals: what the second has and the first has not -/
theorem mrg_rest {a : List Sg} (hs : a.Pairwise fun x y => sgCf x y < 0) : ∀ {b : List Sg}, (∀ x ∈ b, ∀ y ∈ a, sgCf y x = 0 → y = x) → mrg a b = some (restB a b)
  | [], _ => rfl
  | x :: r, h => by
    have ih := mrg_rest hs (b := r) (fun z hz => h z (List.mem_cons_of_mem _ hz))
    have hx := h x (List.mem_cons_self ..)
    by_cases hm : x ∈ a
    · have e := mrg_find hs hm (sgKey_zero.2 ⟨rfl, rfl⟩ : sgCf x x = 0)
      simp only [mrg, e, if_pos, ih]
      unfold restB
      rw [List.filter_cons_of_neg (by simpa using hm)]
    · have e : a.find? (fun y => sgCf y x == 0) = none := by
        rw [List.find?_eq_none]
        intro y hy
        have : sgCf y x ≠ 0 := fun h0 => hm (hx y hy h0 ▸ hy)
        simpa using this
      simp only [mrg, e, ih]
      unfold restB
      rw [List.filter_cons_of_pos (by simpa using hm)]
      rfl
/-- what a merge is -/
def MrgR (a b : List Sg) (E : Int) (out : List Sg) : Prop :=
  (sigErr a ≠ 0 ∧ E = sigErr a ∧ out = []) ∨ (sigErr a = 0 ∧ sigErr b ≠ 0 ∧ E = sigErr b ∧ out = []) ∨
  (sigErr a = 0 ∧ sigErr b = 0 ∧ ((mrg a b = none ∧ E = 13 ∧ out = []) ∨ ∃ p s, mrg a b = some p ∧ SgSorted (a ++ p) s ∧ ((sigErr s ≠ 0 ∧ E = sigErr s ∧ out = []) ∨ (sigErr s = 0 ∧ E = 0 ∧ out = s))))
def RetMg (a b : List Sg) (w : World) (e : Ending) (w' : World) : Prop := ∃ (A' : Option Addr) (n' c' : Nat) (out : List Sg) (E : Int), e = .returned (.tuple #[.slice A' n' c', .int .i64 E]) ∧ RSg w' A' n' out ∧ CapOk A' n' c' ∧ MrgR a b E out ∧ Below w.heap.size w w'
theorem sgCmp_enters : ∀ args w, (callFunc 39 args).run Tryd.prog w = .ok (.enter 39 args) w := enters_of Tryd.func39 (by kernel_rfl) rfl
theorem flat_app1 (l : List Sg) (x : Sg) : (l ++ [x]).flatMap sgE = l.flatMap sgE ++ sgE x := by rw [List.flatMap_append]; simp
set_option maxHeartbeats 6400000 in
set_option maxRecDepth 100000 in
theorem merge_c (A B : Option Addr) (n c m d : Nat) (a b : List Sg) (w : World) (ha : RSg w A n a) (hb : RSg w B m b) (hn : n ≤ 400) (hm : m ≤ 400) :
    Calls Tryd.prog 16 #[.slice A n c, .slice B m d] w (RetMg a b w) := by
  have hCk := Lib.hid (fun A n c l w h => checkSignals_c A n c l w h)
  have hRa := Lib.hid (fun W (B : Below w.heap.size w W) => ha.below B)
  have hRb := Lib.hid (fun W (B : Below w.heap.size w W) => hb.below B)
  have hla := Lib.hid ha.len
  have hlb := Lib.hid hb.len
  have hC1 := Lib.hid (checkSignals_c A n c a w ha)
  have hG1 := Lib.hid (fun (h1 : sigErr a ≠ 0) => show MrgR a b (sigErr a) [] from .inl ⟨h1, rfl, rfl⟩)
  have hG2 := Lib.hid (fun (h1 : sigErr a = 0) (h2 : sigErr b ≠ 0) => show MrgR a b (sigErr b) [] from .inr (.inl ⟨h1, h2, rfl, rfl⟩))
  have hG3 := Lib.hid (fun (h1 : sigErr a = 0) (h2 : sigErr b = 0) (h3 : mrg a b = none) => show MrgR a b 13 [] from .inr (.inr ⟨h1, h2, .inl ⟨h3, rfl, rfl⟩⟩))
  have hG4 := Lib.hid (fun (h1 : sigErr a = 0) (h2 : sigErr b = 0) (p s : List Sg) (h3 : mrg a b = some p) (h4 : SgSorted (a ++ p) s) (h5 : sigErr s ≠ 0) => show MrgR a b (sigErr s) [] from .inr (.inr ⟨h1, h2, .inr ⟨p, s, h3, h4, .inl ⟨h5, rfl, rfl⟩⟩⟩))
  have hG5 := Lib.hid (fun (h1 : sigErr a = 0) (h2 : sigErr b = 0) (p s : List Sg) (h3 : mrg a b = some p) (h4 : SgSorted (a ++ p) s) (h5 : sigErr s = 0) => show MrgR a b 0 s from .inr (.inr ⟨h1, h2, .inr ⟨p, s, h3, h4, .inr ⟨h5, rfl, rfl⟩⟩⟩))
  have hso := Lib.hid (fun (h : sigErr a = 0) => (sigErr_sorted h).2)
  have hC2 := Lib.hid (fun W (B' : Below w.heap.size w W) => checkSignals_c B m d b W (hRb.out W B'))
  clear ha hb
  generalize hEa : sigErr a = Ea at *
  generalize hEb : sigErr b = Eb at *
  have hEa' := Lib.hid hEa
  have hEb' := Lib.hid hEb
  clear hEa hEb
  go_enter Tryd.func16, Tryd.ntmps16
  go_wp2_with fail
  refine hC1.out.mono ?_; rintro e w1 ⟨rfl, B1⟩
  by_cases h0 : Ea = 0
  rotate_left
  · have hd : (Ea != 0) = true := by simpa using h0
    have hg := hG1.out h0
    clear h0
    go_wp2
    go_ret2
    exact ⟨none, 0, 0, [], Ea, rfl, RN.nil_ _ _ _ _ _, .inl ⟨rfl, rfl, rfl⟩, hg, B1⟩
  subst h0
  go_wp2_with fail
  refine (hC2.out _ B1).mono ?_; rintro e w2 ⟨rfl, B2⟩
  replace B2 := below_next B1 B2
  clear B1
  by_cases h0 : Eb = 0
  rotate_left
  · have hd : (Eb != 0) = true := by simpa using h0
    have hg := hG2.out (by first | rfl | trivial) h0
    clear h0
    go_wp2
    go_ret2
    exact ⟨none, 0, 0, [], Eb, rfl, RN.nil_ _ _ _ _ _, .inl ⟨rfl, rfl, rfl⟩, hg, B2⟩
  subst h0
  have hs := Lib.hid (hso.out (by first | rfl | trivial))
  go_wp2_with fail
  refine (cloneSg_c A n c a w2 (hRa.out _ B2) (by omega)).mono ?_; rintro e w3 ⟨A3, c3, rfl, own3, B3⟩
  have hB3 := below_next B2 B3
  replace own3 := own_mono own3 B2.size
  clear B2 B3
  go_wp2_with fail
  go_loopw [8, 28] (fun u i wr => ∃ (j : Nat) (P : List Sg), j ≤ m ∧ i = .int .i64 j ∧ wr.ownsRow w.heap.size 32 6 u (n + P.length) ((a ++ P).flatMap sgE) ∧ Below w.heap.size w wr ∧ P.length ≤ j ∧ Hid (mrg a b = (mrg a (b.drop j)).map (P ++ ·))) (fun _ i _ => m - (intOf i).toNat)
  case atStart => exact ⟨0, [], Nat.zero_le _, rfl, by rw [List.append_nil]; exact own3, hB3, Nat.le_refl _, Lib.hid (by rw [List.drop_zero]; simp)⟩
  case round =>
    clear own3 hB3
    rename World => wr
    obtain ⟨j, P, hj, rfl, how, hB, hPj, hF⟩ := hrel
    by_cases hlt : j < m
    · have hlti : (j : Int) < m := by omega
      obtain ⟨b', off, x, rfl, hbl, hx, p0, p1, p2, p3, p4, p5⟩ := RSg_at6 (hRb.out _ hB) hlt
      have hx' := Lib.hid hx
      clear hx
      obtain ⟨dev, no, kind, tm, lane, time⟩ := x
      dsimp only at p0 p1 p2 p3 p4 p5
      have hn0 := heap_alloc_new wr (.cells #[.string dev, .int .i64 no, .int .i64 kind, .int .i64 tm, .int .i64 lane, .int .i64 time] 32)
      have how0 := own_below how (below_new wr (.cells #[.string dev, .int .i64 no, .int .i64 kind, .int .i64 tm, .int .i64 lane, .int .i64 time] 32))
      have hB0 := below_next hB (below_new wr (.cells #[.string dev, .int .i64 no, .int .i64 kind, .int .i64 tm, .int .i64 lane, .int .i64 time] 32))
      have hwz := hB.size
      have hbs := Lib.hid (bsSg_c A n c a ⟨dev, no, kind, tm, lane, time⟩ (wr.alloc (.cells #[.string dev, .int .i64 no, .int .i64 kind, .int .i64 tm, .int .i64 lane, .int .i64 time] 32)) (hRa.out _ hB0) hs.out (by omega))
      dsimp only [sgE] at hbs
      clear how
      go_wp2_with fail
      refine hbs.out.mono ?_; rintro e w6 ⟨⟨k, g, rfl, hg1, hg2⟩, B6⟩
      have hb6 := blk_below hn0 B6
      have how6 := own_below how0 B6
      have hB6 := below_next hB0 B6
      have hz6 : wr.heap.size < w6.heap.size := lt_of_heap hb6
      clear hbs hn0 how0 hB0 B6 p0 p1 p2 p3 p4 p5
      have x0 := (blk_facts hb6).1 0
      have x1 := (blk_facts hb6).1 1
      have x2 := (blk_facts hb6).1 2
      have x3 := (blk_facts hb6).1 3
      have x4 := (blk_facts hb6).1 4
      have x5 := (blk_facts hb6).1 5
      cases g
      · have hnew := Lib.hid (fun (P : List Sg) hF => mrg_new (P := P) hx'.out (hg2 rfl) hF)
        clear hg1 hg2
        have hw6 : w.heap.size ≤ w6.heap.size := hB6.size
        go_wp2_with (at_builtin; refine wpList_app rfl (.tmp 40) (.tmp 42) 26 rfl Tryd.underlying26 info_signal rfl (by omega) (by omega) how6 rfl rfl (by first | rfl | (simp; done)) rfl (by simp [Value.oneCell']) (by omega) hw6 ?_; intro v7 w7 hown7 hg7; have hB7 := below_own hB6 how6 hg7 hw6 (Nat.le_refl _))
        go_roundw
        case rel => exact ⟨j + 1, P ++ [⟨dev, no, kind, tm, lane, time⟩], by omega, by go_num, by rw [← List.append_assoc, flat_app1, List.length_append]; exact hown7, hB7, by rw [List.length_append]; simp; omega, Lib.hid (hnew.out P hF.out)⟩
        case measure => simp [intOf]; omega
      · obtain ⟨y, hy, hyx⟩ := hg1 rfl
        have hk : k < n := by have := lt_of_at hy; rw [hla.out] at this; exact this
        have hym := List.mem_of_getElem? hy
        obtain ⟨b2, off2, y', rfl, hbl2, hy2, q0, q1, q2, q3, q4, q5⟩ := RSg_at6 (hRa.out _ hB6) hk
        obtain rfl : y = y' := by rw [hy] at hy2; exact Option.some.inj hy2
        have hki : (k : Int) < n := by omega
        clear hg1 hg2 hy hy2
        by_cases hxy : y = ⟨dev, no, kind, tm, lane, time⟩
        · subst hxy
          dsimp only at q0 q1 q2 q3 q4 q5
          have hold := Lib.hid (mrg_old hs.out hx'.out hym hF.out)
          clear hyx hym
          go_wp2
          go_quiet (fail)
          go_wp2
          go_roundw
          case rel => exact ⟨j + 1, P, by omega, by go_num, own_below how6 (below_drewN (Below.refl _ _) _), below_drewN hB6 _, by omega, hold⟩
          case measure => simp [intOf]; omega
        · have hbad := Lib.hid (hG3.out (by first | rfl | trivial) (by first | rfl | trivial) (mrg_bad hs.out hx'.out hym hyx hxy hF.out))
          clear hyx hym
          obtain ⟨dev2, no2, kind2, tm2, lane2, time2⟩ := y
          dsimp only at q0 q1 q2 q3 q4 q5
          have hcases : ((dev2.toList == dev.toList) = false) ∨ (dev2 = dev ∧ (((no2 == no) = false) ∨ (no2 = no ∧ (((kind2 == kind) = false) ∨ (kind2 = kind ∧ (((tm2 == tm) = false) ∨ (tm2 = tm ∧ (((lane2 == lane) = false) ∨ (lane2 = lane ∧ ((time2 == time) = false)))))))))) := by
            by_cases q0 : dev2 = dev
            · refine .inr ⟨q0, ?_⟩
              by_cases q1 : no2 = no
              · refine .inr ⟨q1, ?_⟩
                by_cases q2 : kind2 = kind
                · refine .inr ⟨q2, ?_⟩
                  by_cases q3 : tm2 = tm
                  · refine .inr ⟨q3, ?_⟩
                    by_cases q4 : lane2 = lane
                    · refine .inr ⟨q4, ?_⟩
                      exact beq_eq_false_iff_ne.2 (fun q5 => hxy (by rw [q0, q1, q2, q3, q4, q5]))
                    · exact .inl (beq_eq_false_iff_ne.2 q4)
                  · exact .inl (beq_eq_false_iff_ne.2 q3)
                · exact .inl (beq_eq_false_iff_ne.2 q2)
              · exact .inl (beq_eq_false_iff_ne.2 q1)
            · exact .inl (str_neZ q0)
          clear hxy
          rcases hcases with h0 | ⟨rfl, h1 | ⟨rfl, h2 | ⟨rfl, h3 | ⟨rfl, h4 | ⟨rfl, h5⟩⟩⟩⟩⟩
          all_goals
            go_wp2
            go_quiet (fail)
            go_wp2
            go_ret2
            exact ⟨none, 0, 0, [], 13, rfl, RN.nil_ _ _ _ _ _, .inl ⟨rfl, rfl, rfl⟩, hbad.out, below_drewN hB6 _⟩
    · obtain rfl : j = m := by omega
      have hmp := Lib.hid (show mrg a b = some P by
        rw [hF.out, drop_end (by rw [hlb.out]; exact Nat.le_refl _)]
        simp [mrg])
      obtain ⟨A4, c4, rfl⟩ := own_shape how
      have hSo := Lib.hid (sortFSg_c 39 sgCmp_enters (fun x y W => sgCompare_c x y W) (a ++ P) wr w.heap.size (n + P.length) _ how (by omega))
      go_wp2_with fail
      refine hSo.out.mono ?_; rintro e w5 ⟨rfl, s, own5, hs5, g5⟩
      have hB5 := below_own hB how g5 hB.size (Nat.le_refl _)
      have hl5 : s.length = n + P.length := by rw [hs5.1.length_eq, List.length_append, hla.out]
      have hR5 : RSg w5 A4 (n + P.length) s := RN.of_own sgE_len own5 hl5 (by omega)
      have hcp := Lib.hid (capOk_own own5)
      have hC5 := Lib.hid (hCk.out A4 (n + P.length) c4 s w5 hR5)
      have hh4 := Lib.hid (hG4.out (by first | rfl | trivial) (by first | rfl | trivial) P s hmp.out hs5)
      have hh5 := Lib.hid (hG5.out (by first | rfl | trivial) (by first | rfl | trivial) P s hmp.out hs5)
      clear hSo how hB g5 own5 hs5 hl5
      go_wp2_with fail
      refine hC5.out.mono ?_; rintro e w6 ⟨rfl, B6⟩
      have hB6 := below_next hB5 B6
      have hR6 := hR5.below B6
      clear hC5 hR5 B6 hB5
      by_cases h0 : sigErr s = 0
      · have hg := Lib.hid (hh5.out h0)
        clear hh4 hh5
        rw [h0]
        clear h0
        go_wp2
        go_ret2
        exact ⟨A4, n + P.length, c4, s, 0, rfl, hR6, hcp.out, hg.out, hB6⟩
      · have hg := Lib.hid (hh4.out h0)
        have hd : (sigErr s != 0) = true := by simpa using h0
        clear hh4 hh5 h0
        generalize sigErr s = E at *
        go_wp2
        go_ret2
        exact ⟨none, 0, 0, [], E, rfl, RN.nil_ _ _ _ _ _, .inl ⟨rfl, rfl, rfl⟩, hg.out, hB6⟩
/-- what a list lacks of another one -/
def RetLk (a b : List Sg) (w : World) (e : Ending) (w' : World) : Prop := ∃ (A' : Option Addr) (n' c' : Nat) (out : List Sg) (E : Int), e = .returned (.tuple #[.slice A' n' c', .int .i64 E]) ∧ RSg w' A' n' out ∧ CapOk A' n' c' ∧ E = (if sigErr a ≠ 0 then sigErr a else sigErr b) ∧ out = (if E = 0 then restB a b else []) ∧ Below w.heap.size w w'
theorem restB_at {a b : List Sg} {k : Nat} {x : Sg} (h : b[k]? = some x) : restB a (b.drop k) = (if x ∈ a then [] else [x]) ++ restB a (b.drop (k + 1)) := by
  rw [drop_at h]
  unfold restB
  by_cases hm : x ∈ a
  · rw [if_pos hm, List.filter_cons_of_neg (by simpa using hm)]; rfl
  · rw [if_neg hm, List.filter_cons_of_pos (by simpa using hm)]; rfl
set_option maxHeartbeats 6400000 in
set_option maxRecDepth 100000 in
theorem lacks_c (A B : Option Addr) (n c m d : Nat) (a b : List Sg) (w : World) (ha : RSg w A n a) (hb : RSg w B m b) (hn : n ≤ 400) (hm : m ≤ 400) :
    Calls Tryd.prog 19 #[.slice A n c, .slice B m d] w (RetLk a b w) := by
  have hRa := Lib.hid (fun W (B : Below w.heap.size w W) => ha.below B)
  have hRb := Lib.hid (fun W (B : Below w.heap.size w W) => hb.below B)
  have hlb := Lib.hid hb.len
  have hC1 := Lib.hid (checkSignals_c A n c a w ha)
  have hC2 := Lib.hid (fun W (B' : Below w.heap.size w W) => checkSignals_c B m d b W (hRb.out W B'))
  have hCo := Lib.hid (fun W (B' : Below w.heap.size w W) x => containsSg_c A n c a x W (hRa.out W B') (by omega))
  clear ha hb
  generalize hEa : sigErr a = Ea at *
  generalize hEb : sigErr b = Eb at *
  have hEa' := Lib.hid hEa
  have hEb' := Lib.hid hEb
  clear hEa hEb
  go_enter Tryd.func19, Tryd.ntmps19
  go_wp2_with fail
  refine hC1.out.mono ?_; rintro e w1 ⟨rfl, B1⟩
  by_cases h0 : Ea = 0
  rotate_left
  · have hd : (Ea != 0) = true := by simpa using h0
    have h0' := Lib.hid h0
    clear h0
    go_wp2
    go_ret2
    exact ⟨none, 0, 0, [], Ea, rfl, RN.nil_ _ _ _ _ _, .inl ⟨rfl, rfl, rfl⟩, by rw [hEa'.out, if_pos h0'.out], by rw [if_neg h0'.out], B1⟩
  subst h0
  go_wp2_with fail
  refine (hC2.out _ B1).mono ?_; rintro e w2 ⟨rfl, B2⟩
  replace B2 := below_next B1 B2
  clear B1
  by_cases h0 : Eb = 0
  rotate_left
  · have hd : (Eb != 0) = true := by simpa using h0
    have h0' := Lib.hid h0
    clear h0
    go_wp2
    go_ret2
    exact ⟨none, 0, 0, [], Eb, rfl, RN.nil_ _ _ _ _ _, .inl ⟨rfl, rfl, rfl⟩, by rw [hEa'.out, hEb'.out, if_neg (by simp)], by rw [if_neg h0'.out], B2⟩
  subst h0
  go_wp2_with fail
  go_loopw [8, 23] (fun u i wr => ∃ (j : Nat) (P : List Sg), j ≤ m ∧ i = .int .i64 j ∧ wr.ownsRow w.heap.size 32 6 u P.length (P.flatMap sgE) ∧ Below w.heap.size w wr ∧ P.length ≤ j ∧ Hid (restB a b = P ++ restB a (b.drop j))) (fun _ i _ => m - (intOf i).toNat)
  case atStart => exact ⟨0, [], Nat.zero_le _, rfl, World.ownsRow_nil _ _ _ _, B2, Nat.le_refl _, Lib.hid rfl⟩
  case round =>
    clear B2
    rename World => wr
    obtain ⟨j, P, hj, rfl, how, hB, hPj, hF⟩ := hrel
    by_cases hlt : j < m
    · have hlti : (j : Int) < m := by omega
      obtain ⟨b', off, x, rfl, hbl, hx, p0, p1, p2, p3, p4, p5⟩ := RSg_at6 (hRb.out _ hB) hlt
      have hst := Lib.hid (restB_at (a := a) hx)
      clear hx
      obtain ⟨dev, no, kind, tm, lane, time⟩ := x
      dsimp only at p0 p1 p2 p3 p4 p5
      have hn0 := heap_alloc_new wr (.cells #[.string dev, .int .i64 no, .int .i64 kind, .int .i64 tm, .int .i64 lane, .int .i64 time] 32)
      have how0 := own_below how (below_new wr (.cells #[.string dev, .int .i64 no, .int .i64 kind, .int .i64 tm, .int .i64 lane, .int .i64 time] 32))
      have hB0 := below_next hB (below_new wr (.cells #[.string dev, .int .i64 no, .int .i64 kind, .int .i64 tm, .int .i64 lane, .int .i64 time] 32))
      have hwz := hB.size
      have hcc := Lib.hid (hCo.out _ hB0 ⟨dev, no, kind, tm, lane, time⟩)
      dsimp only at hcc
      clear how
      go_wp2_with fail
      refine hcc.out.mono ?_; rintro e w6 ⟨rfl, B6⟩
      have hb6 := blk_below hn0 B6
      have how6 := own_below how0 B6
      have hB6 := below_next hB0 B6
      clear hcc hn0 how0 hB0 B6 p0 p1 p2 p3 p4 p5
      have x0 := (blk_facts hb6).1 0
      have x1 := (blk_facts hb6).1 1
      have x2 := (blk_facts hb6).1 2
      have x3 := (blk_facts hb6).1 3
      have x4 := (blk_facts hb6).1 4
      have x5 := (blk_facts hb6).1 5
      have hw6 : w.heap.size ≤ w6.heap.size := hB6.size
      by_cases hmem : (⟨dev, no, kind, tm, lane, time⟩ : Sg) ∈ a
      · have hd : decide ((⟨dev, no, kind, tm, lane, time⟩ : Sg) ∈ a) = true := decide_eq_true hmem
        have hst2 := Lib.hid (hst.out.trans (by rw [if_pos hmem]))
        clear hmem hst
        rw [hd]
        go_wp2
        go_roundw
        case rel => exact ⟨j + 1, P, by omega, by go_num, how6, hB6, by omega, Lib.hid (by rw [hF.out, hst2.out, List.nil_append])⟩
        case measure => simp [intOf]; omega
      · have hd : decide ((⟨dev, no, kind, tm, lane, time⟩ : Sg) ∈ a) = false := decide_eq_false hmem
        have hst2 := Lib.hid (hst.out.trans (by rw [if_neg hmem]))
        clear hmem hst
        rw [hd]
        go_wp2_with (at_builtin; refine wpList_app rfl (.tmp 31) (.tmp 33) 26 rfl Tryd.underlying26 info_signal rfl (by omega) (by omega) how6 rfl rfl (by first | rfl | (simp; done)) rfl (by simp [Value.oneCell']) (by omega) hw6 ?_; intro v7 w7 hown7 hg7; have hB7 := below_own hB6 how6 hg7 hw6 (Nat.le_refl _))
        go_roundw
        case rel => exact ⟨j + 1, P ++ [⟨dev, no, kind, tm, lane, time⟩], by omega, by go_num, by rw [flat_app1, List.length_append]; exact hown7, hB7, by rw [List.length_append]; simp; omega, Lib.hid (by rw [hF.out, hst2.out, List.append_assoc])⟩
        case measure => simp [intOf]; omega
    · obtain rfl : j = m := by omega
      obtain ⟨A4, c4, rfl⟩ := own_shape how
      have hR : RSg wr A4 P.length P := RN.of_own sgE_len how rfl (by omega)
      have hcp := Lib.hid (capOk_own how)
      have hfin := Lib.hid (show P = restB a b by rw [hF.out, drop_end (by rw [hlb.out]; exact Nat.le_refl _)]; simp [restB])
      clear how
      go_wp2
      go_ret2
      exact ⟨A4, P.length, c4, P, 0, rfl, hR, hcp.out, by rw [hEa'.out, hEb'.out]; rfl, by rw [if_pos rfl]; exact hfin.out, hB⟩
end Go.Proofs.YtjafcnblgeibpaaDoor
