/- tumbref1.SignalsMerged, tumbref1.SignalsLacking, pad.Right. -/
import Derived.Test.YtjafcnblgeibpaaDoorMergC
import Derived.Test.YtjafcnblgeibpaaDoorDelSg
import Derived.Test.YtjafcnblgeibpaaDoorPadC
namespace Go.Proofs.YtjafcnblgeibpaaDoor
open Go.RowKit Go.Shelf Go.Lib Go.Sort
set_option linter.unusedVariables false

theorem mrg_ids {a : List Sg} : ∀ {b p : List Sg}, mrg a b = some p → p.Sublist b ∧ ∀ x ∈ p, ∀ y ∈ a, sgCf y x ≠ 0
  | [], p, h => by simp [mrg] at h; subst h; exact ⟨.slnil, by simp⟩
  | x :: r, p, h => by
    unfold mrg at h
    split at h
    · rename_i hf
      cases e : mrg a r with
      | none => rw [e] at h; simp at h
      | some q =>
        rw [e] at h
        simp at h; subst h
        obtain ⟨h1, h2⟩ := mrg_ids e
        refine ⟨h1.cons_cons x, fun z hz y hy => ?_⟩
        rcases List.mem_cons.1 hz with rfl | hz
        · rw [List.find?_eq_none] at hf
          simpa using hf y hy
        · exact h2 z hz y hy
    · split at h
      · obtain ⟨h1, h2⟩ := mrg_ids h
        exact ⟨h1.cons x, h2⟩
      · cases h
theorem sg_strict {s l : List Sg} (hp : s.Perm l) (hs : s.Pairwise fun x y => ltOf sgCf y x = false) (hd : l.Pairwise fun x y => sgCf x y ≠ 0) : s.Pairwise fun x y => sgCf x y < 0 := by
  have hd' : s.Pairwise fun x y => sgCf x y ≠ 0 := (hp.pairwise_iff (fun {x y} h e => h (sgKey_zero.2 (by obtain ⟨h1, h2⟩ := sgKey_zero.1 e; exact ⟨h1.symm, h2.symm⟩)))).2 hd
  refine (hs.and hd').imp ?_
  rintro x y ⟨h1, h2⟩
  rw [sgLt_no] at h1
  rw [ne_eq, sgKey_zero] at h2
  rw [sgKey_neg]
  have e1 := @cmpB_neg x.dev y.dev
  have e2 := @cmpB_zero x.dev y.dev
  have e3 := @cmpB_zero y.dev x.dev
  by_cases hdv : x.dev = y.dev
  · have a1 := e2.2 hdv
    have a2 := e3.2 hdv.symm
    have hno : x.no ≠ y.no := fun h => h2 ⟨hdv, h⟩
    omega
  · have a1 : cmpB y.dev x.dev ≠ 0 := fun h => hdv (e3.1 h).symm
    omega
def MrgT (a b : List Sg) (E : Int) (out : List Sg) : Prop :=
  (mrg a b = none ∧ E = 13 ∧ out = []) ∨ ∃ p s, mrg a b = some p ∧ SgSorted (a ++ p) s ∧ ((sigErr s ≠ 0 ∧ E = sigErr s ∧ out = []) ∨ (sigErr s = 0 ∧ E = 0 ∧ out = s))
theorem mrgT_det {a b : List Sg} {E E' : Int} {o o' : List Sg} (ha : sigErr a = 0) (hb : sigErr b = 0) (h : MrgT a b E o) (h' : MrgT a b E' o') : E = E' ∧ o = o' := by
  rcases h with ⟨h1, h2, h3⟩ | ⟨p, s, h1, h2, h3⟩
  · rcases h' with ⟨_, h5, h6⟩ | ⟨q, _, h4, _⟩
    · exact ⟨h2.trans h5.symm, h3.trans h6.symm⟩
    · rw [h1] at h4; cases h4
  · rcases h' with ⟨h4, _⟩ | ⟨q, s', h4, h5, h6⟩
    · rw [h1] at h4; cases h4
    · rw [h1] at h4
      obtain rfl := Option.some.inj h4
      have hs : s = s' := by
        refine sorted_uniq (h2.1.trans h5.1.symm) (sg_strict h2.1 h2.2 ?_) h5.2
        obtain ⟨s1, s2⟩ := mrg_ids h1
        rw [List.pairwise_append]
        refine ⟨(sigErr_sorted ha).2.imp (fun h e => by omega), ((sigErr_sorted hb).2.sublist s1).imp (fun h e => by omega), fun x hx y hy => s2 y hy x hx⟩
      subst hs
      rcases h3 with ⟨a1, a2, a3⟩ | ⟨a1, a2, a3⟩
      · rcases h6 with ⟨b1, b2, b3⟩ | ⟨b1, b2, b3⟩
        · exact ⟨a2.trans b2.symm, a3.trans b3.symm⟩
        · exact absurd b1 a1
      · rcases h6 with ⟨b1, b2, b3⟩ | ⟨b1, b2, b3⟩
        · exact absurd a1 b1
        · exact ⟨a2.trans b2.symm, a3.trans b3.symm⟩
theorem mrgT_or (a b : List Sg) {E : Int} {o : List Sg} (h : MrgR a b E o) : (orV [sigErr a, sigErr b] = 0 ∧ sigErr a = 0 ∧ sigErr b = 0 ∧ MrgT a b E o) ∨ (orV [sigErr a, sigErr b] ≠ 0 ∧ E = orV [sigErr a, sigErr b] ∧ o = []) := by
  simp only [orV]
  rcases h with ⟨h1, h2, h3⟩ | ⟨h1, h2, h3, h4⟩ | ⟨h1, h2, h3⟩
  · exact .inr ⟨by rw [if_pos h1]; exact h1, by rw [if_pos h1]; exact h2, h3⟩
  · exact .inr ⟨by rw [if_neg (by simpa using h1), if_pos h2]; exact h2, by rw [if_neg (by simpa using h1), if_pos h2]; exact h3, h4⟩
  · exact .inl ⟨by rw [h1, h2]; rfl, h1, h2, h3⟩
def sameKey (x y : Sg) : Bool := decide (sgCf y x = 0)
set_option maxRecDepth 100000 in
theorem smC_c (p1 : Nat) (x y : Sg) (w : World) (h1 : w.heap[p1]? = some (.cells (sgE x).toArray 32 (0, 0))) :
    Calls Tryd.prog 46 #[.agg (sgE y).toArray, .pointer (some ⟨p1, 0, none⟩)] w fun e w' => e = .returned (.bool (sameKey x y)) ∧ Below w.heap.size w w' := by
  have hcase : (sameKey x y = true ∧ (sgCf y x == 0) = true) ∨ (sameKey x y = false ∧ (sgCf y x == 0) = false) := by
    unfold sameKey
    by_cases e : sgCf y x = 0
    · exact .inl ⟨decide_eq_true e, by simpa using e⟩
    · exact .inr ⟨decide_eq_false e, by simpa using e⟩
  have hB := Lib.hid (fun W => bySignal_c y x W)
  generalize sgCf y x = V at *
  obtain ⟨dev2, no2, kind2, tm2, lane2, time2⟩ := y
  obtain ⟨dev, no, kind, tm, lane, time⟩ := x
  dsimp only [sgE] at *
  generalize sameKey ⟨dev, no, kind, tm, lane, time⟩ ⟨dev2, no2, kind2, tm2, lane2, time2⟩ = R at *
  have hBn := below_new w (.cells #[.string dev2, .int .i64 no2, .int .i64 kind2, .int .i64 tm2, .int .i64 lane2, .int .i64 time2] 32)
  have hn0 := heap_alloc_new w (.cells #[.string dev2, .int .i64 no2, .int .i64 kind2, .int .i64 tm2, .int .i64 lane2, .int .i64 time2] 32)
  have hp1 := blk_below h1 hBn
  have a10 := (blk_facts hp1).1 0
  have x0 := (blk_facts hn0).1 0
  have a11 := (blk_facts hp1).1 1
  have x1 := (blk_facts hn0).1 1
  have a12 := (blk_facts hp1).1 2
  have x2 := (blk_facts hn0).1 2
  have a13 := (blk_facts hp1).1 3
  have x3 := (blk_facts hn0).1 3
  have a14 := (blk_facts hp1).1 4
  have x4 := (blk_facts hn0).1 4
  have a15 := (blk_facts hp1).1 5
  have x5 := (blk_facts hn0).1 5
  have hl1 := lt_of_heap h1
  clear hn0 h1
  go_enter Tryd.func46, Tryd.ntmps46
  go_wp2_with fail
  refine (hB.out _).mono ?_; rintro e w1 ⟨rfl, B1, _⟩
  have hB1 := below_next hBn B1
  rcases hcase with ⟨rfl, b0⟩ | ⟨rfl, b0⟩
  all_goals
    go_wp2
    go_ret
    exact ⟨rfl, hB1⟩
theorem idxSm_c (p : Sg → Bool) (p1 : Nat) (A : Option Addr) (n c : Nat) (l : List Sg) (w : World) (h : RSg w A n l) (hP : ∀ (x : Sg), x ∈ l → ∀ W, Below w.heap.size w W → Calls Tryd.prog 46 #[.agg (sgE x).toArray, .pointer (some ⟨p1, 0, none⟩)] W fun e w' => e = .returned (.bool (p x)) ∧ Below W.heap.size W w') :
    Calls Tryd.prog 45 #[.slice A n c, .func (.func 46) #[] #[.pointer (some ⟨p1, 0, none⟩)]] w fun e w' => ∃ i : Int, e = .returned (.int .i64 i) ∧ ((i = -1 ∧ ∀ x ∈ l, p x = false) ∨ ∃ (k : Nat) (x : Sg), i = k ∧ l[k]? = some x ∧ p x = true) ∧ Below w.heap.size w w' := by
  have hz := Lib.hid hP
  have hR := Lib.hid (fun W B => h.below (w' := W) B)
  have hl := Lib.hid h.len
  have hbd := h.bd
  clear hP h
  go_enter Tryd.func45, Tryd.ntmps45
  go_wp2_with fail
  go_loopw [8] (fun i wr => ∃ k : Nat, k ≤ n ∧ i = .int .i64 k ∧ Below w.heap.size w wr ∧ Hid (∀ x ∈ l.take k, p x = false)) (fun i _ => n - (intOf i).toNat)
  case atStart => exact ⟨0, Nat.zero_le _, rfl, Below.refl _ _, Lib.hid (fun x hx => by simp at hx)⟩
  case round =>
    rename World => wr
    obtain ⟨k, hk, rfl, hB, hF⟩ := hrel
    by_cases hlt : k < n
    · obtain ⟨b, off, x, rfl, hbl, hx, c0, c1, c2, c3, c4, c5⟩ := RSg_at6 (hR.out _ hB) hlt
      have hx' := Lib.hid hx
      have hzx := Lib.hid (hz.out x (List.mem_of_getElem? hx) wr hB)
      obtain ⟨pb, hpb⟩ : ∃ pb, p x = pb := ⟨_, rfl⟩
      rw [hpb] at hzx
      have hpb' := Lib.hid hpb
      obtain ⟨dev, no, kind, tm, lane, time⟩ := x
      dsimp only [sgE] at *
      clear hx hpb
      cases pb
      · have hF2 := Lib.hid (show ∀ x ∈ l.take (k + 1), p x = false from fun x hx => by
          rw [List.take_add_one, hx'.out] at hx
          rcases List.mem_append.1 hx with hx | hx
          · exact hF.out x hx
          · simp at hx; subst hx; exact hpb'.out)
        clear hF hx' hpb'
        go_wp2_with fail
        refine hzx.out.mono ?_; rintro e w1 ⟨rfl, B1⟩
        have hB1 := below_next hB B1
        go_wp2
        go_roundw
        case rel => exact ⟨k + 1, by omega, by go_num, hB1, hF2⟩
        case measure => simp [intOf]; omega
      · go_wp2_with fail
        refine hzx.out.mono ?_; rintro e w1 ⟨rfl, B1⟩
        have hB1 := below_next hB B1
        go_wp2
        go_ret
        exact ⟨_, rfl, .inr ⟨k, _, rfl, hx'.out, hpb'.out⟩, hB1⟩
    · obtain rfl : k = n := by omega
      have hI := Lib.hid (show ∀ x ∈ l, p x = false from fun x hx => hF.out x (by rw [List.take_of_length_le (by rw [hl.out]; exact Nat.le_refl _)]; exact hx))
      go_wp2
      go_ret
      exact ⟨_, rfl, .inl ⟨rfl, hI.out⟩, hB⟩
def RetMs (a b : List Sg) (w : World) (e : Ending) (w' : World) : Prop := ∃ (A' : Option Addr) (n' c' : Nat) (out : List Sg) (E : Int), e = .returned (.tuple #[.slice A' n' c', .int .i64 E]) ∧ RSg w' A' n' out ∧ CapOk A' n' c' ∧ MrgT a b E out ∧ Below w.heap.size w w'
theorem bySg_enters : ∀ args w, (callFunc 35 args).run Tryd.prog w = .ok (.enter 35 args) w := enters_of Tryd.func35 (by kernel_rfl) rfl
set_option maxHeartbeats 6400000 in
set_option maxRecDepth 100000 in
theorem signalsMerged_c (A B : Option Addr) (n c m d : Nat) (a b : List Sg) (w : World) (ha : RSg w A n a) (hb : RSg w B m b) (hn : n ≤ 400) (hm : m ≤ 400) (hs : Hid (a.Pairwise fun x y => sgCf x y < 0)) :
    Calls Tryd.prog 17 #[.slice A n c, .slice B m d] w (RetMs a b w) := by
  have hRa := Lib.hid (fun W (B : Below w.heap.size w W) => ha.below B)
  have hRb := Lib.hid (fun W (B : Below w.heap.size w W) => hb.below B)
  have hla := Lib.hid ha.len
  have hlb := Lib.hid hb.len
  have hG3 := Lib.hid (fun (h3 : mrg a b = none) => show MrgT a b 13 [] from .inl ⟨h3, rfl, rfl⟩)
  have hG4 := Lib.hid (fun (p s : List Sg) (h3 : mrg a b = some p) (h4 : SgSorted (a ++ p) s) (h5 : sigErr s ≠ 0) => show MrgT a b (sigErr s) [] from .inr ⟨p, s, h3, h4, .inl ⟨h5, rfl, rfl⟩⟩)
  have hG5 := Lib.hid (fun (p s : List Sg) (h3 : mrg a b = some p) (h4 : SgSorted (a ++ p) s) (h5 : sigErr s = 0) => show MrgT a b 0 s from .inr ⟨p, s, h3, h4, .inr ⟨h5, rfl, rfl⟩⟩)
  have hCl := Lib.hid (cloneSg_c A n c a w ha (by omega))
  clear ha hb
  go_enter Tryd.func17, Tryd.ntmps17
  go_wp2_with fail
  refine hCl.out.mono ?_; rintro e w3 ⟨A3, c3, rfl, own3, hB3⟩
  clear hCl
  go_wp2_with fail
  go_loopw [6, 15] (fun u i wx => ∃ (j : Nat) (P : List Sg), j ≤ m ∧ i = .int .i64 j ∧ wx.ownsRow w.heap.size 32 6 u (n + P.length) ((a ++ P).flatMap sgE) ∧ Below w.heap.size w wx ∧ P.length ≤ j ∧ Hid (mrg a b = (mrg a (b.drop j)).map (P ++ ·))) (fun _ i _ => m - (intOf i).toNat)
  case atStart => exact ⟨0, [], Nat.zero_le _, rfl, by rw [List.append_nil]; exact own3, hB3, Nat.le_refl _, Lib.hid (by rw [List.drop_zero]; simp)⟩
  case round =>
    clear own3 hB3
    rename World => wx
    obtain ⟨j, P, hj, rfl, how, hB, hPj, hF⟩ := hrel
    by_cases hlt : j < m
    · have hlti : (j : Int) < m := by omega
      obtain ⟨b', off, x, rfl, hbl, hx, p0, p1, p2, p3, p4, p5⟩ := RSg_at6 (hRb.out _ hB) hlt
      have hx' := Lib.hid hx
      clear hx
      have hn0 := heap_alloc_new wx (.cells (sgE x).toArray 32)
      have how0 := own_below how (below_new wx (.cells (sgE x).toArray 32))
      have hB0 := below_next hB (below_new wx (.cells (sgE x).toArray 32))
      have hI := Lib.hid (idxSm_c (sameKey x) wx.heap.size A n c a (wx.alloc (.cells (sgE x).toArray 32)) (hRa.out _ hB0) (fun y _ W BW => smC_c wx.heap.size x y W (blk_below hn0 BW)))
      have hsd := Lib.hid (fun (y : Sg) => show sameKey x y = decide (sgCf y x = 0) from rfl)
      generalize sameKey x = sm at *
      obtain ⟨dev, no, kind, tm, lane, time⟩ := x
      dsimp only [sgE] at *
      have hwz := hB.size
      clear how
      go_wp2_with fail
      refine hI.out.mono ?_; rintro e w6 ⟨i, rfl, hi, B6⟩
      have hb6 := blk_below hn0 B6
      have how6 := own_below how0 B6
      have hB6 := below_next hB0 B6
      have hz6 : wx.heap.size < w6.heap.size := lt_of_heap hb6
      clear hI hn0 how0 hB0 B6 p0 p1 p2 p3 p4 p5
      have x0 := (blk_facts hb6).1 0
      have x1 := (blk_facts hb6).1 1
      have x2 := (blk_facts hb6).1 2
      have x3 := (blk_facts hb6).1 3
      have x4 := (blk_facts hb6).1 4
      have x5 := (blk_facts hb6).1 5
      have hw6 : w.heap.size ≤ w6.heap.size := hB6.size
      rcases hi with ⟨rfl, hi⟩ | ⟨k, y, rfl, hy, hyx⟩
      · have hnew := Lib.hid (fun (P : List Sg) hF => mrg_new (P := P) hx'.out (fun y hy => by have h9 := hi y hy; rw [hsd.out] at h9; exact of_decide_eq_false h9) hF)
        clear hi hsd
        go_wp2_with (at_builtin; refine wpList_app rfl (.tmp 25) (.tmp 27) 26 rfl Tryd.underlying26 info_signal rfl (by omega) (by omega) how6 rfl rfl (by first | rfl | (simp; done)) rfl (by simp [Value.oneCell']) (by omega) hw6 ?_; intro v7 w7 hown7 hg7; have hB7 := below_own hB6 how6 hg7 hw6 (Nat.le_refl _))
        go_roundw
        case rel => exact ⟨j + 1, P ++ [⟨dev, no, kind, tm, lane, time⟩], by omega, by go_num, by rw [← List.append_assoc, flat_app1, List.length_append]; exact hown7, hB7, by rw [List.length_append]; simp; omega, Lib.hid (hnew.out P hF.out)⟩
        case measure => simp [intOf]; omega
      · have hk : k < n := by have := lt_of_at hy; rw [hla.out] at this; exact this
        have hym := List.mem_of_getElem? hy
        rw [hsd.out] at hyx
        have hyx' : sgCf y ⟨dev, no, kind, tm, lane, time⟩ = 0 := of_decide_eq_true hyx
        obtain ⟨b2, off2, y', rfl, hbl2, hy2, q0, q1, q2, q3, q4, q5⟩ := RSg_at6 (hRa.out _ hB6) hk
        obtain rfl : y = y' := by rw [hy] at hy2; exact Option.some.inj hy2
        have hki : (k : Int) < n := by omega
        clear hy hy2 hyx hsd
        by_cases hxy : y = ⟨dev, no, kind, tm, lane, time⟩
        · subst hxy
          dsimp only at q0 q1 q2 q3 q4 q5
          have hold := Lib.hid (mrg_old hs.out hx'.out hym hF.out)
          clear hyx' hym
          go_wp2
          go_quiet (fail)
          go_wp2
          go_roundw
          case rel => exact ⟨j + 1, P, by omega, by go_num, own_below how6 (below_drewN (Below.refl _ _) _), below_drewN hB6 _, by omega, hold⟩
          case measure => simp [intOf]; omega
        · have hbad := Lib.hid (hG3.out (mrg_bad hs.out hx'.out hym hyx' hxy hF.out))
          clear hym
          obtain ⟨dev2, no2, kind2, tm2, lane2, time2⟩ := y
          dsimp only at q0 q1 q2 q3 q4 q5
          obtain ⟨ek1, ek2⟩ := sgKey_zero.1 hyx'
          dsimp only at ek1 ek2
          subst ek1 ek2
          have hcases : ((kind2 == kind) = false) ∨ (kind2 = kind ∧ (((tm2 == tm) = false) ∨ (tm2 = tm ∧ (((lane2 == lane) = false) ∨ (lane2 = lane ∧ ((time2 == time) = false)))))) := by
            by_cases q1 : kind2 = kind
            · refine .inr ⟨q1, ?_⟩
              by_cases q2 : tm2 = tm
              · refine .inr ⟨q2, ?_⟩
                by_cases q3 : lane2 = lane
                · refine .inr ⟨q3, ?_⟩
                  exact beq_eq_false_iff_ne.2 (fun q6 => hxy (by rw [q1, q2, q3, q6]))
                · exact .inl (beq_eq_false_iff_ne.2 q3)
              · exact .inl (beq_eq_false_iff_ne.2 q2)
            · exact .inl (beq_eq_false_iff_ne.2 q1)
          clear hxy hyx'
          rcases hcases with h1 | ⟨rfl, h2 | ⟨rfl, h3 | ⟨rfl, h4⟩⟩⟩
          all_goals
            go_wp2
            go_quiet (fail)
            go_wp2
            go_ret2
            exact ⟨none, 0, 0, [], 13, rfl, RN.nil_ _ _ _ _ _, .inl ⟨rfl, rfl, rfl⟩, hbad.out, below_drewN hB6 _⟩
    · obtain rfl : j = m := by omega
      have hmp := Lib.hid (show mrg a b = some P by
        rw [hF.out, drop_end (by rw [hlb.out]; exact Nat.le_refl _)]
        simp [mrg])
      obtain ⟨A4, c4, rfl⟩ := own_shape how
      clear hF
      have hSo := Lib.hid (sortFSg_c 35 bySg_enters (fun x y W => bySignal_c x y W) (a ++ P) wx w.heap.size (n + P.length) _ how (by omega))
      go_wp2_with fail
      refine hSo.out.mono ?_; rintro e w5 ⟨rfl, s, own5, hs5, g5⟩
      have hB5 := below_own hB how g5 hB.size (Nat.le_refl _)
      have hl5 : s.length = n + P.length := by rw [hs5.1.length_eq, List.length_append, hla.out]
      have hR5 : RSg w5 A4 (n + P.length) s := RN.of_own sgE_len own5 hl5 (by omega)
      have hcp := Lib.hid (capOk_own own5)
      have hC5 := Lib.hid (signalsFault_c A4 (n + P.length) c4 s w5 hR5)
      have hh4 := Lib.hid (hG4.out P s hmp.out hs5)
      have hh5 := Lib.hid (hG5.out P s hmp.out hs5)
      clear hSo how hB g5 own5 hs5 hl5
      go_wp2_with fail
      refine hC5.out.mono ?_; rintro e w6 ⟨rfl, B6⟩
      have hB6 := below_next hB5 B6
      have hR6 := hR5.below B6
      clear hC5 hR5 B6 hB5
      by_cases h0 : sigErr s = 0
      · have hg := Lib.hid (hh5.out h0)
        clear hh4 hh5
        rw [h0]
        clear h0
        go_wp2
        go_ret2
        exact ⟨A4, n + P.length, c4, s, 0, rfl, hR6, hcp.out, hg.out, hB6⟩
      · have hg := Lib.hid (hh4.out h0)
        have hd : (sigErr s != 0) = true := by simpa using h0
        clear hh4 hh5 h0
        generalize sigErr s = E at *
        go_wp2
        go_ret2
        exact ⟨none, 0, 0, [], E, rfl, RN.nil_ _ _ _ _ _, .inl ⟨rfl, rfl, rfl⟩, hg.out, hB6⟩
/-- tumbref1.SignalsLacking's closure -/
theorem slC_c (p1 : Nat) (A : Option Addr) (n c : Nat) (a : List Sg) (y : Sg) (w : World) (h : RSg w A n a) (hn : n ≤ 1000) (h1 : w.heap[p1]? = some (.cells #[.slice A n c] 26 (0, 0))) :
    Calls Tryd.prog 49 #[.agg (sgE y).toArray, .pointer (some ⟨p1, 0, none⟩)] w fun e w' => e = .returned (.bool (decide (y ∈ a))) ∧ Below w.heap.size w w' := by
  have hR := Lib.hid (fun W B => h.below (w' := W) B)
  have hC := Lib.hid (fun W h => containsSg_c A n c a y W h hn)
  generalize decide (y ∈ a) = R at *
  obtain ⟨dev2, no2, kind2, tm2, lane2, time2⟩ := y
  dsimp only [sgE] at *
  have hBn := below_new w (.cells #[.string dev2, .int .i64 no2, .int .i64 kind2, .int .i64 tm2, .int .i64 lane2, .int .i64 time2] 32)
  have hn0 := heap_alloc_new w (.cells #[.string dev2, .int .i64 no2, .int .i64 kind2, .int .i64 tm2, .int .i64 lane2, .int .i64 time2] 32)
  have hp1 := blk_below h1 hBn
  have a10 := (blk_facts hp1).1 0
  have x0 := (blk_facts hn0).1 0
  have x1 := (blk_facts hn0).1 1
  have x2 := (blk_facts hn0).1 2
  have x3 := (blk_facts hn0).1 3
  have x4 := (blk_facts hn0).1 4
  have x5 := (blk_facts hn0).1 5
  have hl1 := lt_of_heap h1
  clear hn0 h1 hp1 h
  go_enter Tryd.func49, Tryd.ntmps49
  go_wp2_with fail
  refine (hC.out _ (hR.out _ hBn)).mono ?_; rintro e w1 ⟨rfl, B1⟩
  have hB1 := below_next hBn B1
  go_wp2
  go_ret
  exact ⟨rfl, hB1⟩
theorem restB_filter (a b : List Sg) : (b.filter fun y => !decide (y ∈ a)) = restB a b := by
  induction b with
  | nil => rfl
  | cons x r ih =>
    have := restB_at (a := a) (b := x :: r) (k := 0) (x := x) rfl
    rw [List.drop_zero] at this
    rw [this, List.filter_cons, ih]
    by_cases h : x ∈ a <;> simp [h]
theorem signalsLacking_c (A B : Option Addr) (n c m d : Nat) (a b : List Sg) (w : World) (ha : RSg w A n a) (hb : RSg w B m b) (hn : n ≤ 400) (hm : m ≤ 400) :
    Calls Tryd.prog 20 #[.slice A n c, .slice B m d] w fun e w' => ∃ A' n' c', e = .returned (.slice A' n' c') ∧ RSg w' A' n' (restB a b) ∧ Below w.heap.size w w' := by
  have hB0 := below_new w (.cells #[.slice A n c] 26)
  have hx0 := heap_alloc_new w (.cells #[.slice A n c] 26)
  have hCl := Lib.hid (cloneSg_c B m d b _ (hb.below hB0) (by omega))
  have hRa := Lib.hid (ha.below hB0)
  have hz0 : w.heap.size < (w.alloc (.cells #[.slice A n c] 26)).heap.size := by simp
  have hrf := Lib.hid (restB_filter a b)
  clear ha hb
  go_enter Tryd.func20, Tryd.ntmps20
  go_wp2_with fail
  refine hCl.out.mono ?_; rintro e w3 ⟨A3, c3, rfl, own3, B3⟩
  have hb3 := blk_below hx0 B3
  have hr3 := hRa.out.below B3
  have hB3 := below_next hB0 B3
  have hw3 := B3.size
  generalize w.alloc (.cells #[.slice A n c] 26) = w2 at *
  have hD := Lib.hid (deleteSx_c (fun y => decide (y ∈ a)) w.heap.size w2.heap.size _ m b w3 own3 (by omega) hw3 (fun x W hk hb => slC_c w.heap.size A n c a x W (hRa.out.below (B3.trans hb)) (by omega) (blk_below hx0 (B3.trans hb))))
  clear hCl hRa
  go_wp2_with fail
  refine hD.out.mono ?_; rintro e w4 ⟨A4, n4, c4, rfl, own4, hn4, B4⟩
  rw [hrf.out] at own4
  have hl4 := own_len sgE_len (by decide) own4
  have hR4 : RSg w4 A4 n4 (restB a b) := RN.of_own sgE_len own4 hl4 (by omega)
  have hB4 := hB3.trans (B4.mono (by omega))
  go_wp2
  go_ret
  exact ⟨_, _, _, rfl, hR4, hB4⟩
def momK (n : Int) : Int := if 0 ≤ n ∧ n ≤ 345686399999 then 0 else 1
def rgtE (l : List Ck) (dev : ByteArray) (at_ : Int) : Int := if clkErr l ≠ 0 then clkErr l else if keyB dev = false then 5 else momK at_
theorem ckBd_ok {l : List Ck} (h : clkErr l = 0) : CkBd l := fun x hx => ((clk_ok h).2 x hx).2
theorem padRightX_c (A : Option Addr) (n c : Nat) (l : List Ck) (dev : ByteArray) (at_ : Int) (w : World) (h : RCk w A n l) :
    Calls Tryd.prog 21 #[.slice A n c, .string dev, .int .i64 at_] w fun e w' => e = .returned (.tuple #[.int .i64 (if rgtE l dev at_ = 0 then rightV l dev at_ else 0), .int .i64 (rgtE l dev at_)]) ∧ Below w.heap.size w w' := by
  have hR := Lib.hid (fun W B => h.below (w' := W) B)
  have hC := Lib.hid (checkClocks_c A n c l w h)
  have hK := Lib.hid (fun W => isKey_c dev W)
  have hM := Lib.hid (fun W => isMoment_c at_ W)
  have hP := Lib.hid (fun W h (h0 : clkErr l = 0) (h1 : 0 ≤ at_ ∧ at_ ≤ 345686399999) => padRight_c A n c l dev at_ W h (ckBd_ok h0) h1)
  clear h
  by_cases h0 : clkErr l = 0
  rotate_left
  · have hE : rgtE l dev at_ = clkErr l := by unfold rgtE; rw [if_pos h0]
    rw [hE, if_neg h0]
    have hb : (clkErr l != 0) = true := by simpa using h0
    clear hE h0 hP
    generalize clkErr l = E at *
    go_enter Tryd.func21, Tryd.ntmps21
    go_wp2_with fail
    refine hC.out.mono ?_; rintro e w1 ⟨rfl, B1⟩
    go_wp2
    go_ret2
    exact ⟨rfl, B1⟩
  cases hk : keyB dev
  · have hE : rgtE l dev at_ = 5 := by unfold rgtE; rw [if_neg (by simpa using h0), if_pos hk]
    rw [hE, if_neg (by decide)]
    rw [h0] at hC
    rw [hk] at hK
    clear hE h0 hP hk
    go_enter Tryd.func21, Tryd.ntmps21
    go_wp2_with fail
    refine hC.out.mono ?_; rintro e w1 ⟨rfl, B1⟩
    go_wp2_with fail
    refine (hK.out _).mono ?_; rintro e w2 ⟨rfl, B2⟩
    have hB2 := below_next B1 B2
    go_wp2
    go_ret2
    exact ⟨rfl, hB2⟩
  by_cases h1 : 0 ≤ at_ ∧ at_ ≤ 345686399999
  · have hE : rgtE l dev at_ = 0 := by unfold rgtE momK; rw [if_neg (by simpa using h0), if_neg (by simp [hk]), if_pos h1]
    rw [hE, if_pos rfl]
    have hP' := Lib.hid (fun W h => hP.out W h h0 h1)
    rw [h0] at hC
    rw [hk] at hK
    rw [decide_eq_true h1] at hM
    clear hE h0 hP hk h1
    go_enter Tryd.func21, Tryd.ntmps21
    go_wp2_with fail
    refine hC.out.mono ?_; rintro e w1 ⟨rfl, B1⟩
    go_wp2_with fail
    refine (hK.out _).mono ?_; rintro e w2 ⟨rfl, B2⟩
    have hB2 := below_next B1 B2
    go_wp2_with fail
    refine (hM.out _).mono ?_; rintro e w3 ⟨rfl, rfl⟩
    go_wp2_with fail
    refine (hP'.out _ (hR.out _ hB2)).mono ?_; rintro e w4 ⟨rfl, B4⟩
    have hB4 := below_next hB2 B4
    go_wp2
    go_ret2
    exact ⟨rfl, hB4⟩
  · have hE : rgtE l dev at_ = 1 := by unfold rgtE momK; rw [if_neg (by simpa using h0), if_neg (by simp [hk]), if_neg h1]
    rw [hE, if_neg (by decide)]
    rw [h0] at hC
    rw [hk] at hK
    rw [decide_eq_false h1] at hM
    clear hE h0 hP hk h1
    go_enter Tryd.func21, Tryd.ntmps21
    go_wp2_with fail
    refine hC.out.mono ?_; rintro e w1 ⟨rfl, B1⟩
    go_wp2_with fail
    refine (hK.out _).mono ?_; rintro e w2 ⟨rfl, B2⟩
    have hB2 := below_next B1 B2
    go_wp2_with fail
    refine (hM.out _).mono ?_; rintro e w3 ⟨rfl, rfl⟩
    go_wp2
    go_ret2
    exact ⟨rfl, hB2⟩
end Go.Proofs.YtjafcnblgeibpaaDoor
