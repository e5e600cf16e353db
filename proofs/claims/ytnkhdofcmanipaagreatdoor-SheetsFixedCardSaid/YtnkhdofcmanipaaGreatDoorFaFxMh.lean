import Derived.Test.YtnkhdofcmanipaaGreatDoorFaFxM
/- tumbref1.FixesMerged. Printed by wip/mkfxmg.py out of MrgS. -/
namespace Go.Proofs.YtnkhdofcmanipaaGreatDoor
open Go.RowKit Go.Shelf Go.Lib Go.Sort
set_option linter.unusedVariables false

def MgxT (a b : List Fx) (E : Int) (out : List Fx) : Prop :=
  (mgx a b = none ∧ E = 13 ∧ out = []) ∨ ∃ p, mgx a b = some p ∧ ((300 < (a ++ p).length ∧ E = 2 ∧ out = []) ∨ ((a ++ p).length ≤ 300 ∧ E = 0 ∧ FxSorted (a ++ p) out))
def sameFx (x y : Fx) : Bool := decide (fxCf y x = 0)
set_option maxRecDepth 100000 in
theorem fmC_c (p1 : Nat) (x y : Fx) (w : World) (h1 : w.heap[p1]? = some (.cells (fxE x).toArray 69 (0, 0))) :
    Calls Tryz.prog 66 #[.agg (fxE y).toArray, .pointer (some ⟨p1, 0, none⟩)] w fun e w' => e = .returned (.bool (sameFx x y)) ∧ Below w.heap.size w w' := by
  have hcase : (sameFx x y = true ∧ (fxCf y x == 0) = true) ∨ (sameFx x y = false ∧ (fxCf y x == 0) = false) := by
    unfold sameFx
    by_cases e : fxCf y x = 0
    · exact .inl ⟨decide_eq_true e, by simpa using e⟩
    · exact .inr ⟨decide_eq_false e, by simpa using e⟩
  have hB := Lib.hid (fun W => byFix_c y x W)
  generalize fxCf y x = V at *
  obtain ⟨rc2, ht2, ln2, le2, tm2, vr2, by_2⟩ := y
  obtain ⟨rc, ht, ln, le, tm, vr, by_⟩ := x
  dsimp only [fxE] at *
  generalize sameFx ⟨rc, ht, ln, le, tm, vr, by_⟩ ⟨rc2, ht2, ln2, le2, tm2, vr2, by_2⟩ = R at *
  have hBn := below_new w (.cells #[.string rc2, .int .i64 ht2, .int .i64 ln2, .int .i64 le2, .int .i64 tm2, .int .i64 vr2, .string by_2] 69)
  have hn0 := heap_alloc_new w (.cells #[.string rc2, .int .i64 ht2, .int .i64 ln2, .int .i64 le2, .int .i64 tm2, .int .i64 vr2, .string by_2] 69)
  have hp1 := blk_below h1 hBn
  have a10 := (blk_facts hp1).1 0
  have x0 := (blk_facts hn0).1 0
  have a11 := (blk_facts hp1).1 1
  have x1 := (blk_facts hn0).1 1
  have a12 := (blk_facts hp1).1 2
  have x2 := (blk_facts hn0).1 2
  have a13 := (blk_facts hp1).1 3
  have x3 := (blk_facts hn0).1 3
  have a14 := (blk_facts hp1).1 4
  have x4 := (blk_facts hn0).1 4
  have a15 := (blk_facts hp1).1 5
  have x5 := (blk_facts hn0).1 5
  have a16 := (blk_facts hp1).1 6
  have x6 := (blk_facts hn0).1 6
  have hl1 := lt_of_heap h1
  clear hn0 h1
  go_enter Tryz.func66, Tryz.ntmps66
  go_wp2_with fail
  refine (hB.out _).mono ?_; rintro e w1 ⟨rfl, B1, _⟩
  have hB1 := below_next hBn B1
  rcases hcase with ⟨rfl, b0⟩ | ⟨rfl, b0⟩
  all_goals
    go_wp2
    go_ret
    exact ⟨rfl, hB1⟩
theorem idxFm_c (p : Fx → Bool) (p1 : Nat) (A : Option Addr) (n c : Nat) (l : List Fx) (w : World) (h : RFx w A n l) (hP : ∀ (x : Fx), x ∈ l → ∀ W, Below w.heap.size w W → Calls Tryz.prog 66 #[.agg (fxE x).toArray, .pointer (some ⟨p1, 0, none⟩)] W fun e w' => e = .returned (.bool (p x)) ∧ Below W.heap.size W w') :
    Calls Tryz.prog 65 #[.slice A n c, .func (.func 66) #[] #[.pointer (some ⟨p1, 0, none⟩)]] w fun e w' => ∃ i : Int, e = .returned (.int .i64 i) ∧ ((i = -1 ∧ ∀ x ∈ l, p x = false) ∨ ∃ (k : Nat) (x : Fx), i = k ∧ l[k]? = some x ∧ p x = true) ∧ Below w.heap.size w w' := by
  have hz := Lib.hid hP
  have hR := Lib.hid (fun W B => h.below (w' := W) B)
  have hl := Lib.hid h.len
  have hbd := h.bd
  clear hP h
  go_enter Tryz.func65, Tryz.ntmps65
  go_wp2_with fail
  go_loopw [8] (fun i wr => ∃ k : Nat, k ≤ n ∧ i = .int .i64 k ∧ Below w.heap.size w wr ∧ Hid (∀ x ∈ l.take k, p x = false)) (fun i _ => n - (intOf i).toNat)
  case atStart => exact ⟨0, Nat.zero_le _, rfl, Below.refl _ _, Lib.hid (fun x hx => by simp at hx)⟩
  case round =>
    rename World => wr
    obtain ⟨k, hk, rfl, hB, hF⟩ := hrel
    by_cases hlt : k < n
    · obtain ⟨b, off, x, rfl, hbl, hx, c0, c1, c2, c3, c4, c5, c6⟩ := RFx_at7 (hR.out _ hB) hlt
      have hx' := Lib.hid hx
      have hzx := Lib.hid (hz.out x (List.mem_of_getElem? hx) wr hB)
      obtain ⟨pb, hpb⟩ : ∃ pb, p x = pb := ⟨_, rfl⟩
      rw [hpb] at hzx
      have hpb' := Lib.hid hpb
      obtain ⟨rc, ht, ln, le, tm, vr, by_⟩ := x
      dsimp only [fxE] at *
      clear hx hpb
      cases pb
      · have hF2 := Lib.hid (show ∀ x ∈ l.take (k + 1), p x = false from fun x hx => by
          rw [List.take_add_one, hx'.out] at hx
          rcases List.mem_append.1 hx with hx | hx
          · exact hF.out x hx
          · simp at hx; subst hx; exact hpb'.out)
        clear hF hx' hpb'
        go_wp2_with fail
        refine hzx.out.mono ?_; rintro e w1 ⟨rfl, B1⟩
        have hB1 := below_next hB B1
        go_wp2
        go_roundw
        case rel => exact ⟨k + 1, by omega, by go_num, hB1, hF2⟩
        case measure => simp [intOf]; omega
      · go_wp2_with fail
        refine hzx.out.mono ?_; rintro e w1 ⟨rfl, B1⟩
        have hB1 := below_next hB B1
        go_wp2
        go_ret
        exact ⟨_, rfl, .inr ⟨k, _, rfl, hx'.out, hpb'.out⟩, hB1⟩
    · obtain rfl : k = n := by omega
      have hI := Lib.hid (show ∀ x ∈ l, p x = false from fun x hx => hF.out x (by rw [List.take_of_length_le (by rw [hl.out]; exact Nat.le_refl _)]; exact hx))
      go_wp2
      go_ret
      exact ⟨_, rfl, .inl ⟨rfl, hI.out⟩, hB⟩
def RetMxs (a b : List Fx) (w : World) (e : Ending) (w' : World) : Prop := ∃ (A' : Option Addr) (n' c' : Nat) (out : List Fx) (E : Int), e = .returned (.tuple #[.slice A' n' c', .int .i64 E]) ∧ RFx w' A' n' out ∧ MgxT a b E out ∧ Below w.heap.size w w'
theorem byFx_enters : ∀ args w, (callFunc 58 args).run Tryz.prog w = .ok (.enter 58 args) w := enters_of Tryz.func58 (by kernel_rfl) rfl
set_option maxHeartbeats 6400000 in
set_option maxRecDepth 100000 in
theorem fixesMerged_c (A B : Option Addr) (n c m d : Nat) (a b : List Fx) (w : World) (ha : RFx w A n a) (hb : RFx w B m b) (hn : n ≤ 400) (hm : m ≤ 400) (hs : Hid (a.Pairwise fun x y => fxCf x y < 0)) :
    Calls Tryz.prog 25 #[.slice A n c, .slice B m d] w (RetMxs a b w) := by
  have hRa := Lib.hid (fun W (B : Below w.heap.size w W) => ha.below B)
  have hRb := Lib.hid (fun W (B : Below w.heap.size w W) => hb.below B)
  have hla := Lib.hid ha.len
  have hlb := Lib.hid hb.len
  have hG3 := Lib.hid (fun (h3 : mgx a b = none) => show MgxT a b 13 [] from .inl ⟨h3, rfl, rfl⟩)
  have hG4 := Lib.hid (fun (p : List Fx) (h3 : mgx a b = some p) (h4 : 300 < (a ++ p).length) => show MgxT a b 2 [] from .inr ⟨p, h3, .inl ⟨h4, rfl, rfl⟩⟩)
  have hG5 := Lib.hid (fun (p s : List Fx) (h3 : mgx a b = some p) (h4 : FxSorted (a ++ p) s) (h5 : (a ++ p).length ≤ 300) => show MgxT a b 0 s from .inr ⟨p, h3, .inr ⟨h5, rfl, h4⟩⟩)
  have hCl := Lib.hid (cloneFx_c A n c a w ha (by omega))
  clear ha hb
  go_enter Tryz.func25, Tryz.ntmps25
  go_wp2_with fail
  refine hCl.out.mono ?_; rintro e w3 ⟨A3, c3, rfl, own3, hB3⟩
  clear hCl
  go_wp2_with fail
  go_loopw [6, 14] (fun u i wx => ∃ (j : Nat) (P : List Fx), j ≤ m ∧ i = .int .i64 j ∧ wx.ownsRow w.heap.size 69 7 u (n + P.length) ((a ++ P).flatMap fxE) ∧ Below w.heap.size w wx ∧ P.length ≤ j ∧ Hid (mgx a b = (mgx a (b.drop j)).map (P ++ ·))) (fun _ i _ => m - (intOf i).toNat)
  case atStart => exact ⟨0, [], Nat.zero_le _, rfl, by rw [List.append_nil]; exact own3, hB3, Nat.le_refl _, Lib.hid (by rw [List.drop_zero]; simp)⟩
  case round =>
    clear own3 hB3
    rename World => wx
    obtain ⟨j, P, hj, rfl, how, hB, hPj, hF⟩ := hrel
    by_cases hlt : j < m
    · have hlti : (j : Int) < m := by omega
      obtain ⟨b', off, x, rfl, hbl, hx, p0, p1, p2, p3, p4, p5, p6⟩ := RFx_at7 (hRb.out _ hB) hlt
      have hx' := Lib.hid hx
      clear hx
      have hn0 := heap_alloc_new wx (.cells (fxE x).toArray 69)
      have how0 := own_below how (below_new wx (.cells (fxE x).toArray 69))
      have hB0 := below_next hB (below_new wx (.cells (fxE x).toArray 69))
      have hI := Lib.hid (idxFm_c (sameFx x) wx.heap.size A n c a (wx.alloc (.cells (fxE x).toArray 69)) (hRa.out _ hB0) (fun y _ W BW => fmC_c wx.heap.size x y W (blk_below hn0 BW)))
      have hsd := Lib.hid (fun (y : Fx) => show sameFx x y = decide (fxCf y x = 0) from rfl)
      generalize sameFx x = sm at *
      obtain ⟨rc, ht, ln, le, tm, vr, by_⟩ := x
      dsimp only [fxE] at *
      have hwz := hB.size
      clear how
      go_wp2_with fail
      refine hI.out.mono ?_; rintro e w6 ⟨i, rfl, hi, B6⟩
      have hb6 := blk_below hn0 B6
      have how6 := own_below how0 B6
      have hB6 := below_next hB0 B6
      have hz6 : wx.heap.size < w6.heap.size := lt_of_heap hb6
      clear hI hn0 how0 hB0 B6 p0 p1 p2 p3 p4 p5 p6
      have x0 := (blk_facts hb6).1 0
      have x1 := (blk_facts hb6).1 1
      have x2 := (blk_facts hb6).1 2
      have x3 := (blk_facts hb6).1 3
      have x4 := (blk_facts hb6).1 4
      have x5 := (blk_facts hb6).1 5
      have x6 := (blk_facts hb6).1 6
      have hw6 : w.heap.size ≤ w6.heap.size := hB6.size
      rcases hi with ⟨rfl, hi⟩ | ⟨k, y, rfl, hy, hyx⟩
      · have hnew := Lib.hid (fun (P : List Fx) hF => mgx_new (P := P) hx'.out (fun y hy => by have h9 := hi y hy; rw [hsd.out] at h9; exact of_decide_eq_false h9) hF)
        clear hi hsd
        go_wp2_with (at_builtin; refine wpList_app rfl (.tmp 24) (.tmp 26) 53 rfl Tryz.underlying53 info_fix rfl (by omega) (by omega) how6 rfl rfl (by first | rfl | (simp; done)) rfl (by simp [Value.oneCell']) (by omega) hw6 ?_; intro v7 w7 hown7 hg7; have hB7 := below_own hB6 how6 hg7 hw6 (Nat.le_refl _))
        go_roundw
        case rel => exact ⟨j + 1, P ++ [⟨rc, ht, ln, le, tm, vr, by_⟩], by omega, by go_num, by rw [← List.append_assoc, flat_appX, List.length_append]; exact hown7, hB7, by rw [List.length_append]; simp; omega, Lib.hid (hnew.out P hF.out)⟩
        case measure => simp [intOf]; omega
      · have hk : k < n := by have := lt_of_at hy; rw [hla.out] at this; exact this
        have hym := List.mem_of_getElem? hy
        rw [hsd.out] at hyx
        have hyx' : fxCf y ⟨rc, ht, ln, le, tm, vr, by_⟩ = 0 := of_decide_eq_true hyx
        obtain ⟨b2, off2, y', rfl, hbl2, hy2, q0, q1, q2, q3, q4, q5, q6⟩ := RFx_at7 (hRa.out _ hB6) hk
        obtain rfl : y = y' := by rw [hy] at hy2; exact Option.some.inj hy2
        have hki : (k : Int) < n := by omega
        clear hy hy2 hyx hsd
        by_cases hxy : y = ⟨rc, ht, ln, le, tm, vr, by_⟩
        · subst hxy
          dsimp only at q0 q1 q2 q3 q4 q5 q6
          have hold := Lib.hid (mgx_old hs.out hx'.out hym hF.out)
          clear hyx' hym
          go_wp2
          go_quiet (fail)
          go_wp2
          go_roundw
          case rel => exact ⟨j + 1, P, by omega, by go_num, own_below how6 (below_drewN (Below.refl _ _) _), below_drewN hB6 _, by omega, hold⟩
          case measure => simp [intOf]; omega
        · have hbad := Lib.hid (hG3.out (mgx_bad hs.out hx'.out hym hyx' hxy hF.out))
          clear hym
          obtain ⟨rc2, ht2, ln2, le2, tm2, vr2, by_2⟩ := y
          dsimp only at q0 q1 q2 q3 q4 q5 q6
          obtain ⟨ek1, ek2, ek3, ek4, ek5⟩ := fxKey_zero.1 hyx'
          dsimp only at ek1 ek2 ek3 ek4 ek5
          subst ek1 ek2 ek3 ek4 ek5
          have hcases : ((tm2 == tm) = false) ∨ (tm2 = tm ∧ ((by_2.toList == by_.toList) = false)) := by
            by_cases q4 : tm2 = tm
            · exact .inr ⟨q4, str_neX (fun q6 => hxy (by rw [q4, q6]))⟩
            · exact .inl (beq_eq_false_iff_ne.2 q4)
          clear hxy hyx'
          rcases hcases with h1 | ⟨rfl, h2⟩
          all_goals
            go_wp2
            go_quiet (fail)
            go_wp2
            go_ret2
            exact ⟨none, 0, 0, [], 13, rfl, RN.nil_ _ _ _ _ _, hbad.out, below_drewN hB6 _⟩
    · obtain rfl : j = m := by omega
      have hmp := Lib.hid (show mgx a b = some P by
        rw [hF.out, drop_end (by rw [hlb.out]; exact Nat.le_refl _)]
        simp [mgx])
      obtain ⟨A4, c4, rfl⟩ := own_shape how
      have hlp := Lib.hid (show (a ++ P).length = n + P.length by rw [List.length_append, hla.out])
      by_cases hbg : 300 < n + P.length
      · have hg := Lib.hid (hG4.out P hmp.out (by rw [hlp.out]; exact hbg))
        have hbi : (300 : Int) < ((n + P.length : Nat) : Int) := by omega
        clear hG4 hG5 hlp
        go_wp2
        go_ret2
        exact ⟨none, 0, 0, [], 2, rfl, RN.nil_ _ _ _ _ _, hg.out, hB⟩
      have hSo := Lib.hid (sortFFx_c 58 byFx_enters (fun x y W => byFix_c x y W) (a ++ P) wx w.heap.size (n + P.length) _ how (by omega))
      have hbi : ¬ (300 : Int) < ((n + P.length : Nat) : Int) := by omega
      clear hF
      go_wp2_with fail
      refine hSo.out.mono ?_; rintro e w5 ⟨rfl, s, own5, hs5, g5⟩
      have hB5 := below_own hB how g5 hB.size (Nat.le_refl _)
      have hl5 : s.length = n + P.length := by rw [hs5.1.length_eq, List.length_append, hla.out]
      have hR5 : RFx w5 A4 (n + P.length) s := RN.of_own fxE_len own5 hl5 (by omega)
      have hg := Lib.hid (hG5.out P s hmp.out hs5 (by rw [hlp.out]; omega))
      clear hSo how hB g5 hs5 hl5 own5
      go_wp2
      go_ret2
      exact ⟨A4, n + P.length, c4, s, 0, rfl, hR5, hg.out, hB5⟩
end Go.Proofs.YtnkhdofcmanipaaGreatDoor
/- What FixesMerged answers is one thing: plain laws. -/
namespace Go.Proofs.YtnkhdofcmanipaaGreatDoor
open Go.RowKit Go.Shelf Go.Lib Go.Sort
set_option linter.unusedVariables false

theorem mgx_ids {a : List Fx} : ∀ {b p : List Fx}, mgx a b = some p → p.Sublist b ∧ ∀ x ∈ p, ∀ y ∈ a, fxCf y x ≠ 0
  | [], p, h => by simp [mgx] at h; subst h; exact ⟨.slnil, by simp⟩
  | x :: r, p, h => by
    unfold mgx at h
    split at h
    · rename_i hf
      cases e : mgx a r with
      | none => rw [e] at h; simp at h
      | some q =>
        rw [e] at h
        simp at h; subst h
        obtain ⟨h1, h2⟩ := mgx_ids e
        refine ⟨h1.cons_cons x, fun z hz y hy => ?_⟩
        rcases List.mem_cons.1 hz with rfl | hz
        · rw [List.find?_eq_none] at hf
          simpa using hf y hy
        · exact h2 z hz y hy
    · split at h
      · obtain ⟨h1, h2⟩ := mgx_ids h
        exact ⟨h1.cons x, h2⟩
      · cases h
theorem fxL_tri {x y : Fx} (h1 : ¬ fxL y x) (h2 : ¬ (x.ht = y.ht ∧ x.ln = y.ln ∧ x.le = y.le ∧ x.vr = y.vr)) : fxL x y := by
  unfold fxL at *
  omega
theorem fx_strict {s l : List Fx} (hp : s.Perm l) (hs : s.Pairwise fun x y => ltOf fxCf y x = false) (hd : l.Pairwise fun x y => fxCf x y ≠ 0) : s.Pairwise fun x y => fxCf x y < 0 := by
  have hd' : s.Pairwise fun x y => fxCf x y ≠ 0 := (hp.pairwise_iff (fun {x y} h e => h (fxKey_zero.2 (by obtain ⟨h1, h2, h3, h4, h5⟩ := fxKey_zero.1 e; exact ⟨h1.symm, h2.symm, h3.symm, h4.symm, h5.symm⟩)))).2 hd
  refine (hs.and hd').imp ?_
  rintro x y ⟨h1, h2⟩
  rw [fxLt_no] at h1
  rw [ne_eq, fxKey_zero] at h2
  rw [fxKey_neg]
  have e1 := @cmpB_neg x.rc y.rc
  have e2 := @cmpB_zero x.rc y.rc
  have e3 := @cmpB_zero y.rc x.rc
  by_cases hdv : x.rc = y.rc
  · have a1 := e2.2 hdv
    have a2 := e3.2 hdv.symm
    exact .inr ⟨a1, fxL_tri (fun h => h1 (.inr ⟨a2, h⟩)) (fun h => h2 ⟨hdv, h⟩)⟩
  · have a1 : cmpB y.rc x.rc ≠ 0 := fun h => hdv (e3.1 h).symm
    left
    have a3 : ¬ cmpB y.rc x.rc < 0 := fun h => h1 (.inl h)
    omega
theorem mgxT_det {a b : List Fx} {E E' : Int} {o o' : List Fx} (ha : fxErr a = 0) (hb : fxErr b = 0) (h : MgxT a b E o) (h' : MgxT a b E' o') : E = E' ∧ o = o' := by
  rcases h with ⟨h1, h2, h3⟩ | ⟨p, h1, h3⟩
  · rcases h' with ⟨_, h5, h6⟩ | ⟨q, h4, _⟩
    · exact ⟨h2.trans h5.symm, h3.trans h6.symm⟩
    · rw [h1] at h4; cases h4
  · rcases h' with ⟨h4, _⟩ | ⟨q, h4, h6⟩
    · rw [h1] at h4; cases h4
    · rw [h1] at h4
      obtain rfl := Option.some.inj h4
      rcases h3 with ⟨a1, a2, a3⟩ | ⟨a1, a2, a3⟩
      · rcases h6 with ⟨b1, b2, b3⟩ | ⟨b1, b2, b3⟩
        · exact ⟨a2.trans b2.symm, a3.trans b3.symm⟩
        · omega
      · rcases h6 with ⟨b1, b2, b3⟩ | ⟨b1, b2, b3⟩
        · omega
        · refine ⟨a2.trans b2.symm, fxSorted_uniq (a3.1.trans b3.1.symm) (fx_strict a3.1 a3.2 ?_) b3.2⟩
          obtain ⟨s1, s2⟩ := mgx_ids h1
          rw [List.pairwise_append]
          refine ⟨((fxErr_iff a).1 ha).2.2.imp (fun h e => by omega), (((fxErr_iff b).1 hb).2.2.sublist s1).imp (fun h e => by omega), fun x hx y hy => s2 y hy x hx⟩
theorem mgxT_or (a b : List Fx) {E : Int} {o : List Fx} (h : MgxR a b E o) : (orV [fxErr a, fxErr b] = 0 ∧ fxErr a = 0 ∧ fxErr b = 0 ∧ MgxT a b E o) ∨ (orV [fxErr a, fxErr b] ≠ 0 ∧ E = orV [fxErr a, fxErr b] ∧ o = []) := by
  simp only [orV]
  rcases h with ⟨h1, h2, h3⟩ | ⟨h1, h2, h3, h4⟩ | ⟨h1, h2, h3⟩
  · exact .inr ⟨by rw [if_pos h1]; exact h1, by rw [if_pos h1]; exact h2, h3⟩
  · exact .inr ⟨by rw [if_neg (by simpa using h1), if_pos h2]; exact h2, by rw [if_neg (by simpa using h1), if_pos h2]; exact h3, h4⟩
  · exact .inl ⟨by rw [h1, h2]; rfl, h1, h2, h3⟩
end Go.Proofs.YtnkhdofcmanipaaGreatDoor
