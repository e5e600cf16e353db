/- pad.MergeFixes. Printed by wip/genfxb.py. -/
import Derived.Test.YtnkhdofcmanipaaGreatDoorFaBinX
import Derived.Test.YtnkhdofcmanipaaGreatDoorFaFxS
namespace Go.Proofs.YtnkhdofcmanipaaGreatDoor
open Go.RowKit Go.Shelf Go.Lib Go.Sort
set_option linter.unusedVariables false

/-- what a merge puts behind the first list; none: two fixes of one key differ -/
def mgx (a : List Fx) : List Fx → Option (List Fx)
  | [] => some []
  | x :: r => match a.find? (fun y => fxCf y x == 0) with
    | none => (mgx a r).map (x :: ·)
    | some y => if y = x then mgx a r else none
theorem mgx_new {a b : List Fx} {k : Nat} {x : Fx} {P : List Fx} (hx : b[k]? = some x) (h : ∀ y ∈ a, fxCf y x ≠ 0) (hF : mgx a b = (mgx a (b.drop k)).map (P ++ ·)) : mgx a b = (mgx a (b.drop (k + 1))).map ((P ++ [x]) ++ ·) := by
  rw [hF, drop_at hx]
  have e : a.find? (fun y => fxCf y x == 0) = none := by
    rw [List.find?_eq_none]
    intro y hy
    simpa using h y hy
  simp only [mgx, e]
  cases mgx a (b.drop (k + 1)) <;> simp
theorem mgx_find {a : List Fx} {x y : Fx} (hs : a.Pairwise fun x y => fxCf x y < 0) (hy : y ∈ a) (h : fxCf y x = 0) : a.find? (fun y => fxCf y x == 0) = some y := by
  cases e : a.find? (fun y => fxCf y x == 0) with
  | none =>
    rw [List.find?_eq_none] at e
    exact absurd h (by simpa using e y hy)
  | some z =>
    have hz := List.mem_of_find?_eq_some e
    have h2 := List.find?_some e
    have h3 : fxCf z x = 0 := by simpa using h2
    obtain ⟨a1, a2, a3, a4, a5⟩ := fxKey_zero.1 h
    obtain ⟨b1, b2, b3, b4, b5⟩ := fxKey_zero.1 h3
    rw [fxKey_same hs hz hy (fxKey_zero.2 ⟨b1.trans a1.symm, b2.trans a2.symm, b3.trans a3.symm, b4.trans a4.symm, b5.trans a5.symm⟩)]
theorem mgx_old {a b : List Fx} {k : Nat} {x : Fx} {P : List Fx} (hs : a.Pairwise fun x y => fxCf x y < 0) (hx : b[k]? = some x) (hy : x ∈ a) (hF : mgx a b = (mgx a (b.drop k)).map (P ++ ·)) : mgx a b = (mgx a (b.drop (k + 1))).map (P ++ ·) := by
  rw [hF, drop_at hx]
  have e := mgx_find hs hy (fxKey_zero.2 ⟨rfl, rfl, rfl, rfl, rfl⟩ : fxCf x x = 0)
  simp only [mgx, e, if_pos]
theorem mgx_bad {a b : List Fx} {k : Nat} {x y : Fx} {P : List Fx} (hs : a.Pairwise fun x y => fxCf x y < 0) (hx : b[k]? = some x) (hy : y ∈ a) (h : fxCf y x = 0) (hne : y ≠ x) (hF : mgx a b = (mgx a (b.drop k)).map (P ++ ·)) : mgx a b = none := by
  rw [hF, drop_at hx]
  have e := mgx_find hs hy h
  simp only [mgx, e, if_neg hne]
  rfl
/-- what a merge of fixes is -/
def MgxR (a b : List Fx) (E : Int) (out : List Fx) : Prop :=
  (fxErr a ≠ 0 ∧ E = fxErr a ∧ out = []) ∨ (fxErr a = 0 ∧ fxErr b ≠ 0 ∧ E = fxErr b ∧ out = []) ∨
  (fxErr a = 0 ∧ fxErr b = 0 ∧ ((mgx a b = none ∧ E = 13 ∧ out = []) ∨ ∃ p, mgx a b = some p ∧ ((300 < (a ++ p).length ∧ E = 2 ∧ out = []) ∨ ((a ++ p).length ≤ 300 ∧ E = 0 ∧ FxSorted (a ++ p) out))))
def RetMx (a b : List Fx) (w : World) (e : Ending) (w' : World) : Prop := ∃ (A' : Option Addr) (n' c' : Nat) (out : List Fx) (E : Int), e = .returned (.tuple #[.slice A' n' c', .int .i64 E]) ∧ RFx w' A' n' out ∧ MgxR a b E out ∧ (E = 0 → w'.ownsRow w.heap.size 69 7 (.slice A' n' c') n' (out.flatMap fxE)) ∧ Below w.heap.size w w'
theorem fxCmp_enters : ∀ args w, (callFunc 61 args).run Tryz.prog w = .ok (.enter 61 args) w := enters_of Tryz.func61 (by kernel_rfl) rfl
theorem flat_appX (l : List Fx) (x : Fx) : (l ++ [x]).flatMap fxE = l.flatMap fxE ++ fxE x := by rw [List.flatMap_append]; simp
set_option maxHeartbeats 6400000 in
set_option maxRecDepth 100000 in
theorem mergeX_c (A B : Option Addr) (n c m d : Nat) (a b : List Fx) (w : World) (ha : RFx w A n a) (hb : RFx w B m b) (hn : n ≤ 400) (hm : m ≤ 400) :
    Calls Tryz.prog 24 #[.slice A n c, .slice B m d] w (RetMx a b w) := by
  have hCk := Lib.hid (fun A n c l w h => checkFixes_c A n c l w h)
  have hRa := Lib.hid (fun W (B : Below w.heap.size w W) => ha.below B)
  have hRb := Lib.hid (fun W (B : Below w.heap.size w W) => hb.below B)
  have hla := Lib.hid ha.len
  have hlb := Lib.hid hb.len
  have hC1 := Lib.hid (checkFixes_c A n c a w ha)
  have hG1 := Lib.hid (fun (h1 : fxErr a ≠ 0) => show MgxR a b (fxErr a) [] from .inl ⟨h1, rfl, rfl⟩)
  have hG2 := Lib.hid (fun (h1 : fxErr a = 0) (h2 : fxErr b ≠ 0) => show MgxR a b (fxErr b) [] from .inr (.inl ⟨h1, h2, rfl, rfl⟩))
  have hG3 := Lib.hid (fun (h1 : fxErr a = 0) (h2 : fxErr b = 0) (h3 : mgx a b = none) => show MgxR a b 13 [] from .inr (.inr ⟨h1, h2, .inl ⟨h3, rfl, rfl⟩⟩))
  have hG4 := Lib.hid (fun (h1 : fxErr a = 0) (h2 : fxErr b = 0) (p : List Fx) (h3 : mgx a b = some p) (h5 : 300 < (a ++ p).length) => show MgxR a b 2 [] from .inr (.inr ⟨h1, h2, .inr ⟨p, h3, .inl ⟨h5, rfl, rfl⟩⟩⟩))
  have hG5 := Lib.hid (fun (h1 : fxErr a = 0) (h2 : fxErr b = 0) (p s : List Fx) (h3 : mgx a b = some p) (h4 : FxSorted (a ++ p) s) (h5 : (a ++ p).length ≤ 300) => show MgxR a b 0 s from .inr (.inr ⟨h1, h2, .inr ⟨p, h3, .inr ⟨h5, rfl, h4⟩⟩⟩))
  have hso := Lib.hid (fun (h : fxErr a = 0) => ((fxErr_iff a).1 h).2.2)
  have hC2 := Lib.hid (fun W (B' : Below w.heap.size w W) => checkFixes_c B m d b W (hRb.out W B'))
  clear ha hb
  generalize hEa : fxErr a = Ea at *
  generalize hEb : fxErr b = Eb at *
  have hEa' := Lib.hid hEa
  have hEb' := Lib.hid hEb
  clear hEa hEb
  go_enter Tryz.func24, Tryz.ntmps24
  go_wp2_with fail
  refine hC1.out.mono ?_; rintro e w1 ⟨rfl, B1⟩
  by_cases h0 : Ea = 0
  rotate_left
  · have hd : (Ea != 0) = true := by simpa using h0
    have h0x := h0
    have hg := hG1.out h0
    clear h0
    go_wp2
    go_ret2
    exact ⟨none, 0, 0, [], Ea, rfl, RN.nil_ _ _ _ _ _, hg, (fun e => absurd e h0x), B1⟩
  subst h0
  go_wp2_with fail
  refine (hC2.out _ B1).mono ?_; rintro e w2 ⟨rfl, B2⟩
  replace B2 := below_next B1 B2
  clear B1
  by_cases h0 : Eb = 0
  rotate_left
  · have hd : (Eb != 0) = true := by simpa using h0
    have h0x := h0
    have hg := hG2.out (by first | rfl | trivial) h0
    clear h0
    go_wp2
    go_ret2
    exact ⟨none, 0, 0, [], Eb, rfl, RN.nil_ _ _ _ _ _, hg, (fun e => absurd e h0x), B2⟩
  subst h0
  have hs := Lib.hid (hso.out (by first | rfl | trivial))
  go_wp2_with fail
  refine (cloneFx_c A n c a w2 (hRa.out _ B2) (by omega)).mono ?_; rintro e w3 ⟨A3, c3, rfl, own3, B3⟩
  have hB3 := below_next B2 B3
  replace own3 := own_mono own3 B2.size
  clear B2 B3
  go_wp2_with fail
  go_loopw [8, 27] (fun u i wr => ∃ (j : Nat) (P : List Fx), j ≤ m ∧ i = .int .i64 j ∧ wr.ownsRow w.heap.size 69 7 u (n + P.length) ((a ++ P).flatMap fxE) ∧ Below w.heap.size w wr ∧ P.length ≤ j ∧ Hid (mgx a b = (mgx a (b.drop j)).map (P ++ ·))) (fun _ i _ => m - (intOf i).toNat)
  case atStart => exact ⟨0, [], Nat.zero_le _, rfl, by rw [List.append_nil]; exact own3, hB3, Nat.le_refl _, Lib.hid (by rw [List.drop_zero]; simp)⟩
  case round =>
    clear own3 hB3
    rename World => wr
    obtain ⟨j, P, hj, rfl, how, hB, hPj, hF⟩ := hrel
    by_cases hlt : j < m
    · have hlti : (j : Int) < m := by omega
      obtain ⟨b', off, x, rfl, hbl, hx, p0, p1, p2, p3, p4, p5, p6⟩ := RFx_at7 (hRb.out _ hB) hlt
      have hx' := Lib.hid hx
      clear hx
      obtain ⟨rc, ht, ln, le, tm, vr, by_⟩ := x
      dsimp only at p0 p1 p2 p3 p4 p5 p6
      have hn0 := heap_alloc_new wr (.cells #[.string rc, .int .i64 ht, .int .i64 ln, .int .i64 le, .int .i64 tm, .int .i64 vr, .string by_] 69)
      have how0 := own_below how (below_new wr (.cells #[.string rc, .int .i64 ht, .int .i64 ln, .int .i64 le, .int .i64 tm, .int .i64 vr, .string by_] 69))
      have hB0 := below_next hB (below_new wr (.cells #[.string rc, .int .i64 ht, .int .i64 ln, .int .i64 le, .int .i64 tm, .int .i64 vr, .string by_] 69))
      have hwz := hB.size
      have hbs := Lib.hid (bsFx_c A n c a ⟨rc, ht, ln, le, tm, vr, by_⟩ (wr.alloc (.cells #[.string rc, .int .i64 ht, .int .i64 ln, .int .i64 le, .int .i64 tm, .int .i64 vr, .string by_] 69)) (hRa.out _ hB0) hs.out (by omega))
      dsimp only [fxE] at hbs
      clear how
      go_wp2_with fail
      refine hbs.out.mono ?_; rintro e w6 ⟨⟨k, g, rfl, hg1, hg2⟩, B6⟩
      have hb6 := blk_below hn0 B6
      have how6 := own_below how0 B6
      have hB6 := below_next hB0 B6
      have hz6 : wr.heap.size < w6.heap.size := lt_of_heap hb6
      clear hbs hn0 how0 hB0 B6 p0 p1 p2 p3 p4 p5 p6
      have x0 := (blk_facts hb6).1 0
      have x1 := (blk_facts hb6).1 1
      have x2 := (blk_facts hb6).1 2
      have x3 := (blk_facts hb6).1 3
      have x4 := (blk_facts hb6).1 4
      have x5 := (blk_facts hb6).1 5
      have x6 := (blk_facts hb6).1 6
      cases g
      · have hnew := Lib.hid (fun (P : List Fx) hF => mgx_new (P := P) hx'.out (hg2 rfl) hF)
        clear hg1 hg2
        have hw6 : w.heap.size ≤ w6.heap.size := hB6.size
        go_wp2_with (at_builtin; refine wpList_app rfl (.tmp 39) (.tmp 41) 53 rfl Tryz.underlying53 info_fix rfl (by omega) (by omega) how6 rfl rfl (by first | rfl | (simp; done)) rfl (by simp [Value.oneCell']) (by omega) hw6 ?_; intro v7 w7 hown7 hg7; have hB7 := below_own hB6 how6 hg7 hw6 (Nat.le_refl _))
        go_roundw
        case rel => exact ⟨j + 1, P ++ [⟨rc, ht, ln, le, tm, vr, by_⟩], by omega, by go_num, by rw [← List.append_assoc, flat_appX, List.length_append]; exact hown7, hB7, by rw [List.length_append]; simp; omega, Lib.hid (hnew.out P hF.out)⟩
        case measure => simp [intOf]; omega
      · obtain ⟨y, hy, hyx⟩ := hg1 rfl
        have hk : k < n := by have := lt_of_at hy; rw [hla.out] at this; exact this
        have hym := List.mem_of_getElem? hy
        obtain ⟨b2, off2, y', rfl, hbl2, hy2, q0, q1, q2, q3, q4, q5, q6⟩ := RFx_at7 (hRa.out _ hB6) hk
        obtain rfl : y = y' := by rw [hy] at hy2; exact Option.some.inj hy2
        have hki : (k : Int) < n := by omega
        clear hg1 hg2 hy hy2
        by_cases hxy : y = ⟨rc, ht, ln, le, tm, vr, by_⟩
        · subst hxy
          dsimp only at q0 q1 q2 q3 q4 q5 q6
          have hold := Lib.hid (mgx_old hs.out hx'.out hym hF.out)
          clear hyx hym
          go_wp2
          go_quiet (fail)
          go_wp2
          go_roundw
          case rel => exact ⟨j + 1, P, by omega, by go_num, own_below how6 (below_drewN (Below.refl _ _) _), below_drewN hB6 _, by omega, hold⟩
          case measure => simp [intOf]; omega
        · have hbad := Lib.hid (hG3.out (by first | rfl | trivial) (by first | rfl | trivial) (mgx_bad hs.out hx'.out hym hyx hxy hF.out))
          clear hyx hym
          obtain ⟨rc2, ht2, ln2, le2, tm2, vr2, by_2⟩ := y
          dsimp only at q0 q1 q2 q3 q4 q5 q6
          have hcases : ((rc2.toList == rc.toList) = false) ∨ (rc2 = rc ∧ (((ht2 == ht) = false) ∨ (ht2 = ht ∧ (((ln2 == ln) = false) ∨ (ln2 = ln ∧ (((le2 == le) = false) ∨ (le2 = le ∧ (((tm2 == tm) = false) ∨ (tm2 = tm ∧ (((vr2 == vr) = false) ∨ (vr2 = vr ∧ (((by_2.toList == by_.toList) = false))))))))))))) := by
            by_cases q0 : rc2 = rc
            · refine .inr ⟨q0, ?_⟩
              by_cases q1 : ht2 = ht
              · refine .inr ⟨q1, ?_⟩
                by_cases q2 : ln2 = ln
                · refine .inr ⟨q2, ?_⟩
                  by_cases q3 : le2 = le
                  · refine .inr ⟨q3, ?_⟩
                    by_cases q4 : tm2 = tm
                    · refine .inr ⟨q4, ?_⟩
                      by_cases q5 : vr2 = vr
                      · refine .inr ⟨q5, ?_⟩
                        exact str_neX (fun q6 => hxy (by rw [q0, q1, q2, q3, q4, q5, q6]))
                      · exact .inl (beq_eq_false_iff_ne.2 q5)
                    · exact .inl (beq_eq_false_iff_ne.2 q4)
                  · exact .inl (beq_eq_false_iff_ne.2 q3)
                · exact .inl (beq_eq_false_iff_ne.2 q2)
              · exact .inl (beq_eq_false_iff_ne.2 q1)
            · exact .inl (str_neX q0)
          clear hxy
          rcases hcases with h0 | ⟨rfl, h1 | ⟨rfl, h2 | ⟨rfl, h3 | ⟨rfl, h4 | ⟨rfl, h5 | ⟨rfl, h6⟩⟩⟩⟩⟩⟩
          all_goals
            go_wp2
            go_quiet (fail)
            go_wp2
            go_ret2
            exact ⟨none, 0, 0, [], 13, rfl, RN.nil_ _ _ _ _ _, hbad.out, (fun e => by cases e), below_drewN hB6 _⟩
    · obtain rfl : j = m := by omega
      have hmp := Lib.hid (show mgx a b = some P by
        rw [hF.out, drop_end (by rw [hlb.out]; exact Nat.le_refl _)]
        simp [mgx])
      obtain ⟨A4, c4, rfl⟩ := own_shape how
      have hlp := Lib.hid (show (a ++ P).length = n + P.length by rw [List.length_append, hla.out])
      by_cases hbg : 300 < n + P.length
      · have hg := Lib.hid (hG4.out (by first | rfl | trivial) (by first | rfl | trivial) P hmp.out (by rw [hlp.out]; exact hbg))
        have hbi : (300 : Int) < ((n + P.length : Nat) : Int) := by omega
        clear hG4 hG5 hlp
        go_wp2
        go_ret2
        exact ⟨none, 0, 0, [], 2, rfl, RN.nil_ _ _ _ _ _, hg.out, (fun e => by cases e), hB⟩
      have hSo := Lib.hid (sortFFx_c 61 fxCmp_enters (fun x y W => fxCompare_c x y W) (a ++ P) wr w.heap.size (n + P.length) _ how (by omega))
      have hbi : ¬ (300 : Int) < ((n + P.length : Nat) : Int) := by omega
      go_wp2_with fail
      refine hSo.out.mono ?_; rintro e w5 ⟨rfl, s, own5, hs5, g5⟩
      have hB5 := below_own hB how g5 hB.size (Nat.le_refl _)
      have hl5 : s.length = n + P.length := by rw [hs5.1.length_eq, List.length_append, hla.out]
      have hR5 : RFx w5 A4 (n + P.length) s := RN.of_own fxE_len own5 hl5 (by omega)
      have hg := Lib.hid (hG5.out (by first | rfl | trivial) (by first | rfl | trivial) P s hmp.out hs5 (by rw [hlp.out]; omega))
      clear hSo how hB g5 hs5 hl5
      go_wp2
      go_ret2
      exact ⟨A4, n + P.length, c4, s, 0, rfl, hR5, hg.out, (fun _ => own5), hB5⟩
end Go.Proofs.YtnkhdofcmanipaaGreatDoor
