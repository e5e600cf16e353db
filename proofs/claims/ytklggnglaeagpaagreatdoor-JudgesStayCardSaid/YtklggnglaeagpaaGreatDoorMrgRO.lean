/- judge.Merge with a row of its own. Out of RptD by wip/mkmrgo.py. -/
import Derived.Test.YtklggnglaeagpaaGreatDoorRptC
import Derived.Test.YtklggnglaeagpaaGreatDoorPadF
namespace Go.Proofs.YtklggnglaeagpaaGreatDoor
open Go.RowKit Go.Shelf Go.Lib Go.Sort
open Go.Maps (Keyed string_keyed)
open Go.WideMaps (keyOf_string_mk)
set_option linter.unusedVariables false

def RetMpO (a b : List Rp) (w : World) (e : Ending) (w' : World) : Prop := ∃ (A' : Option Addr) (n' c' : Nat) (out : List Rp) (E : Int), e = .returned (.tuple #[.slice A' n' c', .int .i64 E]) ∧ RRp w' A' n' out ∧ w'.ownsRow w.heap.size 96 7 (.slice A' n' c') n' (out.flatMap rpE) ∧ CapOk A' n' c' ∧ MrgP a b E out ∧ Below w.heap.size w w'
theorem rpCmp_entersO : ∀ args w, (callFunc 149 args).run Tryz.prog w = .ok (.enter 149 args) w := enters_of Tryz.func149 (by kernel_rfl) rfl
theorem flat_appRO (l : List Rp) (x : Rp) : (l ++ [x]).flatMap rpE = l.flatMap rpE ++ rpE x := by rw [List.flatMap_append]; simp
set_option maxHeartbeats 6400000 in
set_option maxRecDepth 100000 in
theorem mergeRO_c (A B : Option Addr) (n c m d : Nat) (a b : List Rp) (w : World) (ha : RRp w A n a) (hb : RRp w B m b) (hn : n ≤ 400) (hm : m ≤ 400) :
    Calls Tryz.prog 41 #[.slice A n c, .slice B m d] w (RetMpO a b w) := by
  have hRa := Lib.hid (fun W (B : Below w.heap.size w W) => ha.below B)
  have hRb := Lib.hid (fun W (B : Below w.heap.size w W) => hb.below B)
  have hla := Lib.hid ha.len
  have hlb := Lib.hid hb.len
  have hC1 := Lib.hid (checkReports_c A n c a w ha)
  have hG1 := Lib.hid (fun (h1 : rpErr a ≠ 0) => show MrgP a b (rpErr a) [] from .inl ⟨h1, rfl, rfl⟩)
  have hG2 := Lib.hid (fun (h1 : rpErr a = 0) (h2 : rpErr b ≠ 0) => show MrgP a b (rpErr b) [] from .inr (.inl ⟨h1, h2, rfl, rfl⟩))
  have hG3 := Lib.hid (fun (h1 : rpErr a = 0) (h2 : rpErr b = 0) (h3 : mrgR a b = none) => show MrgP a b 13 [] from .inr (.inr ⟨h1, h2, .inl ⟨h3, rfl, rfl⟩⟩))
  have hG4 := Lib.hid (fun (h1 : rpErr a = 0) (h2 : rpErr b = 0) (p : List Rp) (h3 : mrgR a b = some p) (h5 : 500 < n + p.length) => show MrgP a b 2 [] from .inr (.inr ⟨h1, h2, .inr ⟨p, h3, .inl ⟨by rw [ha.len]; exact h5, rfl, rfl⟩⟩⟩))
  have hG5 := Lib.hid (fun (h1 : rpErr a = 0) (h2 : rpErr b = 0) (p s : List Rp) (h3 : mrgR a b = some p) (h5 : ¬ 500 < n + p.length) (h4 : RpSorted (a ++ p) s) => show MrgP a b 0 s from .inr (.inr ⟨h1, h2, .inr ⟨p, h3, .inr ⟨by rw [ha.len]; exact h5, rfl, h4⟩⟩⟩))
  have hso := Lib.hid (fun (h : rpErr a = 0) => rpErr_ok h)
  have hsb := Lib.hid (fun (h : rpErr b = 0) => rpErr_ok h)
  have hky := Lib.hid (fun (x : Rp) (h : rp1 x = 0) => (key_small (rp1_ok h).1.1).2)
  have hC2 := Lib.hid (fun W (B' : Below w.heap.size w W) => checkReports_c B m d b W (hRb.out W B'))
  clear ha hb
  generalize hEa : rpErr a = Ea at *
  generalize hEb : rpErr b = Eb at *
  have hEa' := Lib.hid hEa
  have hEb' := Lib.hid hEb
  clear hEa hEb
  have hmm := @run_makeMap Tryz.prog
  go_enter Tryz.func41, Tryz.ntmps41
  go_wp2_with fail
  refine hC1.out.mono ?_; rintro e w1 ⟨rfl, B1⟩
  by_cases h0 : Ea = 0
  rotate_left
  · have hd : (Ea != 0) = true := by simpa using h0
    have hg := hG1.out h0
    clear h0
    go_wp2
    go_ret2
    exact ⟨none, 0, 0, [], Ea, rfl, RN.nil_ _ _ _ _ _, World.ownsRow_nil _ _ _ _, .inl ⟨rfl, rfl, rfl⟩, hg, B1⟩
  subst h0
  go_wp2_with fail
  refine (hC2.out _ B1).mono ?_; rintro e w2 ⟨rfl, B2⟩
  replace B2 := below_next B1 B2
  clear B1
  by_cases h0 : Eb = 0
  rotate_left
  · have hd : (Eb != 0) = true := by simpa using h0
    have hg := hG2.out (by first | rfl | trivial) h0
    clear h0
    go_wp2
    go_ret2
    exact ⟨none, 0, 0, [], Eb, rfl, RN.nil_ _ _ _ _ _, World.ownsRow_nil _ _ _ _, .inl ⟨rfl, rfl, rfl⟩, hg, B2⟩
  subst h0
  have hs := Lib.hid (hso.out (by first | rfl | trivial))
  have hsb' := Lib.hid (hsb.out (by first | rfl | trivial))
  clear hso hsb
  have hm0 := mr_new w2
  have hB0 := below_next B2 (below_new w2 (.map #[] 0))
  have hz2 := B2.size
  clear B2
  go_wp2_with fail
  go_loopw [29] (fun i wr => ∃ (k : Nat) (D : DataW Unit), k ≤ n ∧ i = .int .i64 k ∧ MR wr w2.heap.size k D ∧ Below w.heap.size w wr ∧ Hid (KM (a.take k) D)) (fun i _ => n - (intOf i).toNat)
  case atStart => exact ⟨0, .map [], Nat.zero_le _, rfl, hm0, hB0, Lib.hid KM.nil⟩
  case round =>
    clear hm0 hB0
    rename World => wr
    obtain ⟨k, D, hk, rfl, hm, hB, hF⟩ := hrel
    by_cases hlt : k < n
    · obtain ⟨b', off, x, rfl, hbl, hx, p0, p1, p2, p3, p4, p5, p6⟩ := RRp_at7 (hRa.out _ hB) hlt
      have hF2 := Lib.hid (KM.step hF.out hx hs.out.2.2)
      have hsz := hky.out x (hs.out.2.1 x (List.mem_of_getElem? hx))
      clear hF hx
      obtain ⟨id, jd, who, fault, tm, wt, nt⟩ := x
      dsimp only at *
      have hn0 := heap_alloc_new wr (.cells #[.string id, .string jd, .string who, .int .i64 fault, .int .i64 tm, .int .i64 wt, .bool nt] 96)
      have hm1 : MR (wr.alloc (.cells #[.string id, .string jd, .string who, .int .i64 fault, .int .i64 tm, .int .i64 wt, .bool nt] 96)) w2.heap.size k D := hm.alloc _
      have hB1 := below_next hB (below_new wr (.cells #[.string id, .string jd, .string who, .int .i64 fault, .int .i64 tm, .int .i64 wt, .bool nt] 96))
      go_wp2_with (at_mapUpdate; refine wpList_mapUpdate_own _ rfl _ _ _ 219 rfl 9 96 (string_keyed Tryz.underlying9) Tryz.underlying219 _ _ k _ rfl hm1 (by unfold maxLen; omega) _ _ _ rfl rfl (keyOf_string_mk Tryz.underlying9 (by unfold maxLen; omega)) _ [] (rpElem_mk ⟨id, jd, who, fault, tm, wt, nt⟩) ?_; intro w6 hown6 hg6)
      have hB6 := hB1.trans (grown_below hg6 hz2 hB1.size)
      go_roundw
      case rel => exact ⟨k + 1, _, by omega, by go_num, hown6, hB6, hF2⟩
      case measure => simp [intOf]; omega
    · obtain rfl : k = n := by omega
      have hKM := Lib.hid (show KM a D by have h9 := hF.out; rwa [List.take_of_length_le (by rw [hla.out]; exact Nat.le_refl _)] at h9)
      clear hF
      go_wp2_with fail
      refine (cloneRpS_c A k c a wr (hRa.out _ hB) (by omega)).mono ?_; rintro e w3 ⟨A3, c3, rfl, own3, B3⟩
      have hB3 := below_next hB B3
      have hm3 : MR w3 w2.heap.size k D := hm.kept (row := none) (grown_of_below B3) (by simp)
      have hmb := hm.lt
      have hzr := hB.size
      have hz3 := B3.size
      clear B3 hm hB
      generalize wr.heap.size = base at *
      go_wp2_with fail
      go_loopw [11, 42] (fun u i wx => ∃ (j : Nat) (P : List Rp), j ≤ m ∧ i = .int .i64 j ∧ wx.ownsRow base 96 7 u (k + P.length) ((a ++ P).flatMap rpE) ∧ Below w.heap.size w wx ∧ MR wx w2.heap.size k D ∧ base ≤ wx.heap.size ∧ P.length ≤ j ∧ Hid (mrgR a b = (mrgR a (b.drop j)).map (P ++ ·))) (fun _ i _ => m - (intOf i).toNat)
      case atStart => exact ⟨0, [], Nat.zero_le _, rfl, by rw [List.append_nil]; exact own3, hB3, hm3, hz3, Nat.le_refl _, Lib.hid (by rw [List.drop_zero]; simp)⟩
      case round =>
        clear own3 hB3 hm3 hz3
        rename World => wx
        obtain ⟨j, P, hj, rfl, how, hB, hm4, hbx, hPj, hF⟩ := hrel
        by_cases hlt : j < m
        · have hlti : (j : Int) < m := by omega
          obtain ⟨b', off, x, rfl, hbl, hx, p0, p1, p2, p3, p4, p5, p6⟩ := RRp_at7 (hRb.out _ hB) hlt
          have hx' := Lib.hid hx
          have hsz := hky.out x (hsb'.out.2.1 x (List.mem_of_getElem? hx))
          clear hx
          obtain ⟨id, jd, who, fault, tm, wt, nt⟩ := x
          dsimp only at p0 p1 p2 p3 p4 p5 p6 hsz
          have hn0 := heap_alloc_new wx (.cells #[.string id, .string jd, .string who, .int .i64 fault, .int .i64 tm, .int .i64 wt, .bool nt] 96)
          have how0 := own_below how (below_new wx (.cells #[.string id, .string jd, .string who, .int .i64 fault, .int .i64 tm, .int .i64 wt, .bool nt] 96))
          have hB0 := below_next hB (below_new wx (.cells #[.string id, .string jd, .string who, .int .i64 fault, .int .i64 tm, .int .i64 wt, .bool nt] 96))
          have hm5 : MR (wx.alloc (.cells #[.string id, .string jd, .string who, .int .i64 fault, .int .i64 tm, .int .i64 wt, .bool nt] 96)) w2.heap.size k D := hm4.alloc _
          have hwz := hB0.size
          have hz0 : (wx.alloc (.cells #[.string id, .string jd, .string who, .int .i64 fault, .int .i64 tm, .int .i64 wt, .bool nt] 96)).heap.size = wx.heap.size + 1 := by simp
          by_cases hmem : ∃ y ∈ a, y.id = id
          · obtain ⟨y, hy, hyx⟩ := hmem
            have hkm := hKM.out.2.1 y hy
            by_cases hxy : y = ⟨id, jd, who, fault, tm, wt, nt⟩
            · subst hxy
              dsimp only at hkm
              have hlk := mr_look hm5 id (by unfold maxLen; omega) ⟨id, jd, who, fault, tm, wt, nt⟩ true hkm
              have hold := Lib.hid (mrgR_old hs.out.2.2 hx'.out hy hF.out)
              clear hy hkm hyx
              have hn2 := blk_alloc hn0 (.cells #[.string id, .string jd, .string who, .int .i64 fault, .int .i64 tm, .int .i64 wt, .bool nt] 96)
              have hn1 := heap_alloc_new (wx.alloc (.cells #[.string id, .string jd, .string who, .int .i64 fault, .int .i64 tm, .int .i64 wt, .bool nt] 96)) (.cells #[.string id, .string jd, .string who, .int .i64 fault, .int .i64 tm, .int .i64 wt, .bool nt] 96)
              have how1 := own_below how0 (below_new (wx.alloc (.cells #[.string id, .string jd, .string who, .int .i64 fault, .int .i64 tm, .int .i64 wt, .bool nt] 96)) (.cells #[.string id, .string jd, .string who, .int .i64 fault, .int .i64 tm, .int .i64 wt, .bool nt] 96))
              have hB1 := below_next hB0 (below_new (wx.alloc (.cells #[.string id, .string jd, .string who, .int .i64 fault, .int .i64 tm, .int .i64 wt, .bool nt] 96)) (.cells #[.string id, .string jd, .string who, .int .i64 fault, .int .i64 tm, .int .i64 wt, .bool nt] 96))
              have hm6 : MR ((wx.alloc (.cells #[.string id, .string jd, .string who, .int .i64 fault, .int .i64 tm, .int .i64 wt, .bool nt] 96)).alloc (.cells #[.string id, .string jd, .string who, .int .i64 fault, .int .i64 tm, .int .i64 wt, .bool nt] 96)) w2.heap.size k D := hm5.alloc _
              have hz1 : ((wx.alloc (.cells #[.string id, .string jd, .string who, .int .i64 fault, .int .i64 tm, .int .i64 wt, .bool nt] 96)).alloc (.cells #[.string id, .string jd, .string who, .int .i64 fault, .int .i64 tm, .int .i64 wt, .bool nt] 96)).heap.size = wx.heap.size + 2 := by simp
              cases nt
              all_goals
                go_wp2
                go_roundw
                case rel => exact ⟨j + 1, P, by omega, by go_num, how1, hB1, hm6, by show base ≤ ((wx.alloc _).alloc _).heap.size; rw [hz1]; omega, by omega, hold⟩
                case measure => simp [intOf]; omega
            · have hbad := Lib.hid (hG3.out (by first | rfl | trivial) (by first | rfl | trivial) (mrgR_bad hs.out.2.2 hx'.out hy hyx hxy hF.out))
              clear hy
              obtain ⟨id2, jd2, who2, fault2, tm2, wt2, nt2⟩ := y
              dsimp only at hyx hkm
              subst hyx
              have hlk := mr_look hm5 id2 (by unfold maxLen; omega) ⟨id2, jd2, who2, fault2, tm2, wt2, nt2⟩ true hkm
              have hcases : ((jd.toList == jd2.toList) = false) ∨ (jd2 = jd ∧ (((who.toList == who2.toList) = false) ∨ (who2 = who ∧ (((fault == fault2) = false) ∨ (fault2 = fault ∧ (((tm == tm2) = false) ∨ (tm2 = tm ∧ (((wt == wt2) = false) ∨ (wt2 = wt ∧ ((nt == nt2) = false)))))))))) := by
                by_cases q1 : jd2 = jd
                · refine .inr ⟨q1, ?_⟩
                  by_cases q2 : who2 = who
                  · refine .inr ⟨q2, ?_⟩
                    by_cases q3 : fault2 = fault
                    · refine .inr ⟨q3, ?_⟩
                      by_cases q4 : tm2 = tm
                      · refine .inr ⟨q4, ?_⟩
                        by_cases q5 : wt2 = wt
                        · refine .inr ⟨q5, ?_⟩
                          exact beq_eq_false_iff_ne.2 (fun q6 => hxy (by rw [q1, q2, q3, q4, q5, ← q6]))
                        · exact .inl (beq_eq_false_iff_ne.2 (Ne.symm q5))
                      · exact .inl (beq_eq_false_iff_ne.2 (Ne.symm q4))
                    · exact .inl (beq_eq_false_iff_ne.2 (Ne.symm q3))
                  · exact .inl (str_neR (Ne.symm q2))
                · exact .inl (str_neR (Ne.symm q1))
              clear hxy hkm
              dsimp only at hlk
              have hB1 := below_next hB0 (below_new (wx.alloc (.cells #[.string id2, .string jd, .string who, .int .i64 fault, .int .i64 tm, .int .i64 wt, .bool nt] 96)) (.cells #[.string id2, .string jd2, .string who2, .int .i64 fault2, .int .i64 tm2, .int .i64 wt2, .bool nt2] 96))
              rcases hcases with h1 | ⟨rfl, h2 | ⟨rfl, h3 | ⟨rfl, h4 | ⟨rfl, h5 | ⟨rfl, h6⟩⟩⟩⟩⟩
              all_goals
                go_wp2
                go_ret2
                exact ⟨none, 0, 0, [], 13, rfl, RN.nil_ _ _ _ _ _, World.ownsRow_nil _ _ _ _, .inl ⟨rfl, rfl, rfl⟩, hbad.out, hB1⟩
          · have hnm : ∀ y ∈ a, y.id ≠ id := fun y hy e => hmem ⟨y, hy, e⟩
            have hlk := mr_look hm5 id (by unfold maxLen; omega) rpZ false (hKM.out.2.2 id hnm)
            have hnew := Lib.hid (fun (P : List Rp) hF => mrgR_new (P := P) hx'.out hnm hF)
            clear hmem hnm
            dsimp only [rpZ] at hlk
            have hn2 := blk_alloc hn0 (.cells #[.string ⟨#[]⟩, .string ⟨#[]⟩, .string ⟨#[]⟩, .int .i64 0, .int .i64 0, .int .i64 0, .bool false] 96)
            have how1 := own_below how0 (below_new (wx.alloc (.cells #[.string id, .string jd, .string who, .int .i64 fault, .int .i64 tm, .int .i64 wt, .bool nt] 96)) (.cells #[.string ⟨#[]⟩, .string ⟨#[]⟩, .string ⟨#[]⟩, .int .i64 0, .int .i64 0, .int .i64 0, .bool false] 96))
            have hB1 := below_next hB0 (below_new (wx.alloc (.cells #[.string id, .string jd, .string who, .int .i64 fault, .int .i64 tm, .int .i64 wt, .bool nt] 96)) (.cells #[.string ⟨#[]⟩, .string ⟨#[]⟩, .string ⟨#[]⟩, .int .i64 0, .int .i64 0, .int .i64 0, .bool false] 96))
            have hm6 : MR ((wx.alloc (.cells #[.string id, .string jd, .string who, .int .i64 fault, .int .i64 tm, .int .i64 wt, .bool nt] 96)).alloc (.cells #[.string ⟨#[]⟩, .string ⟨#[]⟩, .string ⟨#[]⟩, .int .i64 0, .int .i64 0, .int .i64 0, .bool false] 96)) w2.heap.size k D := hm5.alloc _
            have hz1 : ((wx.alloc (.cells #[.string id, .string jd, .string who, .int .i64 fault, .int .i64 tm, .int .i64 wt, .bool nt] 96)).alloc (.cells #[.string ⟨#[]⟩, .string ⟨#[]⟩, .string ⟨#[]⟩, .int .i64 0, .int .i64 0, .int .i64 0, .bool false] 96)).heap.size = wx.heap.size + 2 := by simp
            have hwz1 : base ≤ ((wx.alloc (.cells #[.string id, .string jd, .string who, .int .i64 fault, .int .i64 tm, .int .i64 wt, .bool nt] 96)).alloc (.cells #[.string ⟨#[]⟩, .string ⟨#[]⟩, .string ⟨#[]⟩, .int .i64 0, .int .i64 0, .int .i64 0, .bool false] 96)).heap.size := by rw [hz1]; omega
            have x0 := (blk_facts hn2).1 0
            have x1 := (blk_facts hn2).1 1
            have x2 := (blk_facts hn2).1 2
            have x3 := (blk_facts hn2).1 3
            have x4 := (blk_facts hn2).1 4
            have x5 := (blk_facts hn2).1 5
            have x6 := (blk_facts hn2).1 6
            go_wp2_with (at_builtin; refine wpList_app rfl (.tmp 61) (.tmp 63) 89 rfl Tryz.underlying89 info_report rfl (by omega) (by omega) how1 rfl rfl (by first | rfl | (simp; done)) rfl (by simp [Value.oneCell']) (by omega) hwz1 ?_; intro v7 w7 hown7 hg7; have hB7 := below_own hB1 how1 hg7 hB1.size hzr; have hm7 : MR w7 w2.heap.size k D := hm6.kept hg7 (fun e => by have := own_row_lt how1 _ e.symm; omega); have hz7 := hg7.size)
            go_roundw
            case rel => exact ⟨j + 1, P ++ [⟨id, jd, who, fault, tm, wt, nt⟩], by omega, by go_num, by rw [← List.append_assoc, flat_appRO, List.length_append]; exact hown7, hB7, hm7, by omega, by rw [List.length_append]; simp; omega, Lib.hid (hnew.out P hF.out)⟩
            case measure => simp [intOf]; omega
        · obtain rfl : j = m := by omega
          have hmp := Lib.hid (show mrgR a b = some P by
            rw [hF.out, drop_end (by rw [hlb.out]; exact Nat.le_refl _)]
            simp [mrgR])
          obtain ⟨A4, c4, rfl⟩ := own_shape how
          clear hm4 hF
          by_cases hbig : 500 < k + P.length
          · have hbig' : (500 : Int) < ((k + P.length : Nat) : Int) := by omega
            have hh4 := Lib.hid (hG4.out (by first | rfl | trivial) (by first | rfl | trivial) P hmp.out hbig)
            go_wp2
            go_ret2
            exact ⟨none, 0, 0, [], 2, rfl, RN.nil_ _ _ _ _ _, World.ownsRow_nil _ _ _ _, .inl ⟨rfl, rfl, rfl⟩, hh4.out, hB⟩
          have hbig' : ¬ (500 : Int) < ((k + P.length : Nat) : Int) := by omega
          have hSo := Lib.hid (sortFRp_c 149 rpCmp_entersO (fun x y W => rpCompare_c x y W) (a ++ P) wx base (k + P.length) _ how (by omega))
          go_wp2_with fail
          refine hSo.out.mono ?_; rintro e w5 ⟨rfl, s, own5, hs5, g5⟩
          have hB5 := below_own hB how g5 hB.size hzr
          have hl5 : s.length = k + P.length := by rw [hs5.1.length_eq, List.length_append, hla.out]
          have hR5 : RRp w5 A4 (k + P.length) s := RN.of_own rpE_len own5 hl5 (by omega)
          have hcp := Lib.hid (capOk_own own5)
          have hoo := Lib.hid (own_mono own5 hzr)
          have hh5 := Lib.hid (hG5.out (by first | rfl | trivial) (by first | rfl | trivial) P s hmp.out hbig hs5)
          clear hSo how hB g5 own5 hs5 hl5
          go_wp2
          go_ret2
          exact ⟨A4, k + P.length, c4, s, 0, rfl, hR5, hoo.out, hcp.out, hh5.out, hB5⟩
end Go.Proofs.YtklggnglaeagpaaGreatDoor
