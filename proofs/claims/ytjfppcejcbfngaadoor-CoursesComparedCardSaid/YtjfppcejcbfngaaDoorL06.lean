/- CoursesCompared: CheckTurns, ToShort and ToLong answer as the reference says: the walk. -/
import Derived.Test.YtjfppcejcbfngaaDoorTrnM
import Derived.Test.YtjfppcejcbfngaaDoorTrn8
import Derived.Test.YtjfppcejcbfngaaDoorSwumR
import Derived.Test.YtjfppcejcbfngaaDoorL02A
import Derived.Test.YtjfppcejcbfngaaDoorLawBase
import Derived.Deep.DeepCutAuto
namespace Go.Proofs.YtjfppcejcbfngaaDoor
open Go.RowKit
set_option linter.unusedVariables false

theorem look_or (l : List Trn) (r : Race) (c t : Int) : orV [orV [turnsErr l, raceErr r], otherErr r c t] = lookErr l r c t := by
  rw [orV_two, orV_two]
  unfold lookErr
  by_cases h1 : turnsErr l = 0
  · by_cases h2 : raceErr r = 0
    · simp [h1, h2]
    · simp [h1, h2]
  · simp [h1]
theorem longE_ok {l : List Trn} {r : Race} {t v : Int} (h : LongE l r t v) (h0 : lookErr l r 25 t = 0) : LongIs (findT r.stroke r.metres l) t v := by
  rcases h with ⟨h1, _⟩ | ⟨_, h2⟩
  · exact absurd h0 h1
  · exact h2
theorem longE_no {l : List Trn} {r : Race} {t v : Int} (h : LongE l r t v) (h0 : lookErr l r 25 t ≠ 0) : v = 0 := by
  rcases h with ⟨_, h1⟩ | ⟨h2, _⟩
  · exact h1
  · exact absurd h2 h0
def raceObj (r : Race) : Obj := .cells r.cells 27 (0, 0)
set_option maxHeartbeats 6400000 in
set_option maxRecDepth 100000 in
theorem coursesCompared_walk (a0 : Option Addr) (len0 cap0 : Nat) (z0 : List Int) (w : World) (w0 : IsRow .i64 w a0 len0 cap0 z0) :
    Calls Tryd.prog 8 #[.slice a0 len0 cap0] w fun e w' => e = .returned (.bool true) ∧ Below w.heap.size w w' := by
  have hs := law_start w0
  clear w0
  generalize z0.take len0 = zs at *
  generalize hg : w.heap.size = g at *
  have hgw := Lib.hid hg
  go_enter Tryd.func8, Tryd.ntmps8
  go_wp2_with fail
  have hs' : St (w.alloc (.cells #[.slice a0 len0 cap0, .int .i64 0] 25)) g zs 0 := hs
  refine (turnList_c g zs 0 _ hs' (by omega)).mono ?_; rintro e w1 ⟨A, n, c, l, k1, rfl, hT, s1, hk1, g1⟩
  have hB : Below w.heap.size w w1 := (below_new w _).trans (grown_below g1 (by rw [hgw.out]; exact Nat.le_refl _) (by simp))
  clear hs hs' g1
  go_wp2_with fail
  refine (swumRace_c g zs _ _ s1 (by omega)).mono ?_; rintro e w2 ⟨rfl, s2, g2⟩
  have hk2 := swumRace_k zs k1
  generalize (swumRace zs k1).1 = r at *
  generalize (swumRace zs k1).2 = k2 at *
  replace hT := hT.keep (T := 25) (by decide) (s1.keep g2)
  replace hB := hB.trans (grown_below g2 (by rw [hgw.out]; exact Nat.le_refl _) hB.size)
  clear s1 g2
  obtain ⟨key, metres, stroke, course, legs, sex, young, old⟩ := r
  dsimp only [Race.val, Race.cells] at *
  go_wp2_with fail
  refine (clockedS_c g zs _ _ s2 (by omega)).mono ?_; rintro e w3 ⟨⟨ct, rfl, hct0, hct1⟩, s3, g3⟩
  replace hT := hT.keep (T := 25) (by decide) (s2.keep g3)
  replace hB := hB.trans (grown_below g3 (by rw [hgw.out]; exact Nat.le_refl _) hB.size)
  clear s2 g3
  go_wp2_with fail
  refine (pickE_c g zs _ _ _ _ [1, 2500, 6012, 13000, ct] _ (s3.alloc _) (by omega) (R1.litAt _ _ _ _ (by first | rfl | simp) rfl (by simp)) (by simp)).mono ?_; rintro e w4 ⟨time, rfl, _, s4, g4⟩
  replace hT := (hT.alloc (.cells #[.int .i64 1, .int .i64 2500, .int .i64 6012, .int .i64 13000, .int .i64 ct] 3)).keep (T := 25) (by decide) ((s3.alloc _).keep g4)
  replace hB := (hB.alloc hB.size (.cells #[.int .i64 1, .int .i64 2500, .int .i64 6012, .int .i64 13000, .int .i64 ct] 3)).trans (grown_below g4 (by rw [hgw.out]; exact Nat.le_refl _) (by have := hB.size; simp; omega))
  clear s3 g4 hct0 hct1
  have hb := heap_alloc_new w4 (.cells #[.string key, .int .i64 metres, .int .i64 stroke, .int .i64 course, .int .i64 legs, .int .i64 sex, .int .i64 young, .int .i64 old] 27)
  have s5 := s4.alloc (.cells #[.string key, .int .i64 metres, .int .i64 stroke, .int .i64 course, .int .i64 legs, .int .i64 sex, .int .i64 young, .int .i64 old] 27)
  replace hT := hT.alloc (.cells #[.string key, .int .i64 metres, .int .i64 stroke, .int .i64 course, .int .i64 legs, .int .i64 sex, .int .i64 young, .int .i64 old] 27)
  replace hB := hB.alloc hB.size (.cells #[.string key, .int .i64 metres, .int .i64 stroke, .int .i64 course, .int .i64 legs, .int .i64 sex, .int .i64 young, .int .i64 old] 27)
  have hlt5 : g < w4.heap.size := s4.lt
  clear s4
  go_wp2_with fail
  refine (flipE_c g zs _ _ _ s5 (by omega) (by omega) (by omega)).mono ?_; rintro e w6 ⟨fl, rfl, s6, g6⟩
  replace hT := hT.keep (T := 25) (by decide) (s5.keep g6)
  replace hB := hB.trans (grown_below g6 (by rw [hgw.out]; exact Nat.le_refl _) hB.size)
  replace hb := blk_other_int hb s5 g6 (by decide)
  clear s5 g6
  generalize w4.heap.size = b5 at *
  go_upto_if 32 with (fail)
  go_cut [32] (fun s32 wx => ∃ r : Race, wx.heap[b5]? = some (.cells r.cells 27 (0, 0)) ∧ RTn wx A n l ∧ Below w.heap.size w wx)
  case first =>
    cases fl
    · go_wp2_with fail
      refine (pickE_c g zs _ _ _ _ [50, 100, 200] _ (s6.alloc _) (by omega) (R1.litAt _ _ _ _ (by first | rfl | simp) rfl (by simp)) (by decide)).mono ?_; rintro e w7 ⟨pm, rfl, _, s7, g7⟩
      replace hT := (hT.alloc (.cells #[.int .i64 50, .int .i64 100, .int .i64 200] 3)).keep (T := 25) (by decide) ((s6.alloc _).keep g7)
      replace hB := (hB.alloc hB.size (.cells #[.int .i64 50, .int .i64 100, .int .i64 200] 3)).trans (grown_below g7 (by rw [hgw.out]; exact Nat.le_refl _) (by have := hB.size; simp; omega))
      replace hb := blk_other_int (blk_alloc hb _) (s6.alloc _) g7 (by decide)
      obtain ⟨zc, yc⟩ := blk_facts hb
      clear s6 g7
      have hb1 := blk_set (blk_set hb 4 (.int .i64 1)) 1 (.int .i64 pm)
      have hk : Keep 27 w7 ((w7.setCell ⟨b5, 4, none⟩ (.int .i64 1)).setCell ⟨b5, 1, none⟩ (.int .i64 pm)) := (Keep.of_grown hb (grown_setCell (grown_refl w7 _) (.inl rfl) (.int .i64 1))).trans (Keep.of_grown (blk_set hb 4 (.int .i64 1)) (grown_setCell (grown_refl _ _) (.inl rfl) (.int .i64 pm)))
      have hT1 := hT.keep (T := 27) (by decide) hk
      have hB1 := (hB.setCell (p := ⟨b5, 4, none⟩) (by show w.heap.size ≤ b5; rw [hgw.out]; omega) (.int .i64 1)).setCell (p := ⟨b5, 1, none⟩) (by show w.heap.size ≤ b5; rw [hgw.out]; omega) (.int .i64 pm)
      have H := Lib.hid (And.intro hb1 (And.intro hT1 hB1))
      clear hb1 hT1 hB1 hk
      go_wp2
      go_meet
      case rel => exact ⟨⟨key, pm, stroke, course, 1, sex, young, old⟩, H.out.1, H.out.2.1, H.out.2.2⟩
    · have H := Lib.hid (And.intro hb (And.intro hT hB))
      go_wp2
      go_meet
      case rel => exact ⟨⟨key, metres, stroke, course, legs, sex, young, old⟩, H.out.1, H.out.2.1, H.out.2.2⟩
  case rest =>
    clear hb hT hB s6
    obtain ⟨r, hb, hT, hB⟩ := hcut
    have hTf := Lib.hid (fun W => turnsFault_c A n c l W)
    have hCt := Lib.hid (fun W => checkTurns_c A n c l W)
    have hTs := Lib.hid (fun W => toShort_c A n c l r time W)
    have hTl := Lib.hid (fun W => toLong_c A n c l r time W)
    have hRf := Lib.hid (fun W => raceFault_c r W)
    have hO5 := Lib.hid (fun W => otherFault_c r 50 time W)
    have hO2 := Lib.hid (fun W => otherFault_c r 25 time W)
    have hSo := Lib.hid (fun W h h0 => shortOf_c A n c l r time 50 W h h0)
    have hLo := Lib.hid (fun W h h0 => longOf_c A n c l r time 25 W h h0)
    have hL5 := look_or l r 50 time
    have hL2 := look_or l r 25 time
    have hSE : shortE l r time = if lookErr l r 50 time = 0 then shortV (findT r.stroke r.metres l) time else 0 := rfl
    have hLE := fun v (h : LongE l r time v) => longE_ok h
    have hLN := fun v (h : LongE l r time v) => longE_no h
    generalize shortE l r time = SE at *
    generalize LongE l r time = LE at *
    generalize findT r.stroke r.metres l = F at *
    generalize lookErr l r 50 time = E5 at *
    generalize lookErr l r 25 time = E2 at *
    generalize otherErr r 50 time = O5 at *
    generalize otherErr r 25 time = O2 at *
    generalize turnsErr l = TE at *
    generalize raceErr r = RE at *
    clear key metres stroke course legs sex young old
    obtain ⟨key, metres, stroke, course, legs, sex, young, old⟩ := r
    dsimp only [Race.val, Race.cells] at *
    have zc := (blk_facts hb).1
    have HSE := Lib.hid hSE
    have HLE := Lib.hid hLE
    have HLN := Lib.hid hLN
    have HL5 := Lib.hid hL5
    have HL2 := Lib.hid hL2
    clear hSE hLE hLN hL5 hL2
    go_wp2_with fail
    refine (hTf.out _ hT).mono ?_; rintro e w8 ⟨rfl, B8⟩
    replace hT := hT.below B8
    replace hb := blk_below hb B8
    replace hB := below_next hB B8
    clear B8
    replace zc := (blk_facts hb).1
    go_wp2_with fail
    refine (hCt.out _ hT).mono ?_; rintro e w9 ⟨rfl, B9⟩
    replace hT := hT.below B9
    replace hb := blk_below hb B9
    replace hB := below_next hB B9
    clear B9
    replace zc := (blk_facts hb).1
    go_wp2_with fail
    refine (hTs.out _ hT).mono ?_; rintro e w10 ⟨rfl, B10⟩
    replace hT := hT.below B10
    replace hb := blk_below hb B10
    replace hB := below_next hB B10
    clear B10
    replace zc := (blk_facts hb).1
    go_wp2_with fail
    refine (hTl.out _ hT).mono ?_; rintro e w11 ⟨lv, rfl, hlv, B11⟩
    replace hT := hT.below B11
    replace hb := blk_below hb B11
    replace hB := below_next hB B11
    clear B11
    replace zc := (blk_facts hb).1
    have hlv' := Lib.hid hlv
    clear hlv
    go_wp2_with fail
    refine (hRf.out _).mono ?_; rintro e w12 ⟨rfl, B12⟩
    replace hT := hT.below B12
    replace hb := blk_below hb B12
    replace hB := below_next hB B12
    clear B12
    replace zc := (blk_facts hb).1
    go_wp2_with fail
    refine (orE_c _ _ _ [TE, RE] _ (R1.litAt _ _ _ _ (by first | rfl | simp) rfl (by simp))).mono ?_; rintro e w' ⟨rfl, rfl⟩
    generalize hFt : orV [TE, RE] = FT at *
    clear hFt
    have z0 := zc 0
    have z1 := zc 1
    have z2 := zc 2
    have z3 := zc 3
    have z4 := zc 4
    have z5 := zc 5
    have z6 := zc 6
    have z7 := zc 7
    have lb := lt_of_heap hb
    have hT13 := hT.alloc (.cells #[.int .i64 TE, .int .i64 RE] 29)
    have hB13 := hB.alloc hB.size (.cells #[.int .i64 TE, .int .i64 RE] 29)
    have hb13 := blk_alloc hb (.cells #[.int .i64 TE, .int .i64 RE] 29)
    clear hT hB hb zc
    go_wp2_with fail
    go_region_held3 (fun w' => w'.cell? ⟨b5, 0, none⟩ = some (.string key) ∧ w'.cell? ⟨b5, 1, none⟩ = some (.int .i64 metres) ∧ w'.cell? ⟨b5, 2, none⟩ = some (.int .i64 stroke) ∧ w'.cell? ⟨b5, 3, none⟩ = some (.int .i64 course) ∧ w'.cell? ⟨b5, 4, none⟩ = some (.int .i64 legs) ∧ w'.cell? ⟨b5, 5, none⟩ = some (.int .i64 sex) ∧ w'.cell? ⟨b5, 6, none⟩ = some (.int .i64 young) ∧ w'.cell? ⟨b5, 7, none⟩ = some (.int .i64 old)) (first | go_keep | exact ⟨(blk_facts hb14).1 0, (blk_facts hb14).1 1, (blk_facts hb14).1 2, (blk_facts hb14).1 3, (blk_facts hb14).1 4, (blk_facts hb14).1 5, (blk_facts hb14).1 6, (blk_facts hb14).1 7⟩ | exact ⟨(blk_facts hb15).1 0, (blk_facts hb15).1 1, (blk_facts hb15).1 2, (blk_facts hb15).1 3, (blk_facts hb15).1 4, (blk_facts hb15).1 5, (blk_facts hb15).1 6, (blk_facts hb15).1 7⟩)
      (first
        | (go_at_call 75; with_reducible refine (hO5.out _).mono ?_; rintro e w14 ⟨rfl, B14⟩; have hb14 := blk_below (w := World.drew _) hb13 B14; have lb14 := lt_of_heap hb14)
        | (go_at_call 75; with_reducible refine (hO2.out _).mono ?_; rintro e w15 ⟨rfl, B15⟩; have hb15 := blk_below (blk_alloc hb14 _) B15; have lb15 := lt_of_heap hb15)
        | (go_at_call 27; refine (orE_c _ _ _ _ _ (R1.litAt _ _ _ [_, _] (by first | rfl | simp) rfl (by simp))).mono ?_; rintro e w' ⟨rfl, rfl⟩))
    rw [HL5.out, HL2.out]
    have hB14 := below_next (below_drewN hB13 1) B14
    have hT14 := (hT13.drewN 1).below B14
    have hB15 := below_next (hB14.alloc hB14.size (.cells #[.int .i64 FT, .int .i64 O5] 29)) B15
    have hT15 := (hT14.alloc (.cells #[.int .i64 FT, .int .i64 O5] 29)).below B15
    have hb := blk_alloc hb15 (.cells #[.int .i64 FT, .int .i64 O2] 29)
    have hB := hB15.alloc hB15.size (.cells #[.int .i64 FT, .int .i64 O2] 29)
    have hT := hT15.alloc (.cells #[.int .i64 FT, .int .i64 O2] 29)
    clear hB13 hT13 hb13 hB14 hT14 hb14 hB15 hT15 z0 z1 z2 z3 z4 z5 z6 z7 lb lb14 B14 B15 HL5 HL2
    have zc := (blk_facts hb15).1
    generalize hSVd : shortV F time = SV at *
    clear hSVd
    by_cases he5 : E5 = 0
    · obtain rfl : SE = SV := by rw [HSE.out, if_pos he5]
      subst he5
      go_wp2_with fail
      refine (hSo.out _ hT (by first | rfl | trivial)).mono ?_; rintro e w16 ⟨rfl, B16⟩
      replace hT := hT.below B16
      replace hb := blk_below hb B16
      replace hB := below_next hB B16
      clear B16
      replace zc := (blk_facts hb).1
      by_cases he2 : E2 = 0
      · subst he2
        go_wp2_with fail
        refine (hLo.out _ hT (by first | exact rfl | trivial)).mono ?_; rintro e w17 ⟨lv2, rfl, hl2, B17⟩
        obtain rfl : lv = lv2 := long_one (HLE.out lv hlv'.out (by first | exact rfl | trivial)) hl2
        clear hl2
        replace hB := below_next hB B17
        clear B17
        go_wp2_with fail
        refine (clocked_c _).mono ?_; rintro e w18 ⟨rfl, B18⟩
        go_wp2
        go_ret
        exact ⟨rfl, by have := below_next hB B18; rwa [hgw.out] at this⟩
      · have ht2 : (E2 == 0) = false := beq_eq_false_iff_ne.2 he2
        have he2' := Lib.hid he2
        clear he2
        obtain rfl : lv = 0 := HLN.out lv hlv'.out he2'.out
        go_wp2_with fail
        refine (clocked_c _).mono ?_; rintro e w18 ⟨rfl, B18⟩
        go_wp2
        go_ret
        exact ⟨rfl, by have := below_next hB B18; rwa [hgw.out] at this⟩
    · obtain rfl : SE = 0 := by rw [HSE.out, if_neg he5]
      have ht5 : (E5 == 0) = false := beq_eq_false_iff_ne.2 he5
      clear he5
      by_cases he2 : E2 = 0
      · subst he2
        go_wp2_with fail
        refine (hLo.out _ hT (by first | exact rfl | trivial)).mono ?_; rintro e w17 ⟨lv2, rfl, hl2, B17⟩
        obtain rfl : lv = lv2 := long_one (HLE.out lv hlv'.out (by first | exact rfl | trivial)) hl2
        clear hl2
        replace hB := below_next hB B17
        clear B17
        go_wp2_with fail
        refine (clocked_c _).mono ?_; rintro e w18 ⟨rfl, B18⟩
        go_wp2
        go_ret
        exact ⟨rfl, by have := below_next hB B18; rwa [hgw.out] at this⟩
      · have ht2 : (E2 == 0) = false := beq_eq_false_iff_ne.2 he2
        have he2' := Lib.hid he2
        clear he2
        obtain rfl : lv = 0 := HLN.out lv hlv'.out he2'.out
        go_wp2_with fail
        refine (clocked_c _).mono ?_; rintro e w18 ⟨rfl, B18⟩
        go_wp2
        go_ret
        exact ⟨rfl, by have := below_next hB B18; rwa [hgw.out] at this⟩
end Go.Proofs.YtjfppcejcbfngaaDoor
