/- LongIsLeast: the walk. -/
import Derived.Test.YtjfppcejcbfngaaDoorTrnM
import Derived.Test.YtjfppcejcbfngaaDoorTrn8
import Derived.Test.YtjfppcejcbfngaaDoorPlain0
import Derived.Test.YtjfppcejcbfngaaDoorReady
import Derived.Test.YtjfppcejcbfngaaDoorLawBase
import Derived.Deep.DeepCutAuto
namespace Go.Proofs.YtjfppcejcbfngaaDoor
open Go.RowKit
set_option linter.unusedVariables false

set_option maxHeartbeats 6400000 in
set_option maxRecDepth 100000 in
theorem longIsLeast_walk (a0 : Option Addr) (len0 cap0 : Nat) (z0 : List Int) (w : World) (w0 : IsRow .i64 w a0 len0 cap0 z0) :
    Calls Tryd.prog 13 #[.slice a0 len0 cap0] w fun e w' => e = .returned (.bool true) ∧ Below w.heap.size w w' := by
  have hs := law_start w0
  clear w0
  generalize z0.take len0 = zs at *
  generalize hg : w.heap.size = g at *
  have hgw := Lib.hid hg
  go_enter Tryd.func13, Tryd.ntmps13
  go_wp2_with fail
  have hs' : St (w.alloc (.cells #[.slice a0 len0 cap0, .int .i64 0] 25)) g zs 0 := hs
  refine (turnList_c g zs 0 _ hs' (by omega)).mono ?_; rintro e w1 ⟨A, n, c, l, k1, rfl, hT, s1, hk1, g1⟩
  have hB : Below w.heap.size w w1 := (below_new w _).trans (grown_below g1 (by rw [hgw.out]; exact Nat.le_refl _) (by simp))
  clear hs hs' g1
  go_wp2_with fail
  refine (rangeE_c g zs _ _ _ _ s1 (by omega) (by omega) (by omega) (by omega)).mono ?_; rintro e w2 ⟨time, rfl, ht0, ht1, s2, g2⟩
  replace hT := hT.keep (T := 25) (by decide) (s1.keep g2)
  replace hB := hB.trans (grown_below g2 (by rw [hgw.out]; exact Nat.le_refl _) hB.size)
  clear s1 g2
  go_wp2_with fail
  refine (plainRace_c g zs _ _ s2 (by omega)).mono ?_; rintro e w3 ⟨rfl, s3, g3⟩
  rw [plainRace_2] at s3
  obtain ⟨q1, _, _, q2, q3, _, _, _, _, _, q4, q5, q6, _⟩ := raceErr_ok (plainRace_ok zs (k1 + 1))
  replace hT := hT.keep (T := 25) (by decide) (s2.keep g3)
  replace hB := hB.trans (grown_below g3 (by rw [hgw.out]; exact Nat.le_refl _) hB.size)
  generalize (plainRace zs (k1 + 1)).1 = r at *
  clear s2 g3
  obtain ⟨key, metres, stroke, course, legs, sex, young, old⟩ := r
  dsimp only [Race.val, Race.cells] at *
  have hq1 := Lib.hid q1
  clear q1
  have hb := heap_alloc_new w3 (.cells #[.string key, .int .i64 metres, .int .i64 stroke, .int .i64 course, .int .i64 legs, .int .i64 sex, .int .i64 young, .int .i64 old] 27)
  have s5 := s3.alloc (.cells #[.string key, .int .i64 metres, .int .i64 stroke, .int .i64 course, .int .i64 legs, .int .i64 sex, .int .i64 young, .int .i64 old] 27)
  replace hT := hT.alloc (.cells #[.string key, .int .i64 metres, .int .i64 stroke, .int .i64 course, .int .i64 legs, .int .i64 sex, .int .i64 young, .int .i64 old] 27)
  replace hB := hB.alloc hB.size (.cells #[.string key, .int .i64 metres, .int .i64 stroke, .int .i64 course, .int .i64 legs, .int .i64 sex, .int .i64 young, .int .i64 old] 27)
  have hlt5 : g < w3.heap.size := s3.lt
  clear s3
  go_wp2_with fail
  refine (pickE_c g zs _ _ _ _ [100, 200] _ (s5.alloc _) (by omega) (R1.litAt _ _ _ _ (by first | rfl | simp) rfl (by simp)) (by simp)).mono ?_; rintro e w4 ⟨pm, rfl, hpm, s6, g6⟩
  replace hT := (hT.alloc (.cells #[.int .i64 100, .int .i64 200] 3)).keep (T := 25) (by decide) ((s5.alloc _).keep g6)
  replace hB := (hB.alloc hB.size (.cells #[.int .i64 100, .int .i64 200] 3)).trans (grown_below g6 (by rw [hgw.out]; exact Nat.le_refl _) (by have := hB.size; simp; omega))
  replace hb := blk_other_int (blk_alloc hb _) (s5.alloc _) g6 (by decide)
  clear s5 g6
  go_wp2_with fail
  refine (rangeE_c g zs _ _ _ _ s6 (by omega) (by omega) (by omega) (by omega)).mono ?_; rintro e w5 ⟨sv, rfl, hsv0, hsv1, s7, g7⟩
  replace hT := hT.keep (T := 25) (by decide) (s6.keep g7)
  replace hB := hB.trans (grown_below g7 (by rw [hgw.out]; exact Nat.le_refl _) hB.size)
  replace hb := blk_other_int hb s6 g7 (by decide)
  clear s6 g7 s7
  obtain ⟨zc, yc⟩ := blk_facts hb
  have lb := lt_of_heap hb
  generalize w3.heap.size = b3 at *
  go_wp2_with fail
  have hb6 := blk_set (blk_set (blk_set hb 4 (.int .i64 1)) 1 (.int .i64 pm)) 2 (.int .i64 sv)
  have hk : Keep 27 w5 (((w5.setCell ⟨b3, 4, none⟩ (.int .i64 1)).setCell ⟨b3, 1, none⟩ (.int .i64 pm)).setCell ⟨b3, 2, none⟩ (.int .i64 sv)) := ((Keep.of_grown hb (grown_setCell (grown_refl w5 _) (.inl rfl) (.int .i64 1))).trans (Keep.of_grown (blk_set hb 4 (.int .i64 1)) (grown_setCell (grown_refl _ _) (.inl rfl) (.int .i64 pm)))).trans (Keep.of_grown (blk_set (blk_set hb 4 (.int .i64 1)) 1 (.int .i64 pm)) (grown_setCell (grown_refl _ _) (.inl rfl) (.int .i64 sv)))
  have hT6 := hT.keep (T := 27) (by decide) hk
  have hB6 := ((hB.setCell (p := ⟨b3, 4, none⟩) (by show w.heap.size ≤ b3; rw [hgw.out]; omega) (.int .i64 1)).setCell (p := ⟨b3, 1, none⟩) (by show w.heap.size ≤ b3; rw [hgw.out]; omega) (.int .i64 pm)).setCell (p := ⟨b3, 2, none⟩) (by show w.heap.size ≤ b3; rw [hgw.out]; omega) (.int .i64 sv)
  clear hb hT hB hk zc yc lb
  generalize (((w5.setCell ⟨b3, 4, none⟩ (.int .i64 1)).setCell ⟨b3, 1, none⟩ (.int .i64 pm)).setCell ⟨b3, 2, none⟩ (.int .i64 sv)) = w6 at *
  have hb6' : w6.heap[b3]? = some (.cells #[.string key, .int .i64 pm, .int .i64 sv, .int .i64 course, .int .i64 1, .int .i64 sex, .int .i64 young, .int .i64 old] 27 (0, 0)) := hb6
  clear hb6
  have zc := (blk_facts hb6').1
  have z0 := zc 0
  have z1 := zc 1
  have z2 := zc 2
  have z3 := zc 3
  have z4 := zc 4
  have z5 := zc 5
  have z6 := zc 6
  have z7 := zc 7
  have lb := lt_of_heap hb6'
  go_cut [7, 8] (fun s7 s8 wx => ∃ b7 b8 : Nat, s7 = .pointer (some ⟨b7, 0, none⟩) ∧ s8 = .pointer (some ⟨b8, 0, none⟩) ∧ b7 ≠ b8 ∧ w.heap.size ≤ b7 ∧ w.heap.size ≤ b8 ∧ wx.heap[b7]? = some (.cells #[.string key, .int .i64 pm, .int .i64 sv, .int .i64 course, .int .i64 1, .int .i64 sex, .int .i64 young, .int .i64 old] 27 (0, 0)) ∧ wx.heap[b8]? = some (.cells #[.string key, .int .i64 pm, .int .i64 sv, .int .i64 course, .int .i64 1, .int .i64 sex, .int .i64 young, .int .i64 old] 27 (0, 0)) ∧ RTn wx A n l ∧ Below w.heap.size w wx)
  case first =>
    have k7 := blk_alloc (heap_alloc_new w6 (.cells #[.string key, .int .i64 pm, .int .i64 sv, .int .i64 course, .int .i64 1, .int .i64 sex, .int .i64 young, .int .i64 old] 27)) (.cells #[.string key, .int .i64 pm, .int .i64 sv, .int .i64 course, .int .i64 1, .int .i64 sex, .int .i64 young, .int .i64 old] 27)
    have k8 := heap_alloc_at (w6.alloc (.cells #[.string key, .int .i64 pm, .int .i64 sv, .int .i64 course, .int .i64 1, .int .i64 sex, .int .i64 young, .int .i64 old] 27)) (.cells #[.string key, .int .i64 pm, .int .i64 sv, .int .i64 course, .int .i64 1, .int .i64 sex, .int .i64 young, .int .i64 old] 27) (w6.heap.size + 1) (by simp)
    have kT := (hT6.alloc (.cells #[.string key, .int .i64 pm, .int .i64 sv, .int .i64 course, .int .i64 1, .int .i64 sex, .int .i64 young, .int .i64 old] 27)).alloc (.cells #[.string key, .int .i64 pm, .int .i64 sv, .int .i64 course, .int .i64 1, .int .i64 sex, .int .i64 young, .int .i64 old] 27)
    have kB := (hB6.alloc hB6.size (.cells #[.string key, .int .i64 pm, .int .i64 sv, .int .i64 course, .int .i64 1, .int .i64 sex, .int .i64 young, .int .i64 old] 27)).alloc (by have := hB6.size; simp; omega) (.cells #[.string key, .int .i64 pm, .int .i64 sv, .int .i64 course, .int .i64 1, .int .i64 sex, .int .i64 young, .int .i64 old] 27)
    have kz := hB6.size
    have H := Lib.hid (And.intro k7 (And.intro k8 (And.intro kT kB)))
    clear k7 k8 kT kB
    go_region_held3 (fun w' => w'.cell? ⟨b3, 0, none⟩ = some (.string key) ∧ w'.cell? ⟨b3, 1, none⟩ = some (.int .i64 pm) ∧ w'.cell? ⟨b3, 2, none⟩ = some (.int .i64 sv) ∧ w'.cell? ⟨b3, 3, none⟩ = some (.int .i64 course) ∧ w'.cell? ⟨b3, 4, none⟩ = some (.int .i64 1) ∧ w'.cell? ⟨b3, 5, none⟩ = some (.int .i64 sex) ∧ w'.cell? ⟨b3, 6, none⟩ = some (.int .i64 young) ∧ w'.cell? ⟨b3, 7, none⟩ = some (.int .i64 old)) (go_keep) (fail)
    all_goals
      go_wp2
      go_meet
      case rel => first | exact ⟨w6.heap.size, w6.heap.size + 1, rfl, rfl, by omega, kz, by omega, H.out.1, H.out.2.1, H.out.2.2.1.drew, below_drewN H.out.2.2.2 1⟩ | exact ⟨w6.heap.size + 1, w6.heap.size, rfl, rfl, by omega, by omega, kz, H.out.2.1, H.out.1, H.out.2.2.1.drew, below_drewN H.out.2.2.2 1⟩
  case rest =>
    clear hb6' hT6 hB6 zc z0 z1 z2 z3 z4 z5 z6 z7 lb
    obtain ⟨b7, b8, rfl, rfl, hne, hl7, hl8, k7, k8, hT, hB⟩ := hcut
    rename World => wx
    have hpm' : pm = 100 ∨ pm = 200 := by simpa using hpm
    have hrl : raceErr ⟨key, pm, sv, 50, 1, sex, young, old⟩ = 0 := raceErr_of hq1.out (by dsimp only; omega) (by dsimp only; omega) (.inr rfl) (by dsimp only; omega) (by dsimp only; omega) (by dsimp only; omega) (by dsimp only; rcases hpm' with rfl | rfl <;> rfl) (by rintro ⟨h5, _⟩; dsimp only at h5; omega)
    have hrs : raceErr ⟨key, pm, sv, 25, 1, sex, young, old⟩ = 0 := raceErr_of hq1.out (by dsimp only; omega) (by dsimp only; omega) (.inl rfl) (by dsimp only; omega) (by dsimp only; omega) (by dsimp only; omega) (by dsimp only; rcases hpm' with rfl | rfl <;> rfl) (by rintro ⟨h5, _⟩; dsimp only at h5; omega)
    have hTf := Lib.hid (fun W => turnsFault_c A n c l W)
    have hTs := fun (m : Int) W h => toShort_c A n c l ⟨key, pm, sv, 50, 1, sex, young, old⟩ m W h
    have hTl := fun W h => toLong_c A n c l ⟨key, pm, sv, 25, 1, sex, young, old⟩ time W h
    have hlk := fun (h : turnsErr l = 0) (m : Int) (h1 : 1 ≤ m) (h2 : m ≤ 360000) => show lookErr l ⟨key, pm, sv, 50, 1, sex, young, old⟩ 50 m = 0 by
      have := lookErr_cases l ⟨key, pm, sv, 50, 1, sex, young, old⟩ 50 m
      dsimp only at this; omega
    have hlk2 := fun (h : turnsErr l = 0) => show lookErr l ⟨key, pm, sv, 25, 1, sex, young, old⟩ 25 time = 0 by
      have := lookErr_cases l ⟨key, pm, sv, 25, 1, sex, young, old⟩ 25 time
      dsimp only at this; omega
    have hLI := fun v (h : LongE l ⟨key, pm, sv, 25, 1, sex, young, old⟩ time v) (h0 : turnsErr l = 0) => show LongIs (findT sv pm l) time v from by
      rcases h with ⟨h1, _⟩ | ⟨_, h2⟩
      · exact absurd (hlk2 h0) h1
      · exact h2
    have hSI := fun (h : turnsErr l = 0) (m : Int) (h1 : 1 ≤ m) (h2 : m ≤ 360000) => show shortE l ⟨key, pm, sv, 50, 1, sex, young, old⟩ m = shortV (findT sv pm l) m from if_pos (hlk h m h1 h2)
    generalize turnsErr l = TE at *
    generalize LongE l ⟨key, pm, sv, 25, 1, sex, young, old⟩ time = LE at *
    generalize lookErr l ⟨key, pm, sv, 25, 1, sex, young, old⟩ 25 time = E2 at *
    generalize hsE : shortE l ⟨key, pm, sv, 50, 1, sex, young, old⟩ = SEf at *
    generalize hlE : lookErr l ⟨key, pm, sv, 50, 1, sex, young, old⟩ 50 = E5f at *
    clear hsE hlE hrl hrs hpm' hpm q2 q3 q4 q5 q6
    dsimp only [Race.val, Race.cells] at *
    have HTs := Lib.hid hTs
    have HTl := Lib.hid hTl
    have Hlk := Lib.hid hlk
    have Hlk2 := Lib.hid hlk2
    have HLI := Lib.hid hLI
    have HSI := Lib.hid hSI
    clear hTs hTl hlk hlk2 hLI hSI
    obtain ⟨u7, v7⟩ := blk_facts k7
    obtain ⟨u8, v8⟩ := blk_facts k8
    have m7 : ((wx.setCell ⟨b7, 3, none⟩ (.int .i64 50)).setCell ⟨b8, 3, none⟩ (.int .i64 25)).heap[b7]? = some (.cells #[.string key, .int .i64 pm, .int .i64 sv, .int .i64 50, .int .i64 1, .int .i64 sex, .int .i64 young, .int .i64 old] 27 (0, 0)) := blk_other (blk_set k7 3 (.int .i64 50)) (p := ⟨b8, 3, none⟩) hne _
    have m8 : ((wx.setCell ⟨b7, 3, none⟩ (.int .i64 50)).setCell ⟨b8, 3, none⟩ (.int .i64 25)).heap[b8]? = some (.cells #[.string key, .int .i64 pm, .int .i64 sv, .int .i64 25, .int .i64 1, .int .i64 sex, .int .i64 young, .int .i64 old] 27 (0, 0)) := blk_set (blk_other k8 (p := ⟨b7, 3, none⟩) (fun e => hne e.symm) _) 3 (.int .i64 25)
    have hk : Keep 27 wx ((wx.setCell ⟨b7, 3, none⟩ (.int .i64 50)).setCell ⟨b8, 3, none⟩ (.int .i64 25)) := (Keep.of_grown k7 (grown_setCell (grown_refl wx _) (.inl rfl) (.int .i64 50))).trans (Keep.of_grown (blk_other k8 (p := ⟨b7, 3, none⟩) (fun e => hne e.symm) (.int .i64 50)) (grown_setCell (grown_refl _ _) (.inl rfl) (.int .i64 25)))
    have hT7 := hT.keep (T := 27) (by decide) hk
    have hB7 := (hB.setCell (p := ⟨b7, 3, none⟩) hl7 (.int .i64 50)).setCell (p := ⟨b8, 3, none⟩) hl8 (.int .i64 25)
    clear hk hT hB k7 k8
    go_wp2_with fail
    refine (hTf.out _ hT7).mono ?_; rintro e w8 ⟨rfl, B8⟩
    replace hT7 := hT7.below B8
    replace m7 := blk_below m7 B8
    replace m8 := blk_below m8 B8
    replace hB7 := below_next hB7 B8
    clear B8
    clear u7 u8 v7 v8
    replace u8 := (blk_facts m8).1
    by_cases hte : TE = 0
    rotate_left
    · have hte1 : (TE != 0) = true := by simpa using hte
      clear hte
      go_wp2_with fail
      refine (ready_c _).mono ?_; rintro e w9 ⟨rfl, B9⟩
      go_wp2
      go_ret
      exact ⟨rfl, by have := below_next hB7 B9; rwa [hgw.out] at this⟩
    have hE2 : E2 = 0 := Hlk2.out hte
    have HTl2 := HTl.out
    rw [hE2] at HTl2
    have HTl3 := Lib.hid HTl2
    have Hlk' := Lib.hid (Hlk.out hte)
    have HLI' := Lib.hid (fun v h => HLI.out v h hte)
    have HSI' := Lib.hid (HSI.out hte)
    subst hte
    clear HTl HTl2 hE2 Hlk Hlk2 HLI HSI hTf
    go_wp2_with fail
    refine (HTl3.out _ hT7).mono ?_; rintro e w9 ⟨m, rfl, hm, B9⟩
    replace hm := HLI'.out m hm
    replace hT7 := hT7.below B9
    replace m7 := blk_below m7 B9
    replace m8 := blk_below m8 B9
    replace hB7 := below_next hB7 B9
    clear B9
    clear u8
    replace u7 := (blk_facts m7).1
    by_cases hm0 : m = 0
    · subst hm0
      clear hm
      go_wp2_with fail
      refine (ready_c _).mono ?_; rintro e w10 ⟨rfl, B10⟩
      go_wp2
      go_ret
      exact ⟨rfl, by have := below_next hB7 B10; rwa [hgw.out] at this⟩
    generalize hFd : findT sv pm l = F at *
    clear hFd
    cases F with
    | none => exact absurd hm hm0
    | some t =>
      rcases hm with ⟨_, h⟩ | ⟨_, l1, l2, l3, l4⟩
      · exact absurd h hm0
      have hS1 := HSI'.out m l1 l2
      have hE1 := Hlk'.out m l1 l2
      have hd1 : Hid (decide (0 < m) = true) := Lib.hid (decide_eq_true (by omega))
      have hTs1 := HTs.out m
      rw [hS1, hE1, show shortV (some t) m = max 0 (worthV t m) from rfl, show max 0 (worthV t m) = worthV t m by omega] at hTs1
      rw [show decide (0 < worthV t m) = true from decide_eq_true (by omega)] at hTs1
      have hTs1' := Lib.hid hTs1
      have hlow := Lib.hid (show 1 < m → worthV t (m - 1) < time from fun h => l4 (m - 1) (by omega) (by omega))
      have hS2 := Lib.hid (fun (h : 1 < m) => show SEf (m - 1) = max 0 (worthV t (m - 1)) from HSI'.out (m - 1) (by omega) (by omega))
      have hE2 := Lib.hid (fun (h : 1 < m) => Hlk'.out (m - 1) (by omega) (by omega))
      have hm1 : 0 < m := by omega
      clear hS1 hE1 hTs1 l1 l4 hm0 HSI' HLI' Hlk'
      generalize worthV t m = a at *
      rw [hd1.out]
      go_wp2_with fail
      refine (hTs1'.out _ hT7).mono ?_; rintro e w10 ⟨rfl, B10⟩
      replace hT7 := hT7.below B10
      replace m7 := blk_below m7 B10
      replace m8 := blk_below m8 B10
      replace hB7 := below_next hB7 B10
      clear B10
      replace u7 := (blk_facts m7).1
      have hage : time ≤ a := l3
      by_cases hm2 : 1 < m
      rotate_left
      · go_wp2_with fail
        refine (ready_c _).mono ?_; rintro e w12 ⟨rfl, B12⟩
        go_wp2
        go_ret
        exact ⟨rfl, by have := below_next hB7 B12; rwa [hgw.out] at this⟩
      have hlw := hlow.out hm2
      have hSb := hS2.out hm2
      have hEb := hE2.out hm2
      have hTs2 := HTs.out (m - 1)
      rw [hSb, hEb] at hTs2
      have hTs2' := Lib.hid hTs2
      clear hTs2 hSb hEb hlow hS2 hE2 HTs hTs1'
      generalize worthV t (m - 1) = b at *
      go_wp2_with fail
      refine (hTs2'.out _ hT7).mono ?_; rintro e w11 ⟨rfl, B11⟩
      replace hB7 := below_next hB7 B11
      clear B11
      by_cases hb0 : 0 < b
      · rw [show max 0 b = b by omega, show decide (0 < b) = true from decide_eq_true hb0]
        go_wp2_with fail
        refine (ready_c _).mono ?_; rintro e w12 ⟨rfl, B12⟩
        go_wp2
        go_ret
        exact ⟨rfl, by have := below_next hB7 B12; rwa [hgw.out] at this⟩
      · rw [show max 0 b = 0 by omega, show decide ((0 : Int) < 0) = false from rfl]
        go_wp2_with fail
        refine (ready_c _).mono ?_; rintro e w12 ⟨rfl, B12⟩
        go_wp2
        go_ret
        exact ⟨rfl, by have := below_next hB7 B12; rwa [hgw.out] at this⟩
end Go.Proofs.YtjfppcejcbfngaaDoor
