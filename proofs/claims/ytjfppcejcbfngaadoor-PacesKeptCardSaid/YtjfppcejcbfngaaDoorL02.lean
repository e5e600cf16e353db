/- PacesKept: Even, Like, Turns and Fade answer as the reference says: the walk. -/
import Derived.Test.YtjfppcejcbfngaaDoorL02A
import Derived.Test.YtjfppcejcbfngaaDoorSwumR
import Derived.Test.YtjfppcejcbfngaaDoorLawBase
import Derived.Deep.DeepCutAuto
namespace Go.Proofs.YtjfppcejcbfngaaDoor
open Go.RowKit
set_option linter.unusedVariables false

theorem ksL_len {zs : List Int} : ∀ (m k : Nat) (t : Int), (ksL zs m k t).length = m
  | 0, _, _ => rfl
  | m + 1, k, t => by unfold ksL; rw [List.length_cons, ksL_len m]

set_option maxHeartbeats 3200000 in
set_option maxRecDepth 100000 in
theorem pacesKept_walk (a0 : Option Addr) (len0 cap0 : Nat) (z0 : List Int) (w : World) (w0 : IsRow .i64 w a0 len0 cap0 z0) :
    Calls Tryd.prog 4 #[.slice a0 len0 cap0] w fun e w' => e = .returned (.bool true) ∧ Below w.heap.size w w' := by
  have hs := law_start w0
  clear w0
  generalize z0.take len0 = zs at *
  go_enter Tryd.func4, Tryd.ntmps4
  go_wp2_with fail
  refine (swumRace_c w.heap.size zs 0 _ hs (by omega)).mono ?_; rintro e w1 ⟨rfl, s1, g1⟩
  have hk := swumRace_k zs 0
  generalize (swumRace zs 0).1 = r at *
  generalize (swumRace zs 0).2 = k at *
  go_wp2_with fail
  refine (clockedS_c w.heap.size zs k _ s1 (by omega)).mono ?_; rintro e w2 ⟨⟨ct, rfl, _⟩, s2, g2⟩
  go_wp2_with fail
  refine (pick_c w.heap.size zs (k + 4) _ _ _ [1, 5, 2500, 6100, 12345, 360000, ct] _ (s2.alloc _) (by omega) (R1.litAt _ _ _ _ (by first | rfl | simp) rfl (le_big (by first | decide | simp))) (by first | decide | simp)).mono ?_; rintro e w3 ⟨rfl, s3, g3⟩
  generalize pickV zs (k + 4) [1, 5, 2500, 6100, 12345, 360000, ct] = t at *
  have hG := grown_trans (grown_alloc (grown_trans g1 g2) _) g3
  clear s1 s2 g1 g2 g3 hs
  have hB3 : Below w.heap.size w w3 := (below_new w _).trans (grown_below hG (Nat.le_refl _) (by simp))
  clear hG
  have hw1 : w.heap.size < w3.heap.size := s3.lt
  have Hf := fun W => raceFault_c r W
  have Hks := fun W h h' => knownSplits_c w.heap.size zs (k + 5) r W h (by omega) h'
  have Hsp := fun k' W h hk h' => splits_c w.heap.size zs k' r W h hk h'
  have He := fun W => evenAny_c r t W
  have Heo := fun W => evenOfA_c r t W
  have Hkf := fun A n c l W h => knownFault_c r A n c l W h
  have Hli := fun A n c l W h => likeAny_c r A n c l t W h
  have Hlo := fun A n c l W h => likeOfA_c r A n c l t W h
  have Htu := fun A n c l W h => turns_c r A n c l W h
  have Hte := fun A n c l W h => turns_err r A n c l W h
  have Hfa := fun A n c l W h => fade_c r A n c l W h
  have Hfh := fun A n c l W h => fade_half r A n c l W h
  have Hfe := fun A n c l W h => fade_err r A n c l W h
  have Hbd := fun l => half_bd (r := r) (l := l)
  have Hsb := fun l (h : wholeErr r l = 0) => splits_bd (wholeErr_ok h).1
  have Hw0 := fun l (h : raceErr r = 0) => show wholeErr r l = knownErr r l by unfold wholeErr; rw [if_neg (by simp [h])]
  have Hw1 := fun l (h : raceErr r ≠ 0) => show wholeErr r l = raceErr r by unfold wholeErr; rw [if_pos h]
  have HeE := fun (x : Int) => evenA_err (r := r) (t := t) (x := x)
  have HlE := fun (l : List Int) (x : Int) => likeA_err (r := r) (l := l) (t := t) (x := x)
  have hlv := fun (h : raceErr r = 0) => lenV_bd h
  have hKl : (knownSplits zs (k + 5) r).length = (lenV r).toNat := ksL_len _ _ _
  generalize knownSplits zs (k + 5) r = KS at *
  generalize lenV r = LV at *
  generalize evenAL r t = EL at *
  generalize evenAE r t = EE at *
  generalize likeAL r = LL at *
  generalize likeAE r = LE at *
  generalize wholeErr r = WE at *
  generalize knownErr r = KE at *
  generalize raceErr r = x0 at *
  have tH := timeFault_c t
  generalize timeErr t = te at *
  obtain ⟨key, metres, stroke, course, legs, sex, young, old⟩ := r
  dsimp only [Race.val, Race.cells] at *
  have Hf' := Lib.hid Hf; clear Hf
  have Hks' := Lib.hid Hks; clear Hks
  have Hsp' := Lib.hid Hsp; clear Hsp
  have He' := Lib.hid He; clear He
  have Heo' := Lib.hid Heo; clear Heo
  have Hkf' := Lib.hid Hkf; clear Hkf
  have Hli' := Lib.hid Hli; clear Hli
  have Hlo' := Lib.hid Hlo; clear Hlo
  have Htu' := Lib.hid Htu; clear Htu
  have Hte' := Lib.hid Hte; clear Hte
  have Hfa' := Lib.hid Hfa; clear Hfa
  have Hfh' := Lib.hid Hfh; clear Hfh
  have Hfe' := Lib.hid Hfe; clear Hfe
  have Hbd' := Lib.hid Hbd; clear Hbd
  have Hsb' := Lib.hid Hsb; clear Hsb
  have Hw0' := Lib.hid Hw0; clear Hw0
  have Hw1' := Lib.hid Hw1; clear Hw1
  have HeE' := Lib.hid HeE; clear HeE
  have HlE' := Lib.hid HlE; clear HlE
  have hlv' := Lib.hid hlv; clear hlv
  have tH' := Lib.hid tH; clear tH
  have hnew := heap_alloc_new w3 (.cells #[.string key, .int .i64 metres, .int .i64 stroke, .int .i64 course, .int .i64 legs, .int .i64 sex, .int .i64 young, .int .i64 old] 27)
  have s4 := s3.alloc (.cells #[.string key, .int .i64 metres, .int .i64 stroke, .int .i64 course, .int .i64 legs, .int .i64 sex, .int .i64 young, .int .i64 old] 27)
  have hB4 := hB3.alloc (by omega) (.cells #[.string key, .int .i64 metres, .int .i64 stroke, .int .i64 course, .int .i64 legs, .int .i64 sex, .int .i64 young, .int .i64 old] 27)
  go_wp2_with fail
  refine (Hf'.out _).mono ?_; rintro e w5 ⟨rfl, B5⟩
  have hb5 := blk_below hnew B5
  have s5 := s4.below B5
  have hB5 := below_next hB4 B5
  clear hnew s3 s4 hB3 hB4 B5
  generalize w3.heap.size = b4 at *
  go_upto_if 39 with (fail)
  go_cut [7] (fun s7 wx => ∃ A n c l, s7 = .slice A n c ∧ RI 3 wx A n l ∧ wx.heap[b4]? = some (.cells #[.string key, .int .i64 metres, .int .i64 stroke, .int .i64 course, .int .i64 legs, .int .i64 sex, .int .i64 young, .int .i64 old] 27 (0, 0)) ∧ Below w.heap.size w wx)
  case first =>
    clear He' Heo' Hkf' Hli' Hlo' Htu' Hte' Hfa' Hfh' Hfe' Hbd' Hsb' Hw0' Hw1' HeE' HlE' tH'
    have hr0 := R1.lit (enc := Value.int .i64) (e := 3) w5 #[.int .i64 1, .int .i64 2] [1, 2] rfl (le_big (by decide))
    have hb6 := blk_alloc hb5 (.cells #[.int .i64 1, .int .i64 2] 3)
    have s6 := s5.alloc (.cells #[.int .i64 1, .int .i64 2] 3)
    have hB6 := hB5.alloc hB5.size (.cells #[.int .i64 1, .int .i64 2] 3)
    by_cases h0 : x0 = 0
    · have hlv := hlv'.out h0
      have hc0 := (blk_facts hb6).1
      have h0' := Lib.hid h0
      have ht : (x0 == 0) = true := by simpa using h0
      clear h0 hr0
      go_wp2_with fail
      refine (Hks'.out _ s6 h0'.out).mono ?_; rintro e w7 ⟨A, n, c, rfl, hown, s7, g7⟩
      have hr7 : RI 3 w7 A n KS := R1.of_own hown (by have := hown.1; rw [ints_len] at this; omega)
      have hb7 := blk_grown hb6 g7 (by simp; omega)
      have hB7 := hB6.trans (grown_below g7 (Nat.le_refl _) hB6.size)
      clear hown hb6 hB6 s6 hc0
      go_wp2_with fail
      refine (flip_c w.heap.size zs _ _ _ s7 (by omega) (by omega) (by omega)).mono ?_; rintro e w8 ⟨rfl, s8, g8⟩
      have hb8 := blk_grown hb7 g8 (by simp; omega)
      have hr8 := hr7.keep (T := 25) (by decide) (s7.keep g8)
      have hB8 := hB7.trans (grown_below g8 (Nat.le_refl _) hB7.size)
      have hc8 := (blk_facts hb8).1
      clear hb7 hr7 hB7 s7 g7 g8
      by_cases hf : (nextV zs (k + 5 + 2 * LV.toNat) 5 == 0) = true
      · go_wp2_with fail
        refine (Hsp'.out _ _ s8 (by omega) h0'.out).mono ?_; rintro e w9 ⟨A9, n9, c9, l9, k9, rfl, hown9, s9, _, g9, hn9⟩
        have hr9 : RI 3 w9 A9 n9 l9 := R1.of_own hown9 (by omega)
        have hb9 := blk_grown hb8 g9 (by simp; omega)
        have hB9 := hB8.trans (grown_below g9 (Nat.le_refl _) hB8.size)
        clear hown9 s9 g9 hc8
        go_wp2
        go_meet
        case rel => exact ⟨_, _, _, _, rfl, hr9, hb9, hB9⟩
      · clear hc8
        go_wp2
        go_meet
        case rel => exact ⟨_, _, _, _, rfl, hr8, hb8, hB8⟩
    · go_wp2
      go_meet
      case rel => exact ⟨_, _, _, [1, 2], rfl, hr0, hb6, hB6⟩
  case rest =>
    obtain ⟨A, n, c, l, rfl, hr, hb, hB⟩ := hcut
    clear Hks' Hsp' hlv' s5 hb5 hB5
    have hc := (blk_facts hb).1
    go_wp2_with fail
    refine (He'.out _).mono ?_; rintro e w6 ⟨A6, n6, c6, rfl, hr6, B6⟩
    have hB6 := below_next hB B6
    have hb6 := blk_below hb B6
    have hr' := hr.below B6
    clear hc hB B6 hb hr
    go_wp2_with fail
    refine (tH'.out _).mono ?_; rintro e w' ⟨rfl, rfl⟩
    go_wp2_with fail
    refine (orE_c _ _ _ [x0, te] _ (R1.litAt _ _ _ _ (by first | rfl | simp) rfl (le_big (by first | decide | simp)))).mono ?_; rintro e w' ⟨rfl, rfl⟩
    rw [show orV [x0, te] = or2 x0 te from rfl]
    have hB7 := hB6.alloc hB6.size (.cells #[.int .i64 x0, .int .i64 te] 29)
    have hb7 := blk_alloc hb6 (.cells #[.int .i64 x0, .int .i64 te] 29)
    have hr7 := hr'.alloc (.cells #[.int .i64 x0, .int .i64 te] 29)
    have hs7 := hr6.alloc (.cells #[.int .i64 x0, .int .i64 te] 29)
    clear hB6 hb6 hr' hr6
    go_upto_if 60 with (fail)
    have hr7' := Lib.hid hr7
    go_cut [10, 11] (fun s10 s11 wx => s10 = .int .i64 EE ∧ (∃ B m d, s11 = .slice B m d ∧ RI 3 wx B m EL) ∧ RI 3 wx A6 n6 EL ∧ RI 3 wx A n l ∧ wx.heap[b4]? = some (.cells #[.string key, .int .i64 metres, .int .i64 stroke, .int .i64 course, .int .i64 legs, .int .i64 sex, .int .i64 young, .int .i64 old] 27 (0, 0)) ∧ Below w.heap.size w wx)
    case first =>
      clear Hkf' Hli' Hlo' Htu' Hte' Hfa' Hfh' Hfe' Hbd' Hsb' Hw0' Hw1' HlE' tH'
      by_cases h0 : or2 x0 te = 0
      · have hc7 := (blk_facts hb7).1
        have h0' := Lib.hid h0
        have ht : (or2 x0 te == 0) = true := by simpa using h0
        clear h0 HeE'
        go_wp2_with fail
        refine (Heo'.out _ h0'.out).mono ?_; rintro e w8 ⟨A8, n8, c8, rfl, hr8, B8⟩
        have hb8 := blk_below hb7 B8
        have hB8 := below_next hB7 B8
        have hl8 := hr7.below B8
        have hs8 := hs7.below B8
        clear hb7 hB7 hr7 hs7 B8 hc7
        go_wp2
        go_meet
        case rel => exact ⟨rfl, ⟨_, _, _, rfl, hr8⟩, hs8, hl8, hb8, hB8⟩
      · obtain ⟨e1, e2⟩ := HeE'.out _ rfl h0
        have e2' := Lib.hid e2
        subst e1
        clear e2
        have ht : (or2 x0 te == 0) = false := by simpa using h0
        clear h0
        go_wp2
        go_meet
        case rel => exact ⟨by rw [e2'.out], ⟨_, _, _, rfl, R1.nil_ _ _ _ _⟩, hs7, hr7, hb7, hB7⟩
    case rest =>
      obtain ⟨rfl, ⟨B, m, d, rfl, hq⟩, hs, hr, hb, hB⟩ := hcut
      clear hr7 hs7 hb7 hB7 hr7' HeE' Heo' He'
      have hc := (blk_facts hb).1
      go_wp2_with fail
      refine (equal_c _ _ _ _ _ _ _ _ _ hs hq).mono ?_; rintro e w9 ⟨rfl, B9⟩
      rw [eqB_refl]
      have hb9 := blk_below hb B9
      have hB9 := below_next hB B9
      have hr9 := hr.below B9
      clear hb hB hr hs hq B9 hc
      go_upto_if 77 with (fail)
      go_cut [6] (fun s6 wx => s6 = .int .i64 (WE l) ∧ RI 3 wx A n l ∧ wx.heap[b4]? = some (.cells #[.string key, .int .i64 metres, .int .i64 stroke, .int .i64 course, .int .i64 legs, .int .i64 sex, .int .i64 young, .int .i64 old] 27 (0, 0)) ∧ Below w.heap.size w wx)
      case first =>
        clear Hli' Hlo' Htu' Hte' Hfa' Hfh' Hfe' Hbd' Hsb' HlE' tH'
        by_cases h0 : x0 = 0
        · have hc9 := (blk_facts hb9).1
          have e1 := Lib.hid (Hw0'.out l h0)
          have h0' := Lib.hid h0
          have ht : (x0 == 0) = true := by simpa using h0
          clear h0 Hw0' Hw1'
          go_wp2_with fail
          refine (Hkf'.out _ _ _ _ _ hr9 h0'.out).mono ?_; rintro e w10 ⟨rfl, B10⟩
          have hb10 := blk_below hb9 B10
          have hB10 := below_next hB9 B10
          have hr10 := hr9.below B10
          clear hb9 hB9 hr9 hc9 B10
          go_wp2
          go_meet
          case rel => exact ⟨by rw [e1.out], hr10, hb10, hB10⟩
        · have e1 := Lib.hid (Hw1'.out l h0)
          have ht : (x0 == 0) = false := by simpa using h0
          clear h0 Hw0' Hw1'
          go_wp2
          go_meet
          case rel => exact ⟨by rw [e1.out], hr9, hb9, hB9⟩
      case rest =>
        obtain ⟨rfl, hr, hb, hB⟩ := hcut
        clear hb9 hB9 hr9 Hkf' Hw0' Hw1'
        have hc := (blk_facts hb).1
        have Hl1 := Lib.hid (Hli'.out A n c l)
        have Hl2 := Lib.hid (Hlo'.out A n c l)
        have Hl3 := Lib.hid (HlE'.out l)
        have Ht1 := Lib.hid (Htu'.out A n c l)
        have Ht2 := Lib.hid (Hte'.out A n c l)
        have Hf1 := Lib.hid (Hfa'.out A n c l)
        have Hf2 := Lib.hid (Hfh'.out A n c l)
        have Hf3 := Lib.hid (Hfe'.out A n c l)
        have Hb1 := Lib.hid (Hbd'.out l)
        have Hb2 := Lib.hid (Hsb'.out l)
        clear Hli' Hlo' HlE' Htu' Hte' Hfa' Hfh' Hfe' Hbd' Hsb'
        generalize WE l = we at *
        generalize LL l t = ll at *
        generalize LE l t = le at *
        go_wp2_with fail
        refine (Hl1.out _ hr).mono ?_; rintro e w6 ⟨A7, n7, c7, rfl, hr6, B6⟩
        have hB6 := below_next hB B6
        have hb6 := blk_below hb B6
        have hr' := hr.below B6
        clear hc hB B6 hb hr Hl1
        go_wp2_with fail
        refine (tH'.out _).mono ?_; rintro e w' ⟨rfl, rfl⟩
        go_wp2_with fail
        refine (orE_c _ _ _ [we, te] _ (R1.litAt _ _ _ _ (by first | rfl | simp) rfl (le_big (by first | decide | simp)))).mono ?_; rintro e w' ⟨rfl, rfl⟩
        rw [show orV [we, te] = or2 we te from rfl]
        have hB7 := hB6.alloc hB6.size (.cells #[.int .i64 we, .int .i64 te] 29)
        have hb7 := blk_alloc hb6 (.cells #[.int .i64 we, .int .i64 te] 29)
        have hr7 := hr'.alloc (.cells #[.int .i64 we, .int .i64 te] 29)
        have hs7 := hr6.alloc (.cells #[.int .i64 we, .int .i64 te] 29)
        clear hB6 hb6 hr' hr6 tH'
        go_upto_if 94 with (fail)
        go_cut [13, 14] (fun s10 s11 wx => s10 = .int .i64 le ∧ (∃ B m d, s11 = .slice B m d ∧ RI 3 wx B m ll) ∧ RI 3 wx A7 n7 ll ∧ RI 3 wx A n l ∧ wx.heap[b4]? = some (.cells #[.string key, .int .i64 metres, .int .i64 stroke, .int .i64 course, .int .i64 legs, .int .i64 sex, .int .i64 young, .int .i64 old] 27 (0, 0)) ∧ Below w.heap.size w wx)
        case first =>
          clear Ht1 Ht2 Hf1 Hf2 Hf3 Hb1 Hb2
          by_cases h0 : or2 we te = 0
          · have hc7 := (blk_facts hb7).1
            have h0' := Lib.hid h0
            have ht : (or2 we te == 0) = true := by simpa using h0
            clear h0 Hl3
            go_wp2_with fail
            refine (Hl2.out _ hr7 h0'.out).mono ?_; rintro e w8 ⟨A8, n8, c8, rfl, hr8, B8⟩
            have hb8 := blk_below hb7 B8
            have hB8 := below_next hB7 B8
            have hl8 := hr7.below B8
            have hs8 := hs7.below B8
            clear hb7 hB7 hr7 hs7 B8 hc7
            go_wp2
            go_meet
            case rel => exact ⟨rfl, ⟨_, _, _, rfl, hr8⟩, hs8, hl8, hb8, hB8⟩
          · obtain ⟨e1, e2⟩ := Hl3.out _ rfl h0
            have e2' := Lib.hid e2
            subst e1
            clear e2
            have ht : (or2 we te == 0) = false := by simpa using h0
            clear h0
            go_wp2
            go_meet
            case rel => exact ⟨by rw [e2'.out], ⟨_, _, _, rfl, R1.nil_ _ _ _ _⟩, hs7, hr7, hb7, hB7⟩
        case rest =>
          obtain ⟨rfl, ⟨B, m, d, rfl, hq⟩, hs, hr, hb, hB⟩ := hcut
          clear hr7 hs7 hb7 hB7 Hl2 Hl3
          have hc := (blk_facts hb).1
          go_wp2_with fail
          refine (equal_c _ _ _ _ _ _ _ _ _ hs hq).mono ?_; rintro e w9 ⟨rfl, B9⟩
          rw [eqB_refl]
          have hb9 := blk_below hb B9
          have hB9 := below_next hB B9
          have hr9 := hr.below B9
          clear hb hB hr hs hq B9 hc
          have hc9 := (blk_facts hb9).1
          by_cases h0 : we = 0
          · have h0' := Lib.hid h0
            have ht : (we != 0) = false := by simp [h0]
            clear h0
            go_wp2_with fail
            refine (Ht1.out _ hr9 h0'.out).mono ?_; rintro e w10 ⟨rfl, B10⟩
            have hb10 := blk_below hb9 B10
            have hB10 := below_next hB9 B10
            have hr10 := hr9.below B10
            obtain ⟨hn1, hn, hbd⟩ := Hb2.out h0'.out
            rw [hr10.len] at hn1 hn
            have HT := fun W h => turnsOf_c A n c l W h hn1 hn hbd
            have HH := fun W h => halvesOf_c A n c l W h hn1 hn hbd
            generalize (turnsP (lapsL l)).1 + 1 = p1 at *
            generalize (turnsP (lapsL l)).2 + 1 = p2 at *
            have HT' := Lib.hid HT
            clear HT hc9 hb9 hB9 hr9 B10 Ht1 Ht2 Hf3 hbd Hb2
            have hc10 := (blk_facts hb10).1
            by_cases hh : halfE l = 0
            · obtain ⟨hA0, hA1, hB0, hB1⟩ := Hb1.out h0'.out hh
              have hv : halfV l = .tuple #[.int .i64 (halfA l), .int .i64 (halfB l), .int .i64 0] := by unfold halfV; rw [hh]
              rw [hv] at HH
              have Hf := Lib.hid (fun W h => Hf1.out W h h0'.out hh)
              have HL := fun W => lowest_c (halfB l) (halfA l) W hB0 hA0 (by omega) (by omega)
              clear hv hh Hf1 Hf2 Hb1
              generalize halfA l = hA at *
              generalize halfB l = hB at *
              have eV : fracV hB hA = .agg #[.int .i64 (fracN hB hA), .int .i64 (fracD hB hA)] := rfl
              generalize fracV hB hA = V at *
              generalize fracN hB hA = fx at *
              generalize fracD hB hA = fy at *
              subst eV
              have HH' := Lib.hid HH
              have HL' := Lib.hid HL
              clear HH HL
              go_wp2_with fail
              refine (Hf.out _ hr10).mono ?_; rintro e w11 ⟨rfl, B11⟩
              have hB11 := below_next hB10 B11
              have hr11 := (hr10.below B11).alloc (.cells #[.int .i64 fx, .int .i64 fy] 51)
              have hp11 := heap_alloc_new w11 (.cells #[.int .i64 fx, .int .i64 fy] 51)
              have hB12 := hB11.alloc hB11.size (.cells #[.int .i64 fx, .int .i64 fy] 51)
              clear hc10 hb10 hB10 hr10 B11 hB11
              go_wp2_with fail
              refine (HT'.out _ hr11).mono ?_; rintro e w12 ⟨rfl, B12⟩
              have hB13 := below_next hB12 B12
              have hp12 := blk_below hp11 B12
              have hr12 := hr11.below B12
              clear hp11 hr11 hB12 B12
              go_wp2_with fail
              refine (HH'.out _ hr12).mono ?_; rintro e w13 ⟨rfl, q, rfl⟩
              have hp13 := blk_alloc (w := w12.drewN q) hp12 (.cells #[.int .i64 0, .int .i64 0] 51)
              have hq13 : ((w12.drewN q).alloc (.cells #[.int .i64 0, .int .i64 0] 51)).heap[w12.heap.size]? = _ := heap_alloc_new (w12.drewN q) (.cells #[.int .i64 0, .int .i64 0] 51)
              have hB14 := (below_drewN hB13 q).alloc hB13.size (.cells #[.int .i64 0, .int .i64 0] 51)
              have hle := lt_of_heap hp12
              have hz12 := hB13.size
              clear hp12 hr12 hB13
              go_wp2_with fail
              refine (HL'.out _).mono ?_; rintro e w14 ⟨rfl, B14⟩
              have hp14 := blk_below hp13 B14
              have hq14 := blk_below hq13 B14
              have hB15 := below_next hB14 B14
              obtain ⟨PC, PF⟩ := blk_facts hp14
              obtain ⟨QC, QF⟩ := blk_facts hq14
              clear hp13 hq13 hB14 B14 hp14 hq14
              go_wp2_with fail
              refine (raced_c _).mono ?_; rintro e w15 ⟨rfl, B15⟩
              go_wp2
              go_ret
              exact ⟨rfl, below_next (by first | exact hB15 | exact (hB15.setCell hz12 _).setCell hz12 _) B15⟩
            · have Hf := Lib.hid (fun W h => Hf2.out W h h0'.out hh)
              have hth : (halfE l == 0) = false := by simpa using hh
              rw [half_err hh] at HH
              clear hh Hf1 Hf2 Hb1
              generalize halfE l = he at *
              have HH' := Lib.hid HH
              clear HH
              go_wp2_with fail
              refine (Hf.out _ hr10).mono ?_; rintro e w11 ⟨rfl, B11⟩
              have hB11 := below_next hB10 B11
              have hr11 := (hr10.below B11).alloc (.cells #[.int .i64 0, .int .i64 0] 51)
              have hp11 := heap_alloc_new w11 (.cells #[.int .i64 0, .int .i64 0] 51)
              have hB12 := hB11.alloc hB11.size (.cells #[.int .i64 0, .int .i64 0] 51)
              clear hc10 hb10 hB10 hr10 B11 hB11
              unfold frac0
              go_wp2_with fail
              refine (HT'.out _ hr11).mono ?_; rintro e w12 ⟨rfl, B12⟩
              have hB13 := below_next hB12 B12
              have hp12 := blk_below hp11 B12
              have hr12 := hr11.below B12
              clear hp11 hr11 hB12 B12
              go_wp2_with fail
              refine (HH'.out _ hr12).mono ?_; rintro e w13 ⟨rfl, q, rfl⟩
              obtain ⟨PC, PF⟩ := blk_facts (blk_alloc (w := w12.drewN q) hp12 (.cells #[.int .i64 0, .int .i64 0] 51))
              have hq13 : ((w12.drewN q).alloc (.cells #[.int .i64 0, .int .i64 0] 51)).heap[w12.heap.size]? = _ := heap_alloc_new (w12.drewN q) (.cells #[.int .i64 0, .int .i64 0] 51)
              obtain ⟨QC, QF⟩ := blk_facts hq13
              have hB14 := (below_drewN hB13 q).alloc hB13.size (.cells #[.int .i64 0, .int .i64 0] 51)
              have hle := lt_of_heap hp12
              clear hp12 hr12 hB13 hq13
              go_wp2_with fail
              refine (raced_c _).mono ?_; rintro e w15 ⟨rfl, B15⟩
              go_wp2
              go_ret
              exact ⟨rfl, below_next hB14 B15⟩
          · have h0' := Lib.hid h0
            have ht : (we != 0) = true := by simpa using h0
            clear h0 Ht1 Hf1 Hf2 Hb1 Hb2
            go_wp2_with fail
            refine (Ht2.out _ hr9 h0'.out).mono ?_; rintro e w10 ⟨rfl, B10⟩
            have hb10 := blk_below hb9 B10
            have hB10 := below_next hB9 B10
            have hr10 := hr9.below B10
            clear hc9 hb9 hB9 hr9 B10
            have hc10 := (blk_facts hb10).1
            go_wp2_with fail
            refine (Hf3.out _ hr10 h0'.out).mono ?_; rintro e w11 ⟨rfl, B11⟩
            have hB11 := below_next hB10 B11
            have hB12 := hB11.alloc hB11.size (.cells #[.int .i64 0, .int .i64 0] 51)
            clear hc10 hb10 hB10 hr10 B11 hB11
            unfold frac0
            go_wp2_with fail
            refine (raced_c _).mono ?_; rintro e w12 ⟨rfl, B12⟩
            go_wp2
            go_ret
            exact ⟨rfl, below_next hB12 B12⟩
end Go.Proofs.YtjfppcejcbfngaaDoor
