/- SplitsTold: CheckSplits, Laps, Legs, Halves and Fill answer as the reference says: the walk. -/
import Derived.Test.YtjfppcejcbfngaaDoorErrC
import Derived.Test.YtjfppcejcbfngaaDoorLegsP
import Derived.Test.YtjfppcejcbfngaaDoorPlain0
import Derived.Test.YtjfppcejcbfngaaDoorSwumR
import Derived.Test.YtjfppcejcbfngaaDoorLawBase
import Derived.Deep.DeepCutAuto
namespace Go.Proofs.YtjfppcejcbfngaaDoor
open Go.RowKit
set_option linter.unusedVariables false

theorem eqB_self (l : List Int) : eqB l l = true := by unfold eqB; simp

set_option maxHeartbeats 3200000 in
set_option maxRecDepth 100000 in
theorem splitsTold_walk (a0 : Option Addr) (len0 cap0 : Nat) (z0 : List Int) (w : World) (w0 : IsRow .i64 w a0 len0 cap0 z0) :
    Calls Tryd.prog 7 #[.slice a0 len0 cap0] w fun e w' => e = .returned (.bool true) ∧ Below w.heap.size w w' := by
  have hs := law_start w0
  clear w0
  generalize z0.take len0 = zs at *
  go_enter Tryd.func7, Tryd.ntmps7
  go_wp2_with fail
  refine (swumRace_c w.heap.size zs 0 _ hs (by omega)).mono ?_; rintro e w1 ⟨rfl, s1, g1⟩
  have hk := swumRace_k zs 0
  generalize (swumRace zs 0).1 = r at *
  generalize (swumRace zs 0).2 = k at *
  have hB1 : Below w.heap.size w w1 := (below_new w _).trans (grown_below g1 (Nat.le_refl _) (by simp))
  have hw1 : w.heap.size < w1.heap.size := s1.lt
  have Hf := fun W => raceFault_c r W
  have Hsp := fun k' W h hk h' => splits_c w.heap.size zs k' r W h hk h'
  have Hsf := fun A n c l W h h' => splitsFault_c r A n c l W h h'
  have Hck := fun A n c l W h => checkSplits_c r A n c l W h
  have Hla := fun A n c l W h => laps_c r A n c l W h
  have Hlae := fun A n c l W h => laps_err r A n c l W h
  have Hle := fun A n c l W h => legs_c r A n c l W h
  have Hlee := fun A n c l W h => legs_err r A n c l W h
  have Hha := fun A n c l W h => halves_c r A n c l W h
  have Hhae := fun A n c l W h => halves_err r A n c l W h
  have Hfi := fun A n c l W h => fill_c r A n c l W h
  have Hfie := fun A n c l W h => fill_err r A n c l W h
  have Hlo := fun A n c l W h => legsOf_c r A n c l W h
  have Hbd := fun l (h : checkSp r l = 0) => splits_bd h
  have Hsb := fun l (h : checkSp r l = 0) => (splitsErr_ok (checkSp_ok h).2).2
  have Hw0 := fun l (h : raceErr r = 0) => show checkSp r l = splitsErr r l by unfold checkSp; rw [if_neg (by simp [h])]
  have Hw1 := fun l (h : raceErr r ≠ 0) => show checkSp r l = raceErr r by unfold checkSp; rw [if_pos h]
  generalize checkSp r = CS at *
  generalize splitsErr r = SE at *
  generalize legsR r = LR at *
  generalize raceErr r = x0 at *
  obtain ⟨key, metres, stroke, course, legs, sex, young, old⟩ := r
  dsimp only [Race.val, Race.cells] at *
  have Hf' := Lib.hid Hf; clear Hf
  have Hsp' := Lib.hid Hsp; clear Hsp
  have Hsf' := Lib.hid Hsf; clear Hsf
  have Hck' := Lib.hid Hck; clear Hck
  have Hla' := Lib.hid Hla; clear Hla
  have Hlae' := Lib.hid Hlae; clear Hlae
  have Hle' := Lib.hid Hle; clear Hle
  have Hlee' := Lib.hid Hlee; clear Hlee
  have Hha' := Lib.hid Hha; clear Hha
  have Hhae' := Lib.hid Hhae; clear Hhae
  have Hfi' := Lib.hid Hfi; clear Hfi
  have Hfie' := Lib.hid Hfie; clear Hfie
  have Hlo' := Lib.hid Hlo; clear Hlo
  have Hbd' := Lib.hid Hbd; clear Hbd
  have Hsb' := Lib.hid Hsb; clear Hsb
  have Hw0' := Lib.hid Hw0; clear Hw0
  have Hw1' := Lib.hid Hw1; clear Hw1
  have hnew := heap_alloc_new w1 (.cells #[.string key, .int .i64 metres, .int .i64 stroke, .int .i64 course, .int .i64 legs, .int .i64 sex, .int .i64 young, .int .i64 old] 27)
  have s2 := s1.alloc (.cells #[.string key, .int .i64 metres, .int .i64 stroke, .int .i64 course, .int .i64 legs, .int .i64 sex, .int .i64 young, .int .i64 old] 27)
  have hB2 := hB1.alloc (by omega) (.cells #[.string key, .int .i64 metres, .int .i64 stroke, .int .i64 course, .int .i64 legs, .int .i64 sex, .int .i64 young, .int .i64 old] 27)
  clear s1 hB1 g1 hs
  go_wp2_with fail
  refine (plainRace_c w.heap.size zs k _ s2 (by omega)).mono ?_; rintro e w3 ⟨rfl, s3, g3⟩
  have hb3 := blk_grown hnew g3 (by simp; omega)
  have hB3 := hB2.trans (grown_below g3 (Nat.le_refl _) hB2.size)
  rw [plainRace_2] at s3
  clear hnew hB2 s2 g3
  generalize w1.heap.size = b4 at *
  have Hp := fun W h => splits_c w.heap.size zs (k + 9) (plainRace zs k).1 W h (by omega) (plainRace_ok zs k)
  generalize (plainRace zs k).1 = pr at *
  have Hp' := Lib.hid Hp
  clear Hp
  go_wp2_with fail
  refine (Hp'.out _ s3).mono ?_; rintro e w4 ⟨A4, n4, c4, l4, k4, rfl, hown4, s4, hk4, g4, hn4⟩
  have hr4 : RI 3 w4 A4 n4 l4 := R1.of_own hown4 (by omega)
  have hb4 := blk_grown hb3 g4 (by simp; omega)
  have hB4 := hB3.trans (grown_below g4 (Nat.le_refl _) hB3.size)
  have hc4 := (blk_facts hb4).1
  clear hb3 hB3 s3 g4 hown4 Hp'
  go_wp2_with fail
  refine (Hf'.out _).mono ?_; rintro e w5 ⟨rfl, B5⟩
  have hb5 := blk_below hb4 B5
  have s5 := s4.below B5
  have hB5 := below_next hB4 B5
  have hr5 := hr4.below B5
  clear hb4 hc4 hB4 s4 hr4 B5
  have hcut0 : ∀ (A : Option Addr) (n : Nat) (l : List Int) (wx : World), RI 3 wx A n l → RI 3 wx A n l := fun _ _ _ _ h => h
  clear hcut0
  by_cases h0 : x0 = 0
  · have h0' := Lib.hid h0
    have ht : (x0 == 0) = true := by simpa using h0
    have hcs : ∀ l, CS l = SE l := fun l => Hw0'.out l h0
    have hcs' := Lib.hid hcs
    clear h0 hcs Hw0' Hw1'
    go_wp2_with fail
    refine (flip_c w.heap.size zs k4 _ _ s5 (by omega) (by omega) (by omega)).mono ?_; rintro e w6 ⟨rfl, s6, g6⟩
    generalize (nextV zs k4 12 == 0) = fl
    have hb6 := blk_grown hb5 g6 (by simp; omega)
    have hr6 := hr5.keep (T := 25) (by decide) (s5.keep g6)
    have hB6 := hB5.trans (grown_below g6 (Nat.le_refl _) hB5.size)
    have hc6 := (blk_facts hb6).1
    clear hb5 hB5 s5 g6 hr5
    go_upto_if 39 with (fail)
    go_cut [5] (fun s5 wx => ∃ A n c l, s5 = .slice A n c ∧ RI 3 wx A n l ∧ wx.heap[b4]? = some (.cells #[.string key, .int .i64 metres, .int .i64 stroke, .int .i64 course, .int .i64 legs, .int .i64 sex, .int .i64 young, .int .i64 old] 27 (0, 0)) ∧ Below w.heap.size w wx)
    case first =>
      clear Hf' Hsf' Hck' Hla' Hlae' Hle' Hlee' Hha' Hhae' Hfi' Hfie' Hlo' Hbd' Hsb'
      cases fl
      rotate_left
      · clear hc6
        go_wp2
        go_meet
        case rel => exact ⟨_, _, _, _, rfl, hr6, hb6, hB6⟩
      · go_wp2_with fail
        refine (Hsp'.out _ _ s6 (by omega) h0'.out).mono ?_; rintro e w9 ⟨A9, n9, c9, l9, k9, rfl, hown9, s9, _, g9, hn9⟩
        have hr9 : RI 3 w9 A9 n9 l9 := R1.of_own hown9 (by omega)
        have hb9 := blk_grown hb6 g9 (by simp; omega)
        have hB9 := hB6.trans (grown_below g9 (Nat.le_refl _) hB6.size)
        clear hown9 s9 g9 hc6
        go_wp2
        go_meet
        case rel => exact ⟨_, _, _, _, rfl, hr9, hb9, hB9⟩
    case rest =>
      obtain ⟨A, n, c, l, rfl, hr, hb, hB⟩ := hcut
      clear Hsp' hr6 hb6 hB6 s6 hc6
      have hc := (blk_facts hb).1
      go_wp2_with fail
      refine (Hf'.out _).mono ?_; rintro e w7 ⟨rfl, B7⟩
      have hb7 := blk_below hb B7
      have hr7 := hr.below B7
      have hB7 := below_next hB B7
      clear hb hr hB B7 hc
      have hc7 := (blk_facts hb7).1
      go_wp2_with fail
      refine (Hsf'.out _ _ _ _ _ hr7 h0'.out).mono ?_; rintro e w8 ⟨rfl, B8⟩
      have hb8 := blk_below hb7 B8
      have hr8 := hr7.below B8
      have hB8 := below_next hB7 B8
      rw [← hcs'.out]
      clear hb7 hr7 hB7 B8 hc7 hcs'
      by_cases hx0 : CS l = 0
      · obtain ⟨hn1, hn, hbd⟩ := Hbd'.out l hx0
        obtain ⟨hsp, hla⟩ := Hsb'.out l hx0
        rw [hr8.len] at hn1 hn
        have hC1 := Hck'.out A n c l
        rw [hx0] at hC1
        have hC1' := Lib.hid hC1
        have hC2 := Lib.hid (fun W h => Hla'.out A n c l W h hx0)
        have hC3 := Lib.hid (fun W h => Hle'.out A n c l W h hx0)
        have hC4 := Lib.hid (fun W h => Hha'.out A n c l W h hx0)
        have hC5 := Lib.hid (fun W h => Hfi'.out A n c l W h hx0)
        have hC6 := Lib.hid (fun W h => Hlo'.out A n c l W h hx0)
        have hC7 := Lib.hid (fun W h => halvesOf_c A n c l W h hn1 hn hbd)
        have hC8 := Lib.hid (fun W h => filledOf_c A n c l W h hn1 hn hbd hsp hla)
        have hC9 := Lib.hid (fun W h => lapsOf_c A n c l W h hn hbd)
        clear Hck' Hlae' Hlee' Hhae' Hfie' Hla' Hle' Hha' Hfi' Hlo' Hbd' Hsb' Hsf' hC1 hbd hsp hla
        rw [hx0]
        clear hx0
        have eV : halfV l = .tuple #[.int .i64 (halfA l), .int .i64 (halfB l), .int .i64 (halfE l)] := rfl
        generalize halfV l = hv at *
        generalize halfA l = hA at *
        generalize halfB l = hBv at *
        generalize halfE l = hE at *
        subst eV
        generalize lapsL l = LL at *
        generalize legL (LR l) = GL at *
        generalize legE (LR l) = GE at *
        generalize riseL (fillL l) = FL at *
        generalize riseE (fillL l) = FE at *
        have hc8 := (blk_facts hb8).1
        go_wp2_with fail
        refine (hC2.out _ hr8).mono ?_; rintro e w9 ⟨A9, c9, rfl, hown9, B9⟩
        have hb9 := blk_below hb8 B9
        have hr9 := hr8.below B9
        have hB9 := below_next hB8 B9
        have hc9 := (blk_facts hb9).1
        have ha9 : RI 3 w9 A9 n LL := R1.of_own hown9 (by omega)
        clear hb8 hr8 hB8 B9 hc8 hown9
        go_wp2_with fail
        refine (hC3.out _ hr9).mono ?_; rintro e w10 ⟨A10, n10, c10, rfl, hg10, B10⟩
        have hb10 := blk_below hb9 B10
        have hr10 := hr9.below B10
        have ha10 := ha9.below B10
        have hB10 := below_next hB9 B10
        have hc10 := (blk_facts hb10).1
        clear hb9 hr9 hB9 B10 hc9 ha9
        go_wp2_with fail
        refine (hC4.out _ hr10).mono ?_; rintro e w11 ⟨rfl, B11⟩
        have hb11 := blk_below hb10 B11
        have hr11 := hr10.below B11
        have ha11 := ha10.below B11
        have hg11 := hg10.below B11
        have hB11 := below_next hB10 B11
        have hc11 := (blk_facts hb11).1
        clear hb10 hr10 hB10 B11 hc10 ha10 hg10
        go_wp2_with fail
        refine (hC5.out _ hr11).mono ?_; rintro e w12 ⟨A12, n12, c12, rfl, hf12, B12⟩
        have hb12 := blk_below hb11 B12
        have hr12 := hr11.below B12
        have ha12 := ha11.below B12
        have hg12 := hg11.below B12
        have hB12 := below_next hB11 B12
        have hc12 := (blk_facts hb12).1
        clear hb11 hr11 hB11 B12 hc11 ha11 hg11
        go_wp2_with fail
        refine (hC1'.out _ hr12).mono ?_; rintro e w13 ⟨rfl, B13⟩
        have hb13 := blk_below hb12 B13
        have hr13 := hr12.below B13
        have ha13 := ha12.below B13
        have hg13 := hg12.below B13
        have hf13 := hf12.below B13
        have hB13 := below_next hB12 B13
        have hc13 := (blk_facts hb13).1
        clear hb12 hr12 hB12 B13 hc12 ha12 hg12 hf12
        go_wp2_with fail
        refine (hC6.out _ hr13).mono ?_; rintro e w14 ⟨A14, n14, c14, rfl, hG14, B14⟩
        have hr14 := hr13.below B14
        have ha14 := ha13.below B14
        have hg14 := hg13.below B14
        have hf14 := hf13.below B14
        have hB14 := below_next hB13 B14
        clear hb13 hr13 hB13 B14 hc13 ha13 hg13 hf13
        go_wp2_with fail
        refine (hC7.out _ hr14).mono ?_; rintro e w15 ⟨rfl, q, rfl⟩
        go_wp2_with fail
        refine (hC8.out _ (hr14.drewN q)).mono ?_; rintro e w16 ⟨A16, n16, c16, rfl, hF16, B16⟩
        have hr16 := (hr14.drewN q).below B16
        have ha16 := (ha14.drewN q).below B16
        have hg16 := (hg14.drewN q).below B16
        have hG16 := (hG14.drewN q).below B16
        have hf16 := (hf14.drewN q).below B16
        have hB16 := below_next (below_drewN hB14 q) B16
        clear hr14 hB14 B16 ha14 hg14 hf14 hG14
        go_wp2_with fail
        refine (hC9.out _ hr16).mono ?_; rintro e w17 ⟨A17, c17, rfl, hown17, B17⟩
        have hA17 : RI 3 w17 A17 n LL := R1.of_own hown17 (by omega)
        have ha17 := ha16.below B17
        have hg17 := hg16.below B17
        have hG17 := hG16.below B17
        have hf17 := hf16.below B17
        have hF17 := hF16.below B17
        have hB17 := below_next hB16 B17
        clear hr16 hB16 B17 ha16 hg16 hf16 hG16 hF16 hown17
        go_wp2_with fail
        refine (equal_c _ _ _ _ _ _ _ _ _ ha17 hA17).mono ?_; rintro e w18 ⟨rfl, B18⟩
        rw [eqB_self]
        have hg18 := hg17.below B18
        have hG18 := hG17.below B18
        have hf18 := hf17.below B18
        have hF18 := hF17.below B18
        have hB18 := below_next hB17 B18
        clear hB17 B18 ha17 hA17 hg17 hG17 hf17 hF17
        go_wp2_with fail
        refine (equal_c _ _ _ _ _ _ _ _ _ hg18 hG18).mono ?_; rintro e w19 ⟨rfl, B19⟩
        rw [eqB_self]
        have hf19 := hf18.below B19
        have hF19 := hF18.below B19
        have hB19 := below_next hB18 B19
        clear hB18 B19 hg18 hG18 hf18 hF18
        go_wp2_with fail
        refine (equal_c _ _ _ _ _ _ _ _ _ hf19 hF19).mono ?_; rintro e w20 ⟨rfl, B20⟩
        rw [eqB_self]
        have hB20 := below_next hB19 B20
        clear hB19 B20 hf19 hF19
        go_wp2_with fail
        refine (clocked_c _).mono ?_; rintro e w21 ⟨rfl, B21⟩
        go_wp2
        go_ret
        exact ⟨rfl, below_next hB20 B21⟩
      · have hC1 := Lib.hid (fun W h => Hck'.out A n c l W h)
        have hC2 := Lib.hid (fun W h => Hlae'.out A n c l W h)
        have hC3 := Lib.hid (fun W h => Hlee'.out A n c l W h)
        have hC4 := Lib.hid (fun W h => Hhae'.out A n c l W h)
        have hC5 := Lib.hid (fun W h => Hfie'.out A n c l W h)
        clear Hck' Hlae' Hlee' Hhae' Hfie' Hla' Hle' Hha' Hfi' Hlo' Hbd' Hsb' Hsf'
        generalize CS l = x at *
        have hxt : (x != 0) = true := by simpa using hx0
        have hx0' := Lib.hid hx0
        clear hx0
        have hc8 := (blk_facts hb8).1
        go_wp2_with fail
        refine (hC2.out _ hr8 hx0'.out).mono ?_; rintro e w9 ⟨rfl, B9⟩
        have hb9 := blk_below hb8 B9
        have hr9 := hr8.below B9
        have hB9 := below_next hB8 B9
        have hc9 := (blk_facts hb9).1
        clear hb8 hr8 hB8 B9 hc8
        go_wp2_with fail
        refine (hC3.out _ hr9 hx0'.out).mono ?_; rintro e w10 ⟨rfl, B10⟩
        have hb10 := blk_below hb9 B10
        have hr10 := hr9.below B10
        have hB10 := below_next hB9 B10
        have hc10 := (blk_facts hb10).1
        clear hb9 hr9 hB9 B10 hc9
        go_wp2_with fail
        refine (hC4.out _ hr10 hx0'.out).mono ?_; rintro e w11 ⟨rfl, B11⟩
        have hb11 := blk_below hb10 B11
        have hr11 := hr10.below B11
        have hB11 := below_next hB10 B11
        have hc11 := (blk_facts hb11).1
        clear hb10 hr10 hB10 B11 hc10
        go_wp2_with fail
        refine (hC5.out _ hr11 hx0'.out).mono ?_; rintro e w12 ⟨rfl, B12⟩
        have hb12 := blk_below hb11 B12
        have hr12 := hr11.below B12
        have hB12 := below_next hB11 B12
        have hc12 := (blk_facts hb12).1
        clear hb11 hr11 hB11 B12 hc11
        go_wp2_with fail
        refine (hC1.out _ hr12).mono ?_; rintro e w13 ⟨rfl, B13⟩
        have hB13 := below_next hB12 B13
        clear hb12 hr12 hB12 B13 hc12
        go_wp2_with fail
        refine (clocked_c _).mono ?_; rintro e w14 ⟨rfl, B14⟩
        go_wp2
        go_ret
        exact ⟨rfl, below_next hB13 B14⟩
  · have h0' := Lib.hid h0
    have ht : (x0 == 0) = false := by simpa using h0
    have hx0 : CS l4 ≠ 0 := by rw [Hw1'.out l4 h0]; exact h0
    have hcs := Lib.hid (Hw1'.out l4 h0).symm
    clear h0 Hw0' Hw1' Hsp'
    have hc5 := (blk_facts hb5).1
    go_wp2_with fail
    refine (Hf'.out _).mono ?_; rintro e w7 ⟨rfl, B7⟩
    have hb8 := blk_below hb5 B7
    have hr8 := hr5.below B7
    have hB8 := below_next hB5 B7
    clear hb5 hr5 hB5 B7 hc5 s5
    have hC1 := Lib.hid (fun W h => Hck'.out A4 n4 c4 l4 W h)
    have hC2 := Lib.hid (fun W h => Hlae'.out A4 n4 c4 l4 W h)
    have hC3 := Lib.hid (fun W h => Hlee'.out A4 n4 c4 l4 W h)
    have hC4 := Lib.hid (fun W h => Hhae'.out A4 n4 c4 l4 W h)
    have hC5 := Lib.hid (fun W h => Hfie'.out A4 n4 c4 l4 W h)
    clear Hck' Hlae' Hlee' Hhae' Hfie' Hla' Hle' Hha' Hfi' Hlo' Hbd' Hsb' Hsf'
    rw [hcs.out]
    clear hcs
    generalize CS l4 = x at *
    have hxt : (x != 0) = true := by simpa using hx0
    have hx0' := Lib.hid hx0
    clear hx0
    have hc8 := (blk_facts hb8).1
    go_wp2_with fail
    refine (hC2.out _ hr8 hx0'.out).mono ?_; rintro e w9 ⟨rfl, B9⟩
    have hb9 := blk_below hb8 B9
    have hr9 := hr8.below B9
    have hB9 := below_next hB8 B9
    have hc9 := (blk_facts hb9).1
    clear hb8 hr8 hB8 B9 hc8
    go_wp2_with fail
    refine (hC3.out _ hr9 hx0'.out).mono ?_; rintro e w10 ⟨rfl, B10⟩
    have hb10 := blk_below hb9 B10
    have hr10 := hr9.below B10
    have hB10 := below_next hB9 B10
    have hc10 := (blk_facts hb10).1
    clear hb9 hr9 hB9 B10 hc9
    go_wp2_with fail
    refine (hC4.out _ hr10 hx0'.out).mono ?_; rintro e w11 ⟨rfl, B11⟩
    have hb11 := blk_below hb10 B11
    have hr11 := hr10.below B11
    have hB11 := below_next hB10 B11
    have hc11 := (blk_facts hb11).1
    clear hb10 hr10 hB10 B11 hc10
    go_wp2_with fail
    refine (hC5.out _ hr11 hx0'.out).mono ?_; rintro e w12 ⟨rfl, B12⟩
    have hb12 := blk_below hb11 B12
    have hr12 := hr11.below B12
    have hB12 := below_next hB11 B12
    have hc12 := (blk_facts hb12).1
    clear hb11 hr11 hB11 B12 hc11
    go_wp2_with fail
    refine (hC1.out _ hr12).mono ?_; rintro e w13 ⟨rfl, B13⟩
    have hB13 := below_next hB12 B13
    clear hb12 hr12 hB12 B13 hc12
    go_wp2_with fail
    refine (clocked_c _).mono ?_; rintro e w14 ⟨rfl, B14⟩
    go_wp2
    go_ret
    exact ⟨rfl, below_next hB13 B14⟩
end Go.Proofs.YtjfppcejcbfngaaDoor
