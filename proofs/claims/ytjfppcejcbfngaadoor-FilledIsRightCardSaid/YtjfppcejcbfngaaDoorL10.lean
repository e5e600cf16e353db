/- FilledIsRight: the walk. -/
import Derived.Test.YtjfppcejcbfngaaDoorPlain10
import Derived.Test.YtjfppcejcbfngaaDoorFillP
import Derived.Test.YtjfppcejcbfngaaDoorErrC
import Derived.Test.YtjfppcejcbfngaaDoorReady
import Derived.Test.YtjfppcejcbfngaaDoorLawBase
namespace Go.Proofs.YtjfppcejcbfngaaDoor
open Go.RowKit
set_option linter.unusedVariables false

theorem eqB_same (l : List Int) : eqB l l = true := by unfold eqB; simp
set_option maxHeartbeats 3200000 in
set_option maxRecDepth 100000 in
theorem filledIsRight_walk (a0 : Option Addr) (len0 cap0 : Nat) (z0 : List Int) (w : World) (w0 : IsRow .i64 w a0 len0 cap0 z0) :
    Calls Tryd.prog 12 #[.slice a0 len0 cap0] w fun e w' => e = .returned (.bool true) ∧ Below w.heap.size w w' := by
  have hs := law_start w0
  clear w0
  generalize z0.take len0 = zs at *
  go_enter Tryd.func12, Tryd.ntmps12
  go_wp2_with fail
  refine (plainRace_c w.heap.size zs 0 _ hs (by omega)).mono ?_; rintro e w1 ⟨rfl, s1, g1⟩
  rw [plainRace_2] at s1
  have hok := plainRace_ok zs 0
  generalize (plainRace zs 0).1 = r at *
  have Hsp := fun W h => splits_c w.heap.size zs (0 + 9) r W h (by omega) hok
  have Hsf := fun A n c l W h => splitsFault_c r A n c l W h hok
  have Hck := fun A n c l W h => checkSplits_c r A n c l W h
  have Hfi := fun A n c l W h => fill_c r A n c l W h
  have Hcs := fun l => show checkSp r l = splitsErr r l by unfold checkSp; rw [if_neg (by simp [hok])]
  have Hfw := fun l h h' => (wholeErr_ok (fill_whole (r := r) (l := l) h h')).1
  have Hbd := fun l (h : checkSp r l = 0) => splits_bd h
  generalize checkSp r = CS at *
  generalize splitsErr r = SE at *
  have hB : Below w.heap.size w w1 := (below_new w _).trans (grown_below g1 (Nat.le_refl _) (by simp))
  have hw1 : w.heap.size < w1.heap.size := s1.lt
  clear hs g1 hok
  obtain ⟨key, metres, stroke, course, legs, sex, young, old⟩ := r
  dsimp only [Race.val, Race.cells] at *
  have hsp := Lib.hid Hsp; clear Hsp
  have hsf := Lib.hid Hsf; clear Hsf
  have hck := Lib.hid Hck; clear Hck
  have hfi := Lib.hid Hfi; clear Hfi
  have hcs := Lib.hid Hcs; clear Hcs
  have hfw := Lib.hid Hfw; clear Hfw
  have hbd := Lib.hid Hbd; clear Hbd
  have hb := heap_alloc_new w1 (.cells #[.string key, .int .i64 metres, .int .i64 stroke, .int .i64 course, .int .i64 legs, .int .i64 sex, .int .i64 young, .int .i64 old] 27)
  have s2 := s1.alloc (.cells #[.string key, .int .i64 metres, .int .i64 stroke, .int .i64 course, .int .i64 legs, .int .i64 sex, .int .i64 young, .int .i64 old] 27)
  replace hB := hB.alloc (by omega) (.cells #[.string key, .int .i64 metres, .int .i64 stroke, .int .i64 course, .int .i64 legs, .int .i64 sex, .int .i64 young, .int .i64 old] 27)
  clear s1
  go_wp2_with fail
  refine (hsp.out _ s2).mono ?_; rintro e w3 ⟨A, n, c, l, k', rfl, hown, _, _, g3, hn⟩
  have hr : RI 3 w3 A n l := R1.of_own hown (by omega)
  replace hb := blk_grown hb g3 (by simp; omega)
  replace hB := hB.trans (grown_below g3 (Nat.le_refl _) hB.size)
  clear g3 s2
  clear hown hsp
  generalize w1.heap.size = b4 at *
  have hc := (blk_facts hb).1
  go_wp2_with fail
  refine (hsf.out _ _ _ _ _ hr).mono ?_; rintro e w4 ⟨rfl, B4⟩
  rw [← hcs.out]
  replace hr := hr.below B4
  replace hb := blk_below hb B4
  replace hB := below_next hB B4
  clear B4
  replace hc := (blk_facts hb).1
  clear hsf
  by_cases h0 : CS l = 0
  rotate_left
  · have ht : (CS l != 0) = true := by simpa using h0
    go_wp2_with fail
    refine (ready_c _).mono ?_; rintro e w9 ⟨rfl, B9⟩
    go_wp2
    go_ret
    exact ⟨rfl, below_next hB B9⟩
  have hC2 := Lib.hid (fun W h => hfi.out A n c l W h h0)
  obtain ⟨hn1, _, hbdl⟩ := hbd.out l h0
  rw [hr.len] at hn1
  rw [h0]
  have h0' := Lib.hid h0
  clear h0 hbd
  go_wp2_with fail
  refine (hC2.out _ hr).mono ?_; rintro e w5 ⟨A5, n5, c5, rfl, ha, B5⟩
  replace hr := hr.below B5
  replace hb := blk_below hb B5
  replace hB := below_next hB B5
  clear B5
  replace hc := (blk_facts hb).1
  clear hC2
  by_cases hrt : risingF (fillL l) 0 = true
  rotate_left
  · have eE : riseE (fillL l) = 16 := by unfold riseE; rw [if_neg hrt]
    rw [eE]
    clear eE hrt ha
    go_wp2_with fail
    refine (ready_c _).mono ?_; rintro e w9 ⟨rfl, B9⟩
    go_wp2
    go_ret
    exact ⟨rfl, below_next hB B9⟩
  have eL : riseL (fillL l) = fillL l := by unfold riseL; rw [if_pos hrt]
  have eE : riseE (fillL l) = 0 := by unfold riseE; rw [if_pos hrt]
  rw [eL] at ha
  rw [eE]
  have hfl := Lib.hid (fillL_len l)
  have hfw0 := hfw.out l h0'.out hrt
  have hself := fill_self hrt
  have hkeep : ∀ (i : Nat) x y, l[i]? = some x → (fillL l)[i]? = some y → x ≠ 0 → x = y := fun i x y hx hy hne => by
    have hi := (List.getElem?_eq_some_iff.mp hx).1
    rw [fillL_at hi, fill_keeps (getD_of hx) hne] at hy
    exact Option.some.inj hy
  have hha := rise_has hrt
  have hfi5 := hfi.out A5 n5 c5 (fillL l)
  rw [hself] at hfi5
  generalize fillL l = L at *
  have eL' : riseL L = L := eL
  rw [eL, eE] at hfi5
  have hfi' := Lib.hid (fun W h => hfi5 W h hfw0)
  have hck5 := hck.out A5 n5 c5 L
  rw [hfw0] at hck5
  have hck' := Lib.hid hck5
  have hkeep' := Lib.hid hkeep
  have hn5 : n5 = n := by have h1 := ha.len; have h2 := hfl.out; have h3 := hr.len; omega
  subst hn5
  have hha' := Lib.hid hha
  have hbd' := Lib.hid hbdl
  clear hself hkeep eL eE eL' hfi5 hck5 hck hfi hfw0 hfw hrt hcs h0' hha hfl hbdl
  go_wp2_with fail
  refine (hck'.out _ ha).mono ?_; rintro e w6 ⟨rfl, B6⟩
  replace hr := hr.below B6
  replace ha := ha.below B6
  replace hb := blk_below hb B6
  replace hB := below_next hB B6
  clear B6
  replace hc := (blk_facts hb).1
  go_wp2_with fail
  refine (contains_c _ _ _ _ 0 _ ha).mono ?_; rintro e w' ⟨rfl, rfl⟩
  rw [hha'.out]
  go_wp2_with fail
  go_loop [8, 9, 54] (fun _ _ i => ∃ k : Nat, k ≤ n5 ∧ i = .int .i64 k) (fun _ _ i => n5 - (intOf i).toNat)
  case atStart => exact ⟨0, Nat.zero_le _, rfl⟩
  case round =>
    obtain ⟨k, hk, rfl⟩ := hrel
    by_cases hlt : k < n5
    · obtain ⟨b1, o1, x, rfl, _, hx, hcx⟩ := hr.at_ hlt
      obtain ⟨b2, o2, y, rfl, _, hy, hcy⟩ := ha.at_ hlt
      by_cases hx0 : x = 0
      · subst hx0
        clear hx hy hcy
        go_wp2
        go_round
        case rel => exact ⟨k + 1, by omega, by go_num⟩
        case measure => simp [intOf]; omega
      · obtain rfl : x = y := hkeep'.out k x y hx hy hx0
        have hx1 : (x != 0) = true := by simpa using hx0
        have hx2 : (x == 0) = false := by simpa using hx0
        clear hx hy hx0
        go_wp2
        go_round
        case rel => exact ⟨k + 1, by omega, by go_num⟩
        case measure => simp [intOf]; omega
    · obtain rfl : k = n5 := by omega
      go_wp2_with fail
      refine (hfi'.out _ ha).mono ?_; rintro e w7 ⟨A7, n7, c7, rfl, ha7, B7⟩
      replace ha := ha.below B7
      replace hB := below_next hB B7
      clear hb hc B7
      go_wp2_with fail
      refine (equal_c _ _ _ _ _ _ _ _ _ ha7 ha).mono ?_; rintro e w8 ⟨rfl, B8⟩
      rw [eqB_same]
      replace hB := below_next hB B8
      go_wp2_with fail
      refine (ready_c _).mono ?_; rintro e w9 ⟨rfl, B9⟩
      go_wp2
      go_ret
      exact ⟨rfl, below_next hB B9⟩
end Go.Proofs.YtjfppcejcbfngaaDoor
