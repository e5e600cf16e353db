/- LikeItselfIsItself: the walk. -/
import Derived.Test.YtjfppcejcbfngaaDoorEven9
import Derived.Test.YtjfppcejcbfngaaDoorL02A
import Derived.Test.YtjfppcejcbfngaaDoorReady
import Derived.Test.YtjfppcejcbfngaaDoorLawBase
import Derived.IntWalk
namespace Go.Proofs.YtjfppcejcbfngaaDoor
open Go.RowKit
set_option linter.unusedVariables false

set_option maxHeartbeats 3200000 in
set_option maxRecDepth 100000 in
theorem likeItselfIsItself_walk (a0 : Option Addr) (len0 cap0 : Nat) (z0 : List Int) (w : World) (w0 : IsRow .i64 w a0 len0 cap0 z0) :
    Calls Tryd.prog 14 #[.slice a0 len0 cap0] w fun e w' => e = .returned (.bool true) ∧ Below w.heap.size w w' := by
  have hs := law_start w0
  clear w0
  generalize z0.take len0 = zs at *
  go_enter Tryd.func14, Tryd.ntmps14
  go_wp2_with fail
  refine (plainRace_c w.heap.size zs 0 _ hs (by omega)).mono ?_; rintro e w1 ⟨rfl, s1, g1⟩
  rw [plainRace_2] at s1
  have hwh := ks_whole zs 0 (0 + 9)
  have hks := knownSplits_c w.heap.size zs (0 + 9) (plainRace zs 0).1
  have hok := plainRace_ok zs 0
  generalize knownSplits zs (0 + 9) (plainRace zs 0).1 = L at *
  generalize (plainRace zs 0).1 = r at *
  obtain ⟨hc, _, _, hse, _⟩ := wholeErr_ok hwh
  obtain ⟨hn1, hn, hbd⟩ := splits_bd hc
  have hrise := whole_rise hwh
  have hla := (splitsErr_ok hse).2.2
  have hlast := last_at (l := L) rfl (by omega)
  have hself := likeL_self hla
  have hLb := last_bd hn1 hbd hla
  generalize L.getLastD 0 = T at *
  have Hli := fun A n c W h => like_c r A n c L T W h hwh hLb.1 hLb.2
  rw [hself] at Hli
  have hrL : riseL L = L := by unfold riseL; rw [if_pos hrise]
  have hrE : riseE L = 0 := by unfold riseE; rw [if_pos hrise]
  rw [hrL, hrE] at Hli
  have hB1 : Below w.heap.size w w1 := (below_new w _).trans (grown_below g1 (Nat.le_refl _) (by simp))
  have hw1 : w.heap.size < w1.heap.size := s1.lt
  have hks' := fun W h => hks W h (by omega) hok
  have hlv := lenV_bd hok
  have Hev := fun (t : Int) W (h1 : 1 ≤ t) (h2 : t ≤ 360000) => even_c r t W hok h1 h2
  have Hlen := fun W => lengthsOf_c r W hok
  have Hwe := fun (t : Int) (h1 : 0 ≤ t) (h2 : t ≤ 360000) h3 => (wholeErr_ok (even_whole (r := r) (t := t) hok h1 h2 h3)).1
  have Hck := fun A n c l W h => checkSplits_c r A n c l W h
  generalize lenV r = N at *
  generalize checkSp r = CS at *
  clear hks hc hwh hok g1 hs hse hself hrL hrE
  obtain ⟨key, metres, stroke, course, legs, sex, young, old⟩ := r
  dsimp only [Race.val, Race.cells] at *
  have hk := Lib.hid hks'
  have hli := Lib.hid Hli
  have hev := Lib.hid Hev
  have hln := Lib.hid Hlen
  have hwe := Lib.hid Hwe
  have hck := Lib.hid Hck
  have hlast' := Lib.hid hlast
  clear hks' Hli Hev Hlen Hwe Hck hlast hrise
  have hnew := heap_alloc_new w1 (.cells #[.string key, .int .i64 metres, .int .i64 stroke, .int .i64 course, .int .i64 legs, .int .i64 sex, .int .i64 young, .int .i64 old] 27)
  have s2 := s1.alloc (.cells #[.string key, .int .i64 metres, .int .i64 stroke, .int .i64 course, .int .i64 legs, .int .i64 sex, .int .i64 young, .int .i64 old] 27)
  have hB2 := hB1.alloc (by omega) (.cells #[.string key, .int .i64 metres, .int .i64 stroke, .int .i64 course, .int .i64 legs, .int .i64 sex, .int .i64 young, .int .i64 old] 27)
  go_wp2_with fail
  refine (hk.out _ s2).mono ?_; rintro e w3 ⟨A, n, c, rfl, hown, s3, g3⟩
  have hnL : L.length = n := by have := hown.1; rw [ints_len] at this; omega
  rw [hnL] at hn hn1
  have hr3 : RI 3 w3 A n L := R1.of_own hown (by omega)
  have hb3 := blk_grown hnew g3 (by simp; omega)
  have hB3 := hB2.trans (grown_below g3 (Nat.le_refl _) hB2.size)
  have hnL' := Lib.hid hnL
  clear hnew hB2 s2 s1 g3 hown hB1 hk hnL
  generalize w1.heap.size = b4 at *
  have nb := @nextV_bd zs (0 + 9 + 2 * N.toNat) 30000 (by omega)
  go_wp2_with fail
  refine (range_c w.heap.size zs _ _ _ _ s3 (by omega) (by omega) (by omega) (by omega)).mono ?_; rintro e w4 ⟨rfl, s4, g4⟩
  have hr4 := hr3.keep (T := 25) (by decide) (s3.keep g4)
  have hb4 := blk_grown hb3 g4 (by simp; omega)
  have hB4 := hB3.trans (grown_below g4 (Nat.le_refl _) hB3.size)
  have hc4 := (blk_facts hb4).1
  clear hr3 hb3 hB3 s3 g4 s4
  obtain ⟨b, off, T', rfl, _, hT, hcT⟩ := hr4.at_ (k := n - 1) (by omega)
  obtain rfl : T = T' := by have := hlast'.out; rw [hnL'.out, hT] at this; exact (Option.some.inj this).symm
  clear hT hlast'
  go_wp2_with fail
  have e2 : 0 ≤ (n : Int) - 1 := by omega
  have e4 : (n : Int) - 1 < n := by omega
  have e1 : IntKind.i64.wrap ((n : Int) - 1) = (n : Int) - 1 := IntWalk.i64_in _ (by omega)
  have e3 : ((n : Int) - 1).toNat = n - 1 := by omega
  go_region_with ((go_at_call 32; refine (hli.out _ _ _ _ hr4.drew).mono ?_; rintro e w5 ⟨A5, n5, c5, rfl, hr5, B5⟩))
  all_goals
    have B5' : Below w4.heap.size w4 w5 := below_next (below_drewN (Below.refl _ w4) 1) B5
    have hB5 := below_next hB4 B5'
    have hb5 := blk_below hb4 B5'
    have hr5' := hr4.below B5'
    have hc5 := (blk_facts hb5).1
    clear e1 e2 e3 e4 hr4 hcT hb4 hB4 hc4 B5 B5' hli hLb hla hbd
    generalize ht : 1 + nextV zs (9 + 2 * N.toNat) 30000 = t at *
    have htb : 1 ≤ t ∧ t ≤ 30000 := by rw [Nat.zero_add] at nb; omega
    clear ht nb
    go_wp2_with fail
    refine (equal_c _ _ _ _ _ _ _ _ _ hr5' hr5).mono ?_; rintro e w6 ⟨rfl, B6⟩
    rw [eqB_refl]
    have hB6 := below_next hB5 B6
    have hb6 := blk_below hb5 B6
    have hc6 := (blk_facts hb6).1
    clear hb5 hB5 hc5 B6 hr5 hr5'
    go_wp2_with fail
    refine (hev.out t _ htb.1 (by omega)).mono ?_; rintro e w7 ⟨A7, n7, c7, rfl, hr7, B7⟩
    have hB7 := below_next hB6 B7
    have hb7 := blk_below hb6 B7
    have hc7 := (blk_facts hb7).1
    clear hb6 hB6 hc6 B7 hev
    by_cases hrt : risingF (evenL t N) 0 = true
    · have eL : riseL (evenL t N) = evenL t N := by unfold riseL; rw [if_pos hrt]
      have eE : riseE (evenL t N) = 0 := by unfold riseE; rw [if_pos hrt]
      rw [eL] at hr7
      rw [eE]
      have hcs := hwe.out t (by omega) (by omega) hrt
      have hC := hck.out A7 n7 c7 (evenL t N)
      rw [hcs] at hC
      have hC' := Lib.hid hC
      have hlen : n7 = N.toNat := by rw [← hr7.len]; unfold evenL; rw [evGo_len]
      have hla := @even_last t N (by omega)
      rw [← hlen] at hla
      have hn7 : 1 ≤ n7 := by omega
      have hn7' : n7 ≤ 240 := by omega
      have hla' := Lib.hid hla
      clear eL eE hcs hC hck hwe hln hlen hla hrt
      go_wp2_with fail
      refine (hC'.out _ hr7).mono ?_; rintro e w8 ⟨rfl, B8⟩
      have hB8 := below_next hB7 B8
      have hr8 := hr7.below B8
      obtain ⟨b, off, x, rfl, _, hx, hcx⟩ := hr8.at_ (k := n7 - 1) (by omega)
      obtain rfl : t = x := by have := hla'.out; rw [hx] at this; exact (Option.some.inj this).symm
      clear hx hla' hb7 hB7 hc7 hr7 B8
      have e2 : 0 ≤ (n7 : Int) - 1 := by omega
      have e4 : (n7 : Int) - 1 < n7 := by omega
      have e1 : IntKind.i64.wrap ((n7 : Int) - 1) = (n7 : Int) - 1 := IntWalk.i64_in _ (by omega)
      have e3 : ((n7 : Int) - 1).toNat = n7 - 1 := by omega
      go_wp2_with fail
      refine (ready_c _).mono ?_; rintro e w9 ⟨rfl, B9⟩
      clear e1 e2 e3 e4
      go_wp2
      go_ret
      exact ⟨rfl, below_next hB8 B9⟩
    · have eE : riseE (evenL t N) = 16 := by unfold riseE; rw [if_neg hrt]
      rw [eE]
      have hlt : t < N := by
        by_cases h : N ≤ t
        · exact absurd (even_rise (by omega) h) hrt
        · omega
      have hlt2 : t < 2 * N := by omega
      clear eE hrt hck hwe hr7
      go_wp2_with fail
      refine (hln.out _).mono ?_; rintro e w8 ⟨rfl, B8⟩
      have hB8 := below_next hB7 B8
      clear hb7 hB7 hc7 B8
      go_wp2_with fail
      refine (ready_c _).mono ?_; rintro e w9 ⟨rfl, B9⟩
      go_wp2
      go_ret
      exact ⟨rfl, below_next hB8 B9⟩
end Go.Proofs.YtjfppcejcbfngaaDoor
