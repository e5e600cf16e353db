/- LapsAddUp: the walk. -/
import Derived.Test.YtjfppcejcbfngaaDoorSums9
import Derived.Test.YtjfppcejcbfngaaDoorReady
import Derived.Test.YtjfppcejcbfngaaDoorLawBase
namespace Go.Proofs.YtjfppcejcbfngaaDoor
open Go.RowKit
set_option linter.unusedVariables false

set_option maxHeartbeats 3200000 in
set_option maxRecDepth 100000 in
theorem lapsAddUp_walk (a0 : Option Addr) (len0 cap0 : Nat) (z0 : List Int) (w : World) (w0 : IsRow .i64 w a0 len0 cap0 z0) :
    Calls Tryd.prog 11 #[.slice a0 len0 cap0] w fun e w' => e = .returned (.bool true) ∧ Below w.heap.size w w' := by
  have hs := law_start w0
  clear w0
  generalize z0.take len0 = zs at *
  go_enter Tryd.func11, Tryd.ntmps11
  go_wp2_with fail
  refine (plainRace_c w.heap.size zs 0 _ hs (by omega)).mono ?_; rintro e w1 ⟨rfl, s1, g1⟩
  rw [plainRace_2] at s1
  have hwh := ks_whole zs 0 (0 + 9)
  have hks := knownSplits_c w.heap.size zs (0 + 9) (plainRace zs 0).1
  have hok := plainRace_ok zs 0
  generalize knownSplits zs (0 + 9) (plainRace zs 0).1 = L at *
  generalize (plainRace zs 0).1 = r at *
  obtain ⟨hc, _⟩ := wholeErr_ok hwh
  obtain ⟨hn1, hn, hbd⟩ := splits_bd hc
  have hrise := whole_rise hwh
  obtain ⟨ee, g, he1, hg1, hg2, hlegs, hlen, hR⟩ := legs_known hwh
  have Hla := fun A n c W h => laps_c r A n c L W h hc
  have Hle := fun A n c W h => legs_c r A n c L W h hc
  rw [hR] at Hle
  have hB1 : Below w.heap.size w w1 := (below_new w _).trans (grown_below g1 (Nat.le_refl _) (by simp))
  have hw1 : w.heap.size < w1.heap.size := s1.lt
  have hks' := fun W h => hks W h (by omega) hok
  clear hks hc hwh hok hR g1 hs
  obtain ⟨key, metres, stroke, course, legs, sex, young, old⟩ := r
  dsimp only [Race.val, Race.cells] at *
  subst hlegs
  have hk := Lib.hid hks'
  have hla := Lib.hid Hla
  have hle := Lib.hid Hle
  have hlen' := Lib.hid hlen
  have hrise' := Lib.hid hrise
  clear hks' Hla Hle hlen hrise
  have hnew := heap_alloc_new w1 (.cells #[.string key, .int .i64 metres, .int .i64 stroke, .int .i64 course, .int .i64 g, .int .i64 sex, .int .i64 young, .int .i64 old] 27)
  have s2 := s1.alloc (.cells #[.string key, .int .i64 metres, .int .i64 stroke, .int .i64 course, .int .i64 g, .int .i64 sex, .int .i64 young, .int .i64 old] 27)
  have hB2 := hB1.alloc (by omega) (.cells #[.string key, .int .i64 metres, .int .i64 stroke, .int .i64 course, .int .i64 g, .int .i64 sex, .int .i64 young, .int .i64 old] 27)
  go_wp2_with fail
  refine (hk.out _ s2).mono ?_; rintro e w3 ⟨A, n, c, rfl, hown, _, g3⟩
  have hnL : L.length = n := by have := hown.1; rw [ints_len] at this; omega
  rw [hnL] at hn hn1
  have hr3 : RI 3 w3 A n L := R1.of_own hown (by omega)
  have hb3 := blk_grown hnew g3 (by simp; omega)
  have hB3 := hB2.trans (grown_below g3 (Nat.le_refl _) hB2.size)
  have hc3 := (blk_facts hb3).1
  have hnL' := Lib.hid hnL
  clear hnew hB2 s2 s1 g3 hown hB1 hk hnL
  generalize w1.heap.size = b4 at *
  go_wp2_with fail
  refine (hla.out _ _ _ _ hr3).mono ?_; rintro e w4 ⟨A4, c4, rfl, hown4, B4⟩
  have ha4 : RI 3 w4 A4 n (lapsL L) := R1.of_own hown4 (by omega)
  have hb4 := blk_below hb3 B4
  have hr4 := hr3.below B4
  have hB4 := below_next hB3 B4
  have hc4 := (blk_facts hb4).1
  clear hb3 hr3 hB3 hc3 hown4 B4
  go_wp2_with fail
  refine (hle.out _ _ _ _ hr4).mono ?_; rintro e w5 ⟨A5, n5, c5, rfl, hG5, B5⟩
  have hG5' : RI 3 w5 A5 n5 (legG L ee g 0) := hG5
  have hn5 : n5 = g := by rw [← hG5'.len]; exact legG_len _ _
  subst hn5
  have ha5 := ha4.below B5
  have hb5 := blk_below hb4 B5
  have hr5 := hr4.below B5
  have hB5 := below_next hB4 B5
  have hc5 := (blk_facts hb5).1
  clear hb4 hr4 hB4 hc4 ha4 B5 hG5
  rw [show legE (some (legG L ee n5 0)) = 0 from rfl]
  obtain ⟨b, off, T, rfl, _, hT, hcT⟩ := hr5.at_ (k := n - 1) (by omega)
  have hTb := hbd T (mem_of_at hT)
  have hT' := Lib.hid hT
  clear hT
  go_wp2
  go_quiet (fail)
  go_wp2_with fail
  clear hb5 hc5 hcT
  have hlo : ∀ j, j ≤ n → 0 ≤ lastOf L j ∧ lastOf L j ≤ 360000 := fun j hj => by
    unfold lastOf
    split
    · omega
    · obtain ⟨y, hy⟩ := at_of_lt (l := L) (k := j - 1) (by rw [hnL'.out]; omega)
      rw [getD_of hy]; exact hbd y (mem_of_at hy)
  have hle0 : ∀ j, j ≤ n5 → 0 ≤ legP L ee j ∧ legP L ee j ≤ 360000 := fun j hj => legP_bd hbd he1 hlen'.out hj
  have hlo' := Lib.hid hlo
  have hle' := Lib.hid hle0
  clear hlo hle0 hbd
  go_loop [10, 63] (fun t i => ∃ (k : Nat) (s : Int), k ≤ n ∧ i = .int .i64 k ∧ t = .int .i64 s ∧ Hid (s = T - lastOf L k)) (fun _ i => n - (intOf i).toNat)
  case atStart => exact ⟨0, T, Nat.zero_le _, rfl, rfl, Lib.hid (by simp [lastOf])⟩
  case round =>
    obtain ⟨k, s, hk, rfl, rfl, hF⟩ := hrel
    by_cases hlt : k < n
    · obtain ⟨b', off', x, rfl, _, hx, hcell⟩ := ha5.at_ hlt
      obtain ⟨y, hy⟩ := at_of_lt (l := L) (k := k) (by rw [hnL'.out]; exact hlt)
      have h1 := laps_known hrise'.out hy
      rw [hx] at h1
      have hxy := Lib.hid (Option.some.inj h1)
      have h2 := Lib.hid (lastOf_succ hy)
      have h3 := hlo'.out k (by omega)
      have h4 := hlo'.out (k + 1) (by omega)
      have hsb : -360000 ≤ s ∧ s ≤ 360000 := by have := hF.out; omega
      have hxb : -360000 ≤ x ∧ x ≤ 360000 := by have := hxy.out; have := h2.out; omega
      clear hx hy h1
      go_wp2
      go_round
      case rel => exact ⟨k + 1, s - x, by omega, by go_num, rfl, Lib.hid (by have := hF.out; have := hxy.out; have := h2.out; omega)⟩
      case measure => simp [intOf]; omega
    · obtain rfl : k = n := by omega
      have hs0 : s = 0 := by
        have h1 := hF.out
        have h2 := lastOf_succ hT'.out
        rw [show k - 1 + 1 = k from by omega] at h2
        omega
      subst hs0
      clear hF
      go_wp2_with fail
      go_loop [11, 73] (fun t i => ∃ (j : Nat) (s : Int), j ≤ n5 ∧ i = .int .i64 j ∧ t = .int .i64 s ∧ Hid (s = T - legP L ee j)) (fun _ i => n5 - (intOf i).toNat)
      case atStart => exact ⟨0, T, Nat.zero_le _, rfl, rfl, Lib.hid (by simp [legP])⟩
      case round =>
        obtain ⟨j, s, hj, rfl, rfl, hF⟩ := hrel
        by_cases hlt : j < n5
        · obtain ⟨b', off', x, rfl, _, hx, hcell⟩ := hG5'.at_ hlt
          have h1 := legG_at (l := L) (e := ee) n5 0 j hlt
          rw [hx] at h1
          have hxy := Lib.hid (Option.some.inj h1)
          rw [Nat.zero_add] at hxy
          have h3 := hle'.out j (by omega)
          have h4 := hle'.out (j + 1) (by omega)
          have hsb : -360000 ≤ s ∧ s ≤ 360000 := by have := hF.out; omega
          have hxb : -360000 ≤ x ∧ x ≤ 360000 := by have := hxy.out; omega
          clear hx h1
          go_wp2
          go_round
          case rel => exact ⟨j + 1, s - x, by omega, by go_num, rfl, Lib.hid (by have := hF.out; have := hxy.out; omega)⟩
          case measure => simp [intOf]; omega
        · obtain rfl : j = n5 := by omega
          have hs0 : s = 0 := by
            have h1 := hF.out
            have h2 := legP_end he1 hg1 hlen'.out
            have h3 := last_at hnL'.out (by omega)
            rw [hT'.out] at h3
            have h4 := Option.some.inj h3
            omega
          subst hs0
          clear hF
          go_wp2_with fail
          refine (ready_c _).mono ?_; rintro e w9 ⟨rfl, B9⟩
          go_wp2
          go_ret
          exact ⟨rfl, below_next (below_drewN hB5 _) B9⟩
end Go.Proofs.YtjfppcejcbfngaaDoor
