/- Splits that the stream makes, all known. -/
import Derived.Test.YtklggnglaeagpaaGreatDoorQStructs
import Derived.Test.YtklggnglaeagpaaGreatDoorQLens
import Derived.Test.YtklggnglaeagpaaGreatDoorQEnv
namespace Go.Proofs.YtklggnglaeagpaaGreatDoor
open Go.RowKit
set_option linter.unusedVariables false

theorem info_int : (Tryz.prog.info? 3).map (fun i => (i.zero, i.size, i.bytes)) = some (some (.int .i64 0), 1, 8) := by kernel_rfl

/-- the splits from a time on: how many, how many numbers were taken, the time -/
def ksL (zs : Zs) : Nat → Nat → Int → List Int
  | 0, _, _ => []
  | m + 1, k, t => (t + pickV zs (k + 1) [1, 1500, 1600, 1610, 1500 + nextV zs k 200]) :: ksL zs m (k + 2) (t + pickV zs (k + 1) [1, 1500, 1600, 1610, 1500 + nextV zs k 200])
def knownSplits (zs : Zs) (k : Nat) (r : Race) : List Int := ksL zs (lenV r).toNat k 0
theorem ks_step (zs : Zs) (k : Nat) : 1 ≤ pickV zs (k + 1) [1, 1500, 1600, 1610, 1500 + nextV zs k 200] ∧ pickV zs (k + 1) [1, 1500, 1600, 1610, 1500 + nextV zs k 200] ≤ 1699 := by
  have h := @nextV_bd zs k 200 (by omega)
  have := @pickV_mem _ _ zs (k + 1) [1, 1500, 1600, 1610, 1500 + nextV zs k 200] (by simp)
  simp at this
  omega

set_option maxHeartbeats 1600000 in
theorem knownSplits_c (g : Nat) (zs : Zs) (k : Nat) (r : Race) (w : World) (h : St w g zs k) (hk : k + 500 ≤ 1099511627776) (hr : raceErr r = 0) :
    Calls Tryz.prog 31 #[.pointer (some ⟨g, 0, none⟩), r.val] w fun e w' => ∃ A n c, e = .returned (.slice A n c) ∧ w'.ownsRow w.heap.size 3 1 (.slice A n c) n (ints (knownSplits zs k r)) ∧ St w' g zs (k + 2 * (lenV r).toNat) ∧ w.grownBy w' (some g) := by
  have hb := lenV_bd hr
  have Ho := fun W => lengthsOf_c r W hr
  have hm : knownSplits zs k r = ksL zs (lenV r).toNat k 0 := rfl
  generalize hN : (lenV r).toNat = N at *
  have hNl : lenV r = (N : Int) := by omega
  rw [hNl] at Ho
  have hN1 : N ≤ 240 := by omega
  clear hNl hN hb hr
  have hM := Lib.hid hm; clear hm
  have hglt := h.lt
  generalize hKS : knownSplits zs k r = KS at *
  clear hKS
  obtain ⟨key, metres, stroke, course, legs, sex, young, old⟩ := r
  dsimp only [Race.val, Race.cells] at *
  have Ho' := Lib.hid Ho; clear Ho
  go_enter Tryz.func31, Tryz.ntmps31
  go_wp2_with fail
  refine (Ho'.out _).mono ?_; rintro e w1 ⟨rfl, hb1⟩; have hB1 := below_box hb1
  have s1 := h.below hB1
  have g1 : w.grownBy w1 (some g) := grown_of_below hB1
  have hz1 := hB1.size
  clear hb1 h
  go_wp2_with fail
  go_loopw [5, 6, 9] (fun out t i wr => ∃ (j : Nat) (tv : Int) (acc : List Int), j ≤ N ∧ i = .int .i64 j ∧ t = .int .i64 tv ∧ 0 ≤ tv ∧ tv ≤ 1699 * j ∧ wr.ownsRow w.heap.size 3 1 out j (ints acc) ∧ St wr g zs (k + 2 * j) ∧ w.grownBy wr (some g) ∧ Hid (acc ++ ksL zs (N - j) (k + 2 * j) tv = KS)) (fun _ _ i _ => N - (intOf i).toNat)
  case atStart => exact ⟨0, 0, [], Nat.zero_le _, rfl, rfl, by omega, by omega, World.ownsRow_nil _ _ _ _, s1, g1, Lib.hid (by rw [hM.out]; rfl)⟩
  case round =>
    obtain ⟨j, tv, acc, hj, rfl, rfl, ht0, ht1, hown, hst, hgr, hK⟩ := hrel
    by_cases hlt : j < N
    · have st := ks_step zs (k + 2 * j)
      have nb := @nextV_bd zs (k + 2 * j) 200 (by omega)
      go_wp2_with fail
      refine (next_c g zs (k + 2 * j) _ _ hst (by omega) (by omega) (by omega)).mono ?_; rintro e w2 ⟨rfl, s2, g2⟩
      have hgr2 := grown_trans hgr g2
      have hown2 := own_keep hown hglt g2
      clear hst g2 hown hgr
      go_wp2_with fail
      refine (pick_c g zs (k + 2 * j + 1) _ _ _ [1, 1500, 1600, 1610, 1500 + nextV zs (k + 2 * j) 200] _ (s2.alloc _) (by omega) (R1.litAt _ _ _ _ (by simp) rfl (le_big (by simp))) (by simp)).mono ?_; rintro e w3 ⟨rfl, s3, g3⟩
      have hgr3 := grown_trans (grown_alloc hgr2 _) g3
      have hown3 := own_keep (hown2.alloc _) hglt g3
      have hz3 := hgr3.size
      clear s2 g3 hown2 hgr2
      go_wp2_with (at_builtin; refine wpList_app rfl (.tmp 19) (.tmp 21) 22 rfl Tryz.underlying22 info_int rfl (by omega) (by omega) hown3 rfl rfl rfl rfl (by simp [Value.oneCell']) (by omega) hz3 ?_; intro v4 w4 hown4 hg4)
      have hgr4 := grown_own hgr3 hg4 (own_row_lt hown3)
      have hst4 := s3.grown hg4 (fun i hi => by have := own_row_lt hown3 i hi; omega)
      go_roundw
      case rel =>
        refine ⟨j + 1, _, acc ++ [tv + pickV zs (k + 2 * j + 1) [1, 1500, 1600, 1610, 1500 + nextV zs (k + 2 * j) 200]], by omega, by go_num, rfl, by omega, by omega, ?_, ?_, hgr4, Lib.hid ?_⟩
        · rw [ints_app]; exact hown4
        · rw [show k + 2 * (j + 1) = k + 2 * j + 1 + 1 from by omega]; exact hst4
        · rw [← hK.out, List.append_assoc]
          congr 1
          rw [show N - j = (N - (j + 1)) + 1 from by omega, ksL]
          rfl
      case measure => simp [intOf]; omega
    · go_wp2
      go_ret
      obtain ⟨A, c, hAc⟩ := own_shape hown
      refine ⟨A, j, c, by rw [← hAc]; rfl, ?_, ?_, hgr⟩
      · have := hK.out
        rw [show N - j = 0 from by omega, ksL, List.append_nil] at this
        rw [← this, ← hAc]; exact hown
      · rw [show N = j from by omega]; exact hst
end Go.Proofs.YtklggnglaeagpaaGreatDoor
