/- Plain laws of the splits that the stream makes of a plain race: they are right, and all known. -/
import Derived.Test.YtmnidnmdjkfhnaaGreatDoorPlain0
import Derived.Test.YtmnidnmdjkfhnaaGreatDoorTurns
import Derived.Test.YtmnidnmdjkfhnaaGreatDoorSplits2
namespace Go.Proofs.YtmnidnmdjkfhnaaGreatDoor
open Go.RowKit
set_option linter.unusedVariables false

theorem plain_len (zs : List Int) (k : Nat) : lenV (plainRace zs k).1 ≤ 16 := by
  have hc := @pickV_mem _ _ zs (k + 1) ([25, 50] : List Int) (by simp)
  have hl := @pickV_mem _ _ zs (k + 3) ([1, 1, 1, 2, 4] : List Int) (by simp)
  have n7 := @nextV_bd zs (k + 7) 4 (by omega)
  unfold plainRace lenV
  generalize pickV zs (k + 1) ([25, 50] : List Int) = c at *
  generalize pickV zs (k + 3) ([1, 1, 1, 2, 4] : List Int) = g at *
  generalize nextV zs (k + 7) 4 = d at *
  simp at hc hl
  dsimp only
  split <;> dsimp only
  · rcases hc with rfl | rfl <;> omega
  · have e : c * (1 + d) / c = 1 + d := Int.mul_ediv_cancel_left _ (by omega)
    rw [e]
    have := mul_bd (a := 1 + d) (b := g) (A := 4) (B := 4) (by omega) (by omega) (by omega) (by omega)
    omega
theorem ks_sp {zs : List Int} : ∀ (m k : Nat) (t : Int), 0 ≤ t → t + 1699 * m ≤ 360000 → spErrL (ksL zs m k t) t = 0
  | 0, _, _, _, _ => rfl
  | m + 1, k, t, h0, h1 => by
    have st := ks_step zs k
    unfold ksL spErrL
    rw [if_neg (by omega), if_neg (by omega), if_pos (by omega)]
    exact ks_sp m _ _ (by omega) (by omega)
theorem ks_rise {zs : List Int} : ∀ (m k : Nat) (t : Int), risingF (ksL zs m k t) t = true
  | 0, _, _ => rfl
  | m + 1, k, t => by
    have st := ks_step zs k
    unfold ksL
    show (if _ then false else risingF _ _) = true
    rw [if_neg (by omega)]
    exact ks_rise m _ _
theorem ks_length {zs : List Int} : ∀ (m k : Nat) (t : Int), (ksL zs m k t).length = m
  | 0, _, _ => rfl
  | m + 1, k, t => by unfold ksL; rw [List.length_cons, ks_length m]
theorem rise_has {l : List Int} (h : risingF l 0 = true) : hasB l 0 = false := by
  unfold hasB
  rw [← Bool.not_eq_true, List.contains_iff_mem]
  intro hm
  obtain ⟨j, hj⟩ := List.mem_iff_getElem?.mp hm
  have := rise_gt h hj
  omega
theorem rise_last {l : List Int} (h : risingF l 0 = true) (hn : 1 ≤ l.length) : 0 < l.getLastD 0 := rise_gt h (last_at rfl hn)
theorem whole_of {r : Race} {l : List Int} (h0 : raceErr r = 0) (h1 : (l.length : Int) = lenV r) (h2 : spErrL l 0 = 0) (h3 : risingF l 0 = true) : wholeErr r l = 0 := by
  have hb := lenV_bd h0
  have hl := rise_last h3 (by omega)
  have hs : splitsErr r l = 0 := by unfold splitsErr; rw [if_neg (by omega), if_neg (by omega), if_neg (by omega)]
  unfold wholeErr knownErr
  rw [if_neg (by omega), if_neg (by omega), rise_has h3]
  rfl
theorem ks_whole (zs : List Int) (k k' : Nat) : wholeErr (plainRace zs k).1 (knownSplits zs k' (plainRace zs k).1) = 0 := by
  have hb := lenV_bd (plainRace_ok zs k)
  have hl := plain_len zs k
  refine whole_of (plainRace_ok zs k) ?_ ?_ ?_
  · unfold knownSplits; rw [ks_length]; omega
  · exact ks_sp _ _ _ (by omega) (by omega)
  · exact ks_rise _ _ _
end Go.Proofs.YtmnidnmdjkfhnaaGreatDoor
