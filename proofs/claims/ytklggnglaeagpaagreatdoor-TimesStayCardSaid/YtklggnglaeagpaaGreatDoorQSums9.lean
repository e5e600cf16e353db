import Derived.Test.YtklggnglaeagpaaGreatDoorQLens
import Derived.Test.YtklggnglaeagpaaGreatDoorQPlainR
import Derived.Test.YtklggnglaeagpaaGreatDoorQDraws
import Derived.Test.YtklggnglaeagpaaGreatDoorQTurns
import Derived.Test.YtklggnglaeagpaaGreatDoorQSplits2
import Derived.Test.YtklggnglaeagpaaGreatDoorQLegsP
/- The stream's plain race is right. -/
namespace Go.Proofs.YtklggnglaeagpaaGreatDoor
open Go.RowKit
set_option linter.unusedVariables false

end Go.Proofs.YtklggnglaeagpaaGreatDoor

/- Plain laws of the splits that the stream makes of a plain race: they are right, and all known. -/
namespace Go.Proofs.YtklggnglaeagpaaGreatDoor
open Go.RowKit
set_option linter.unusedVariables false

theorem ks_sp {zs : Zs} : ∀ (m k : Nat) (t : Int), 0 ≤ t → t + 1699 * m ≤ 360000 → spErrL (ksL zs m k t) t = 0
  | 0, _, _, _, _ => rfl
  | m + 1, k, t, h0, h1 => by
    have st := ks_step zs k
    unfold ksL spErrL
    rw [if_neg (by omega), if_neg (by omega), if_pos (by omega)]
    exact ks_sp m _ _ (by omega) (by omega)
theorem ks_rise {zs : Zs} : ∀ (m k : Nat) (t : Int), risingF (ksL zs m k t) t = true
  | 0, _, _ => rfl
  | m + 1, k, t => by
    have st := ks_step zs k
    unfold ksL
    show (if _ then false else risingF _ _) = true
    rw [if_neg (by omega)]
    exact ks_rise m _ _
theorem ks_length {zs : Zs} : ∀ (m k : Nat) (t : Int), (ksL zs m k t).length = m
  | 0, _, _ => rfl
  | m + 1, k, t => by unfold ksL; rw [List.length_cons, ks_length m]
theorem rise_has {l : List Int} (h : risingF l 0 = true) : hasB l 0 = false := by
  unfold hasB
  rw [← Bool.not_eq_true, List.contains_iff_mem]
  intro hm
  obtain ⟨j, hj⟩ := List.mem_iff_getElem?.mp hm
  have := rise_gt h hj
  omega
theorem rise_last {l : List Int} (h : risingF l 0 = true) (hn : 1 ≤ l.length) : 0 < l.getLastD 0 := rise_gt h (last_at rfl hn)
theorem whole_of {r : Race} {l : List Int} (h0 : raceErr r = 0) (h1 : (l.length : Int) = lenV r) (h2 : spErrL l 0 = 0) (h3 : risingF l 0 = true) : wholeErr r l = 0 := by
  have hb := lenV_bd h0
  have hl := rise_last h3 (by omega)
  have hs : splitsErr r l = 0 := by unfold splitsErr; rw [if_neg (by omega), if_neg (by omega), if_neg (by omega)]
  unfold wholeErr knownErr
  rw [if_neg (by omega), if_neg (by omega), rise_has h3]
  rfl
theorem ks_whole (zs : Zs) (k k' : Nat) : wholeErr (plainRace zs k).1 (knownSplits zs k' (plainRace zs k).1) = 0 := by
  have hb := lenV_bd (plainRace_ok zs k)
  have hl := plain_len zs k
  refine whole_of (plainRace_ok zs k) ?_ ?_ ?_
  · unfold knownSplits; rw [ks_length]; omega
  · exact ks_sp _ _ _ (by omega) (by omega)
  · exact ks_rise _ _ _
end Go.Proofs.YtklggnglaeagpaaGreatDoor

/- Plain laws: laps and legs of splits that are all known. -/
namespace Go.Proofs.YtklggnglaeagpaaGreatDoor
open Go.RowKit
set_option linter.unusedVariables false

theorem rise_ne {l : List Int} (h : risingF l 0 = true) {i : Nat} (hi : i < l.length) : l.getD i 0 ≠ 0 := by
  obtain ⟨x, hx⟩ := at_of_lt (l := l) (k := i) hi
  have := rise_gt h hx
  rw [getD_of hx]; omega
end Go.Proofs.YtklggnglaeagpaaGreatDoor
