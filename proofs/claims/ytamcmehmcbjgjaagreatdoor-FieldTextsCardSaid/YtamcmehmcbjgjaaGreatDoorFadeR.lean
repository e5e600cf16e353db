import Derived.Test.YtamcmehmcbjgjaaGreatDoorTurns
/- race.Turns, timing.Halves, race.Fade. -/
namespace Go.Proofs.YtamcmehmcbjgjaaGreatDoor
open Go.RowKit
set_option linter.unusedVariables false

end Go.Proofs.YtamcmehmcbjgjaaGreatDoor

/- race.Fade. -/
namespace Go.Proofs.YtamcmehmcbjgjaaGreatDoor
open Go.RowKit
set_option linter.unusedVariables false

def frac0 : Value := .agg #[.int .i64 0, .int .i64 0]
theorem half_err {l : List Int} (h : halfE l ≠ 0) : halfV l = .tuple #[.int .i64 0, .int .i64 0, .int .i64 (halfE l)] := by
  unfold halfV halfB halfA; rw [if_neg h, if_neg h]
theorem half_bd {r : Race} {l : List Int} (h : wholeErr r l = 0) (h1 : halfE l = 0) : 0 < halfA l ∧ halfA l ≤ 360000 ∧ 0 ≤ halfB l ∧ halfB l ≤ 360000 := by
  obtain ⟨hn1, hn, hbd⟩ := splits_bd (wholeErr_ok h).1
  have hr := whole_rise h
  have e0 := h1
  unfold halfE at h1
  split at h1
  · cases h1
  · rename_i hodd
    have hla := last_at (l := l) rfl (by omega)
    obtain ⟨x, hx⟩ := at_of_lt (l := l) (k := l.length / 2 - 1) (by omega)
    have eA : halfA l = x := by unfold halfA; rw [if_pos e0, getD_of hx]
    have eB : halfB l = l.getLastD 0 - x := by unfold halfB; rw [if_pos e0, eA]
    have h2 := rise_lt hr (by omega) hx hla
    have h3 := rise_gt hr hx
    have h4 := hbd _ (mem_of_at hla)
    rw [eA, eB]
    omega
end Go.Proofs.YtamcmehmcbjgjaaGreatDoor
