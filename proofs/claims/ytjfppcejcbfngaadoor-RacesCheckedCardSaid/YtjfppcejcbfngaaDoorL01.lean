/- RacesChecked: CheckRace and Lengths answer as the reference says, for every race that the stream makes: the walk. -/
import Derived.Test.YtjfppcejcbfngaaDoorLens
import Derived.Test.YtjfppcejcbfngaaDoorSwumR
import Derived.Test.YtjfppcejcbfngaaDoorClock
import Derived.Test.YtjfppcejcbfngaaDoorLawBase
namespace Go.Proofs.YtjfppcejcbfngaaDoor
open Go.RowKit
set_option linter.unusedVariables false

set_option maxHeartbeats 1600000 in
theorem racesChecked_walk (a0 : Option Addr) (len0 cap0 : Nat) (z0 : List Int) (w : World) (w0 : IsRow .i64 w a0 len0 cap0 z0) :
    Calls Tryd.prog 3 #[.slice a0 len0 cap0] w fun e w' => e = .returned (.bool true) ∧ Below w.heap.size w w' := by
  have hs := law_start w0
  clear w0
  go_enter Tryd.func3, Tryd.ntmps3
  go_wp2_with fail
  refine (swumRace_c w.heap.size _ 0 _ hs (by omega)).mono ?_; rintro e w1 ⟨rfl, _, g1⟩
  have hB1 : Below w.heap.size w w1 := (below_new w _).trans (grown_below g1 (Nat.le_refl _) (by simp))
  have Hf := fun W => raceFault_c (swumRace (List.take len0 z0) 0).1 W
  have Hc := fun W => checkRace_c (swumRace (List.take len0 z0) 0).1 W
  have Hl := fun W h => Lengths_ok (swumRace (List.take len0 z0) 0).1 W h
  have He := fun W h => Lengths_err (swumRace (List.take len0 z0) 0).1 W h
  have Ho := fun W h => lengthsOf_c (swumRace (List.take len0 z0) 0).1 W h
  generalize (swumRace (List.take len0 z0) 0).1 = r at *
  clear hs g1
  by_cases h : raceErr r = 0
  · have Hl := fun W => Hl W h
    have Ho := fun W => Ho W h
    rw [h] at Hf Hc
    generalize lenV r = y at *
    clear h He
    obtain ⟨key, metres, stroke, course, legs, sex, young, old⟩ := r
    dsimp only [Race.val, Race.cells] at *
    have Hf' := Lib.hid Hf; clear Hf
    have Hc' := Lib.hid Hc; clear Hc
    have Hl' := Lib.hid Hl; clear Hl
    have Ho' := Lib.hid Ho; clear Ho
    go_wp2_with fail
    refine (Hf'.out _).mono ?_; rintro e w2 ⟨rfl, hb2⟩; obtain ⟨C2, F2⟩ := bcell hb2; have hB2 := below_nextBox hB1 hb2
    go_wp2_with fail
    refine (Hl'.out _).mono ?_; rintro e w3 ⟨rfl, hb3⟩; obtain ⟨C3, F3⟩ := bcell hb3; have hB3 := below_next hB2 hb3
    have hz3 : w1.heap.size < w3.heap.size := by have := hb2.size; have := hb3.size; simp at *; omega
    have hz2 : w1.heap.size < w2.heap.size := by have := hb2.size; simp at *; omega
    go_wp2_with fail
    refine (Hc'.out _).mono ?_; rintro e w4 ⟨rfl, hb4⟩; obtain ⟨C4, F4⟩ := bcell hb4; have hB4 := below_next hB3 hb4
    go_wp2_with fail
    refine (Ho'.out _).mono ?_; rintro e w5 ⟨rfl, hb5⟩; obtain ⟨C5, F5⟩ := bcell hb5; have hB5 := below_next hB4 hb5
    go_wp2_with fail
    refine (clocked_c _).mono ?_; rintro e w6 ⟨rfl, hb6⟩; have hB6 := below_next hB5 hb6
    go_wp2
    go_ret
    exact ⟨rfl, hB6⟩
  · have He := fun W => He W h
    have hx : (raceErr r == 0) = false := by simpa using h
    have hy : (raceErr r != 0) = true := by simpa using h
    clear h Hl Ho
    generalize raceErr r = x at *
    obtain ⟨key, metres, stroke, course, legs, sex, young, old⟩ := r
    dsimp only [Race.val, Race.cells] at *
    have Hf' := Lib.hid Hf; clear Hf
    have Hc' := Lib.hid Hc; clear Hc
    have He' := Lib.hid He; clear He
    go_wp2_with fail
    refine (Hf'.out _).mono ?_; rintro e w2 ⟨rfl, hb2⟩; obtain ⟨C2, F2⟩ := bcell hb2; have hB2 := below_nextBox hB1 hb2
    go_wp2_with fail
    refine (He'.out _).mono ?_; rintro e w3 ⟨rfl, hb3⟩; obtain ⟨C3, F3⟩ := bcell hb3; have hB3 := below_next hB2 hb3
    have hz3 : w1.heap.size < w3.heap.size := by have := hb2.size; have := hb3.size; simp at *; omega
    have hz2 : w1.heap.size < w2.heap.size := by have := hb2.size; simp at *; omega
    go_wp2_with fail
    refine (Hc'.out _).mono ?_; rintro e w4 ⟨rfl, hb4⟩; obtain ⟨C4, F4⟩ := bcell hb4; have hB4 := below_next hB3 hb4
    go_wp2_with fail
    refine (clocked_c _).mono ?_; rintro e w6 ⟨rfl, hb6⟩; have hB6 := below_next hB4 hb6
    go_wp2
    go_ret
    exact ⟨rfl, hB6⟩
end Go.Proofs.YtjfppcejcbfngaaDoor
