/- timing.Watched and timing.Official, errors and answers in one. -/
import Derived.Test.YtklggnglaeagpaaGreatDoorQTouch7
namespace Go.Proofs.YtklggnglaeagpaaGreatDoor
open Go.RowKit
set_option linter.unusedVariables false

def watchA (l : List Int) : Int := if watchErr l = 0 then watchV l else 0
def watchQ (l : List Int) : Bool := if watchErr l = 0 then decide (0 < l.length) else false
theorem watchedE_c (A : Option Addr) (n c : Nat) (l : List Int) (w : World) (h : RI 3 w A n l) :
    Calls Tryz.prog 33 #[.slice A n c] w fun e w' => e = .returned (.tuple #[.int .i64 (watchA l), .bool (watchQ l), .int .i64 (watchErr l)]) ∧ Below w.heap.size w w' := by
  have hl := h.len
  have hCk := checkWatches_c A n c l w h
  by_cases h0 : watchErr l = 0
  · obtain ⟨h3, hb⟩ := watchErr_ok h0
    have hW := Lib.hid (watched_c A n c l w h (by omega) hb)
    have hA : watchA l = watchV l := by unfold watchA; rw [if_pos h0]
    have hQ : watchQ l = decide (0 < n) := by unfold watchQ; rw [if_pos h0, hl]
    rw [hA, hQ]
    rw [h0] at hCk ⊢
    have hCk' := Lib.hid hCk
    clear hCk h0 hA hQ hb h3
    go_enter Tryz.func33, Tryz.ntmps33
    go_wp2_with fail
    refine hCk'.out.mono ?_; rintro e w1 ⟨rfl, rfl⟩
    go_wp2_with fail
    refine hW.out.mono ?_; rintro e w2 ⟨rfl, B2⟩
    go_wp2
    go_ret3
    exact ⟨rfl, B2⟩
  · have hA : watchA l = 0 := by unfold watchA; rw [if_neg h0]
    have hQ : watchQ l = false := by unfold watchQ; rw [if_neg h0]
    rw [hA, hQ]
    have hne : (watchErr l != 0) = true := by simpa using h0
    generalize watchErr l = E at *
    have hCk' := Lib.hid hCk
    clear hCk h0 hA hQ
    go_enter Tryz.func33, Tryz.ntmps33
    go_wp2_with fail
    refine hCk'.out.mono ?_; rintro e w1 ⟨rfl, rfl⟩
    go_wp2
    go_ret3
    exact ⟨rfl, Below.refl _ _⟩
end Go.Proofs.YtklggnglaeagpaaGreatDoor
