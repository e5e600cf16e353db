/- Splits that are wrong: Legs, Halves and Fill answer with the error. -/
import Derived.Test.YtjfppcejcbfngaaDoorFillQ
import Derived.Test.YtjfppcejcbfngaaDoorFadeR
namespace Go.Proofs.YtjfppcejcbfngaaDoor
open Go.RowKit
set_option linter.unusedVariables false

theorem legs_err (r : Race) (A : Option Addr) (n c : Nat) (l : List Int) (w : World) (h : RI 3 w A n l) (h0 : checkSp r l ≠ 0) :
    Calls Tryd.prog 63 #[r.val, .slice A n c] w fun e w' => e = .returned (.tuple #[.slice none 0 0, .int .i64 (checkSp r l)]) ∧ Below w.heap.size w w' := by
  have Hs := fun W h => checkSplits_c r A n c l W h
  have hn : (checkSp r l != 0) = true := by simpa using h0
  generalize checkSp r l = x at *
  have Hs' := Lib.hid Hs
  clear h0 Hs
  obtain ⟨key, metres, stroke, course, legs, sex, young, old⟩ := r
  dsimp only [Race.val, Race.cells] at *
  go_enter Tryd.func63, Tryd.ntmps63
  go_wp2_with fail
  refine (Hs'.out _ (h.alloc _)).mono ?_; rintro e w0 ⟨rfl, hb0⟩; have hB0 := below_box hb0
  go_wp2
  go_ret2
  exact ⟨rfl, hB0⟩
theorem fill_err (r : Race) (A : Option Addr) (n c : Nat) (l : List Int) (w : World) (h : RI 3 w A n l) (h0 : checkSp r l ≠ 0) :
    Calls Tryd.prog 65 #[r.val, .slice A n c] w fun e w' => e = .returned (.tuple #[.slice none 0 0, .int .i64 (checkSp r l)]) ∧ Below w.heap.size w w' := by
  have Hs := fun W h => checkSplits_c r A n c l W h
  have hn : (checkSp r l != 0) = true := by simpa using h0
  generalize checkSp r l = x at *
  have Hs' := Lib.hid Hs
  clear h0 Hs
  obtain ⟨key, metres, stroke, course, legs, sex, young, old⟩ := r
  dsimp only [Race.val, Race.cells] at *
  go_enter Tryd.func65, Tryd.ntmps65
  go_wp2_with fail
  refine (Hs'.out _ (h.alloc _)).mono ?_; rintro e w0 ⟨rfl, hb0⟩; have hB0 := below_box hb0
  go_wp2
  go_ret2
  exact ⟨rfl, hB0⟩
theorem halves_err (r : Race) (A : Option Addr) (n c : Nat) (l : List Int) (w : World) (h : RI 3 w A n l) (h0 : checkSp r l ≠ 0) :
    Calls Tryd.prog 64 #[r.val, .slice A n c] w fun e w' => e = .returned (.tuple #[.int .i64 0, .int .i64 0, .int .i64 (checkSp r l)]) ∧ Below w.heap.size w w' := by
  have Hs := fun W h => checkSplits_c r A n c l W h
  have hn : (checkSp r l != 0) = true := by simpa using h0
  generalize checkSp r l = x at *
  have Hs' := Lib.hid Hs
  clear h0 Hs
  obtain ⟨key, metres, stroke, course, legs, sex, young, old⟩ := r
  dsimp only [Race.val, Race.cells] at *
  go_enter Tryd.func64, Tryd.ntmps64
  go_wp2_with fail
  refine (Hs'.out _ (h.alloc _)).mono ?_; rintro e w0 ⟨rfl, hb0⟩; have hB0 := below_box hb0
  go_wp2
  refine bodyPost_ret (v := .tuple #[.int .i64 0, .int .i64 0, .int .i64 x]) (by simp [results, Tryd.results64, go_sem]) rfl ⟨rfl, hB0⟩
end Go.Proofs.YtjfppcejcbfngaaDoor
