/- pad.Text of any signals. -/
import Derived.Test.YtnkhdofcmanipaaGreatDoorFaTxtM
namespace Go.Proofs.YtnkhdofcmanipaaGreatDoor
open Go.RowKit Go.Lib
set_option linter.unusedVariables false

theorem sgTextA_c (A : Option Addr) (n c : Nat) (l : List Sg) (w : World) (h : RSg w A n l) (hT : Tb w) (hS : sigErr l = 0 → (sgText l).length ≤ 200000 ∧ ∀ x ∈ l, SgWr x) :
    Calls Tryz.prog 35 #[.slice A n c] w fun e w' => e = .returned (.tuple #[.string (if sigErr l = 0 then ⟨(sgText l).toArray⟩ else ⟨#[]⟩), .int .i64 (sigErr l)]) ∧ Below w.heap.size w w' := by
  by_cases h0 : sigErr l = 0
  · rw [if_pos h0, h0]
    exact sgTextR_c A n c l w h hT (hS h0).1 (hS h0).2 h0
  · have hCF := Lib.hid (checkSignals_c A n c l w h)
    have hd : (sigErr l != 0) = true := by simpa using h0
    rw [if_neg h0]
    clear h0 hS
    generalize sigErr l = E at *
    go_enter Tryz.func35, Tryz.ntmps35
    go_wp2_with fail
    refine hCF.out.mono ?_; rintro e wS ⟨rfl, B1⟩
    go_wp2
    go_ret2
    exact ⟨rfl, B1⟩
end Go.Proofs.YtnkhdofcmanipaaGreatDoor
