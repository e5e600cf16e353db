import Derived.Test.YtnkhdofcmanipaaGreatDoorTaTxtP
import Derived.Test.YtnkhdofcmanipaaGreatDoorTaClock
import Derived.Test.YtnkhdofcmanipaaGreatDoorTaReady4
import Derived.IntWalk
import Derived.Lib.AtoiErrMem
import Derived.BigQuiet
import Derived.Deep.QuietTactic
import Derived.Test.YtnkhdofcmanipaaGreatDoorTaRows2
import Derived.Test.YtnkhdofcmanipaaGreatDoorTaFill
import Derived.Lib.ItoaLen
import Derived.Lib.AtoiBound
import Derived.BigGuardPart
/- timing.Write, timing.Parse: the walk. -/
namespace Go.Proofs.YtnkhdofcmanipaaGreatDoor
open Go.RowKit
set_option linter.unusedVariables false
set_option linter.unusedSimpArgs false

/-- the library's own limit holds some int -/
def Mx (w : World) : Prop := ∃ m : Int, w.cell? ⟨0, 0, none⟩ = some (.int .i64 m)
theorem Mx.below {w w' : World} (h : Mx w) (hb : Below w.heap.size w w') : Mx w' := by
  obtain ⟨m, hm⟩ := h
  exact ⟨m, by rw [hb.cell (by exact World.block_lt_of_cell? _ _ hm)]; exact hm⟩
end Go.Proofs.YtnkhdofcmanipaaGreatDoor

/- The reference's Int and ParsedOf: the walk. -/
namespace Go.Proofs.YtnkhdofcmanipaaGreatDoor
open Go.RowKit
set_option linter.unusedVariables false

/-- the error of a wrong numeral is there -/
def Ex (w : World) : Prop := ∃ tp p, w.var? Tryz.prog "strconv.ErrSyntax" = some #[.iface tp p]
theorem Ex.below {w w' : World} (h : Ex w) (hb : Below w.heap.size w w') : Ex w' := by
  obtain ⟨tp, p, h⟩ := h
  refine ⟨tp, p, ?_⟩
  unfold World.var? at h ⊢
  rcases hg : Program.globalNamed Tryz.prog "strconv.ErrSyntax" with _ | g
  · rw [hg] at h; cases h
  · rw [hg] at h
    simp only [Option.bind_some] at h ⊢
    have hlt : g < w.heap.size := by
      rcases Nat.lt_or_ge g w.heap.size with h' | h'
      · exact h'
      · rw [Array.getElem?_eq_none h'] at h; cases h
    rw [hb.block g hlt]
    exact h
end Go.Proofs.YtnkhdofcmanipaaGreatDoor
