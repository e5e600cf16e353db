/- PadsStay: the card, out of the walk. For every list of integers the Go function returns true and writes nothing that was there; conditions: the package-level tables that the card lists, tied to the program's text. -/
import Derived.Test.YtklggnglaeagpaaGreatDoorLiftPadsStayA
import Derived.Test.YtklggnglaeagpaaGreatDoorNoGo
namespace Go.Proofs.YtklggnglaeagpaaGreatDoor.padsStayDone
open Go.ChangeShapes Go.WideShapes Go.ChangeAt Go.RowKit
open Go.ChangeMaps (open_string shut_string)
set_option linter.unusedVariables false
set_option maxHeartbeats 4000000 in
theorem over : Rows.PadsStaySaid :=
  OpenClaim.holds_of_wide 4 Tryz.f4 rfl rfl rfl rfl rfl rfl rfl ⟨rfl, rfl, rfl, rfl, rfl⟩ rfl rfl rfl rfl rfl (by as_aux_lemma => kernel_rfl) Tryz.func4 joined
    (of_decide_eq_true (by as_aux_lemma => kernel_rfl)) (by unfold Func.isWrapper; first | (rw [if_pos (by decide +kernel)]; kernel_rfl) | (rw [if_neg (by decide +kernel)]; exact ⟨rfl, rfl⟩))
    (fun os started H enc _ => lifted os started H enc)

set_option maxHeartbeats 4000000 in
theorem proved : Rows.PadsStayCardSaid :=
  Claim7.holds_tied_plain_at .later [] [.data, .data, .data, .data, .pinned] true (true, "05183b168a8a1447082f016759863a0028ca590ee9066cdc282db05bedbebbee") true
    over (fun _ h => by cases h) (by as_aux_lemma => kernel_rfl) (fun _ h => by cases h) padsStay_row_tie rfl ⟨rfl, rfl⟩ (by as_aux_lemma => kernel_rfl) rfl
    (fun f fn hf hfn => by
      obtain rfl : f = 4 := Option.some.inj ((show Tryz.prog.funcNamed "tumbleturn/tumbkeep1.PadsStay" = some 4 by as_aux_lemma => kernel_rfl).symm.trans hf) |>.symm
      obtain rfl : fn = Tryz.f4 := (Option.some.inj (Tryz.func4.symm.trans hfn)).symm
      exact ⟨by as_aux_lemma => kernel_rfl, fun j t ht => by
        rw [Tryz.params4] at ht
        have hm : t ∈ [22] := by simpa using Array.mem_of_getElem? ht
        have hall : ([22].all fun u => !Tryz.prog.wantsStandIn u) = true := by as_aux_lemma => kernel_rfl
        exact (show Tryz.prog.wantsStandIn t = false by simpa using List.all_eq_true.1 hall t hm)⟩)
    (by
      show false = ((Tryz.prog.funcNamed "tumbleturn/tumbkeep1.PadsStay").any Tryz.prog.goes || false)
      rw [show Tryz.prog.funcNamed "tumbleturn/tumbkeep1.PadsStay" = some 4 by as_aux_lemma => kernel_rfl]
      simp [goesNot])
end Go.Proofs.YtklggnglaeagpaaGreatDoor.padsStayDone
