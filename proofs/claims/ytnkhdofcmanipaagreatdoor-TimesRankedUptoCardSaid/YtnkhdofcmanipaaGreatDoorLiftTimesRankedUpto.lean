/- TimesRankedUpto: the card of the second form, out of the walk. For every list of integers of bulk at most 1048576 (as the Rows text counts it) the Go function returns true and writes nothing that was there; conditions: that bound, and the package-level tables that the card lists, tied to the program's text. -/
import Derived.Test.YtnkhdofcmanipaaGreatDoorLiftTimesRankedUptoA
import Derived.Test.YtnkhdofcmanipaaGreatDoorNoGo
namespace Go.Proofs.YtnkhdofcmanipaaGreatDoor.timesRankedUptoDone
open Go.ChangeShapes Go.WideShapes Go.ChangeAt Go.RowKit
open Go.ChangeMaps (open_string shut_string)
set_option linter.unusedVariables false
set_option maxHeartbeats 4000000 in
theorem over : Rows.TimesRankedUptoSaid :=
  OpenClaim.holds_of_cond 3 Tryz.f3 rfl rfl rfl rfl rfl rfl rfl ⟨rfl, rfl, rfl, rfl, rfl⟩ rfl rfl rfl rfl rfl (by as_aux_lemma => kernel_rfl) Tryz.func3 joined
    (of_decide_eq_true (by as_aux_lemma => kernel_rfl)) (by unfold Func.isWrapper; first | (rw [if_pos (by decide +kernel)]; kernel_rfl) | (rw [if_neg (by decide +kernel)]; exact ⟨rfl, rfl⟩))
    (fun os started H enc _ F => by rw [OpenClaim.pre_eq_preRow]; exact lifted os started H enc F)

set_option maxHeartbeats 4000000 in
theorem proved : Rows.TimesRankedUptoCardSaid :=
  Claim7.holds_tied_plain_at .later [] [.data, .data, .data, .data, .pinned] true (true, "d0fa9600c17e4f55fe8222a8991ad580463c6115e2fbc37ba85710397a15bb89") true
    over (fun _ h => by cases h) (by as_aux_lemma => kernel_rfl) (fun _ h => by cases h) timesRankedUpto_row_tie rfl ⟨rfl, rfl⟩ (by as_aux_lemma => kernel_rfl) rfl
    (fun f fn hf hfn => by
      obtain rfl : f = 3 := Option.some.inj ((show Tryz.prog.funcNamed "tumbleturn/tumblaw1.TimesRanked" = some 3 by as_aux_lemma => kernel_rfl).symm.trans hf) |>.symm
      obtain rfl : fn = Tryz.f3 := (Option.some.inj (Tryz.func3.symm.trans hfn)).symm
      exact ⟨by as_aux_lemma => kernel_rfl, fun j t ht => by
        rw [Tryz.params3] at ht
        have hm : t ∈ [22] := by simpa using Array.mem_of_getElem? ht
        have hall : ([22].all fun u => !Tryz.prog.wantsStandIn u) = true := by as_aux_lemma => kernel_rfl
        exact (show Tryz.prog.wantsStandIn t = false by simpa using List.all_eq_true.1 hall t hm)⟩)
    (by
      show false = ((Tryz.prog.funcNamed "tumbleturn/tumblaw1.TimesRanked").any Tryz.prog.goes || false)
      rw [show Tryz.prog.funcNamed "tumbleturn/tumblaw1.TimesRanked" = some 3 by as_aux_lemma => kernel_rfl]
      simp [goesNot])
end Go.Proofs.YtnkhdofcmanipaaGreatDoor.timesRankedUptoDone
