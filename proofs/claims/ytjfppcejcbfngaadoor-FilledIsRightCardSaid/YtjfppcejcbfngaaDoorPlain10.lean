/- Plain laws of filled splits: what is known stays; what is all known is its own filling. -/
import Derived.Test.YtjfppcejcbfngaaDoorEven9
import Derived.Test.YtjfppcejcbfngaaDoorSums9
namespace Go.Proofs.YtjfppcejcbfngaaDoor
open Go.RowKit
set_option linter.unusedVariables false

theorem fill_keeps {l : List Int} {i : Nat} {b : Int} (hi : l.getD i 0 = b) (hb : b ≠ 0) : fillAt l i = b := by
  obtain ⟨m, a, hm, h1, _, hz⟩ := prevF_at l i
  exact fillAt_known h1 hm hi hb hz
theorem fill_self {l : List Int} (h : risingF l 0 = true) : fillL l = l := by
  apply List.ext_getElem?; intro i
  by_cases hi : i < l.length
  · rw [fillL_at hi]
    obtain ⟨x, hx⟩ := at_of_lt hi
    have hne := rise_ne h hi
    rw [hx, fill_keeps (getD_of hx) (by rw [getD_of hx] at hne; exact hne)]
  · rw [List.getElem?_eq_none (by rw [fillL_len]; omega), List.getElem?_eq_none (by omega)]
theorem fill_whole {r : Race} {l : List Int} (h : checkSp r l = 0) (hr : risingF (fillL l) 0 = true) : wholeErr r (fillL l) = 0 := by
  obtain ⟨h0, h1⟩ := checkSp_ok h
  obtain ⟨h2, h3, h4⟩ := splitsErr_ok h1
  refine whole_of h0 (by rw [fillL_len]; exact h2) (sp_of_rise hr (by omega) ?_) hr
  intro x hx
  obtain ⟨i, hi⟩ := List.mem_iff_getElem?.mp hx
  have hlt := (List.getElem?_eq_some_iff.mp hi).1
  rw [fillL_len] at hlt
  rw [fillL_at hlt] at hi
  obtain rfl := Option.some.inj hi
  exact (fill_bd h3 h4 hlt).2.2
end Go.Proofs.YtjfppcejcbfngaaDoor
