/- Plain laws of filled splits: what is known stays; what is all known is its own filling. -/
import Derived.Test.YtklggnglaeagpaaGreatDoorQEven9
import Derived.Test.YtklggnglaeagpaaGreatDoorQSums9
namespace Go.Proofs.YtklggnglaeagpaaGreatDoor
open Go.RowKit
set_option linter.unusedVariables false

theorem fill_keeps {l : List Int} {i : Nat} {b : Int} (hi : l.getD i 0 = b) (hb : b ≠ 0) : fillAt l i = b := by
  obtain ⟨m, a, hm, h1, _, hz⟩ := prevF_at l i
  exact fillAt_known h1 hm hi hb hz
theorem fill_self {l : List Int} (h : risingF l 0 = true) : fillL l = l := by
  apply List.ext_getElem?; intro i
  by_cases hi : i < l.length
  · rw [fillL_at hi]
    obtain ⟨x, hx⟩ := at_of_lt hi
    have hne := rise_ne h hi
    rw [hx, fill_keeps (getD_of hx) (by rw [getD_of hx] at hne; exact hne)]
  · rw [List.getElem?_eq_none (by rw [fillL_len]; omega), List.getElem?_eq_none (by omega)]
end Go.Proofs.YtklggnglaeagpaaGreatDoor
