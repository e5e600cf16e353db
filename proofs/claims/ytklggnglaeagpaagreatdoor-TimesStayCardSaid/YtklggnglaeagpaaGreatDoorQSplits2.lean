/- Splits that the stream makes, nearly always right ones. -/
import Derived.Test.YtklggnglaeagpaaGreatDoorQFill
import Derived.Test.YtklggnglaeagpaaGreatDoorQSplits
import Derived.Test.YtklggnglaeagpaaGreatDoorQDraws
namespace Go.Proofs.YtklggnglaeagpaaGreatDoor
open Go.RowKit
set_option linter.unusedVariables false

theorem own_some {w : World} {base : Nat} {e : TypeId} {A : Option Addr} {n c : Nat} {xs : List Value} (h : w.ownsRow base e 1 (.slice A n c) n xs) (hn : 0 < n) : ∃ b, A = some ⟨b, 0, none⟩ ∧ base ≤ b := by
  rcases h.2 with ⟨e1, rfl⟩ | ⟨g, cap, cur, hv, hb, hg, hnc, hcm, hcs, ht⟩
  · omega
  · injection hv with e1 e2 e3; exact ⟨g, e1, hb⟩

end Go.Proofs.YtklggnglaeagpaaGreatDoor
