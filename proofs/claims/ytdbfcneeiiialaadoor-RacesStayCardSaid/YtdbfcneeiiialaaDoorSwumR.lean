/- The stream's race that is nearly always right. -/
import Derived.Test.YtdbfcneeiiialaaDoorRaces
import Derived.Test.YtdbfcneeiiialaaDoorEnv
namespace Go.Proofs.YtdbfcneeiiialaaDoor
open Go.RowKit
set_option linter.unusedVariables false

def swumRace (zs : Zs) (k : Nat) : Race × Nat :=
  if nextV zs (k + 9) 15 == 0 then
    if nextV zs (k + 10) 5 == 0 then ({ (plainRace zs k).1 with key := pickV zs (k + 11) [⟨#[]⟩, ra], course := pickV zs (k + 12) [25, 50, 33, 0] }, k + 13)
    else if nextV zs (k + 10) 5 == 1 then ({ (plainRace zs k).1 with stroke := oddV zs (k + 11) 1 5, sex := oddV zs (k + 13) 0 2 }, k + 15)
    else if nextV zs (k + 10) 5 == 2 then ({ (plainRace zs k).1 with metres := pickV zs (k + 11) [0, 30, 100, 1500, 1525, 50] }, k + 12)
    else if nextV zs (k + 10) 5 == 3 then ({ (plainRace zs k).1 with legs := oddV zs (k + 11) 1 4, stroke := pickV zs (k + 13) [(plainRace zs k).1.stroke, 5] }, k + 14)
    else ({ (plainRace zs k).1 with young := oddV zs (k + 11) 0 20, old := oddV zs (k + 13) 10 120 }, k + 15)
  else ((plainRace zs k).1, k + 10)
theorem swumRace_k (zs : Zs) (k : Nat) : (swumRace zs k).2 ≤ k + 15 := by unfold swumRace; (repeat' split) <;> simp

def raceZero : Array Value := #[.string ⟨#[]⟩, .int .i64 0, .int .i64 0, .int .i64 0, .int .i64 0, .int .i64 0, .int .i64 0, .int .i64 0]

end Go.Proofs.YtdbfcneeiiialaaDoor
