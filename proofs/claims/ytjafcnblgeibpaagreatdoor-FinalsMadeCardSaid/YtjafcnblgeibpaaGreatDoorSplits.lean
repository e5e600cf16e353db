/- Splits that the stream makes, all known. -/
import Derived.Test.YtjafcnblgeibpaaGreatDoorStructs
import Derived.Test.YtjafcnblgeibpaaGreatDoorLens
import Derived.Test.YtjafcnblgeibpaaGreatDoorEnv
namespace Go.Proofs.YtjafcnblgeibpaaGreatDoor
open Go.RowKit
set_option linter.unusedVariables false

theorem info_int : (Tryz.prog.info? 3).map (fun i => (i.zero, i.size, i.bytes)) = some (some (.int .i64 0), 1, 8) := by kernel_rfl

/-- the splits from a time on: how many, how many numbers were taken, the time -/
def ksL (zs : List Int) : Nat → Nat → Int → List Int
  | 0, _, _ => []
  | m + 1, k, t => (t + pickV zs (k + 1) [1, 1500, 1600, 1610, 1500 + nextV zs k 200]) :: ksL zs m (k + 2) (t + pickV zs (k + 1) [1, 1500, 1600, 1610, 1500 + nextV zs k 200])
def knownSplits (zs : List Int) (k : Nat) (r : Race) : List Int := ksL zs (lenV r).toNat k 0
theorem ks_step (zs : List Int) (k : Nat) : 1 ≤ pickV zs (k + 1) [1, 1500, 1600, 1610, 1500 + nextV zs k 200] ∧ pickV zs (k + 1) [1, 1500, 1600, 1610, 1500 + nextV zs k 200] ≤ 1699 := by
  have h := @nextV_bd zs k 200 (by omega)
  have := @pickV_mem _ _ zs (k + 1) [1, 1500, 1600, 1610, 1500 + nextV zs k 200] (by simp)
  simp at this
  omega

end Go.Proofs.YtjafcnblgeibpaaGreatDoor
