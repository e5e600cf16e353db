import Derived.Test.YtcmfgmdkdpadjaaGreatDoorProg
import Derived.Test.YtcmfgmdkdpadjaaGreatDoorStructs
import Derived.BigGuardPart
import Derived.Laws.StructEq
import Derived.Test.YtcmfgmdkdpadjaaGreatDoorFrac
import Derived.Test.YtcmfgmdkdpadjaaGreatDoorLikes
import Derived.Test.YtcmfgmdkdpadjaaGreatDoorSwims2
import Derived.Test.YtcmfgmdkdpadjaaGreatDoorAhead2
import Derived.Test.YtcmfgmdkdpadjaaGreatDoorTurns
/- api.Gap as data; slices.Equal over it. -/
namespace Go.Proofs.YtcmfgmdkdpadjaaGreatDoor
open Go.RowKit
set_option linter.unusedVariables false

theorem str_neGp {a b : ByteArray} (h : a ≠ b) : (a.toList == b.toList) = false := by
  rw [beq_eq_false_iff_ne, ByteArray.toList_eq, ByteArray.toList_eq]
  intro e
  exact h (by cases a; cases b; congr 1; exact Array.toList_inj.mp e)
structure Gp where
  who : ByteArray
  length : Int
  behind : Int
deriving DecidableEq
def gpE (p : Gp) : List Value := [.string p.who, .int .i64 p.length, .int .i64 p.behind]
theorem gpE_len : ∀ x, (gpE x).length = 3 := fun _ => rfl
end Go.Proofs.YtcmfgmdkdpadjaaGreatDoor

/- Best laps, plain: column by column (the reference), swim by swim (the program). -/
namespace Go.Proofs.YtcmfgmdkdpadjaaGreatDoor
open Go.RowKit
set_option linter.unusedVariables false

def stepG (g : Gp) (who : ByteArray) (lap : Int) : Gp := if lap < g.behind then ⟨who, g.length, lap⟩ else g
/-- column j over the swims l, from g -/
def colG (j : Nat) (g : Gp) : List Sw → Gp
  | [] => g
  | x :: r => colG j (stepG g x.who ((lapsL x.sp).getD j 0)) r
theorem colG_snoc (j : Nat) (g : Gp) (l : List Sw) (x : Sw) : colG j g (l ++ [x]) = stepG (colG j g l) x.who ((lapsL x.sp).getD j 0) := by
  induction l generalizing g with
  | nil => rfl
  | cons y r ih => exact ih _
def zeroG (j : Nat) : Gp := ⟨⟨#[]⟩, (j : Int) + 1, 360001⟩
def bestL (m : Nat) (l : List Sw) : List Gp := (List.range m).map fun j => colG j (zeroG j) l
theorem bestL_len (m : Nat) (l : List Sw) : (bestL m l).length = m := by simp [bestL]
theorem bestL_at {m j : Nat} (h : j < m) (l : List Sw) : (bestL m l)[j]? = some (colG j (zeroG j) l) := by simp [bestL, h]
/-- the program's row while swim x is under way: the first j columns have seen it -/
def bestW (m j : Nat) (l : List Sw) (x : Sw) : List Gp := (bestL m (l ++ [x])).take j ++ (bestL m l).drop j
theorem bestW_zero (m : Nat) (l : List Sw) (x : Sw) : bestW m 0 l x = bestL m l := by simp [bestW]
theorem bestW_end (m : Nat) (l : List Sw) (x : Sw) : bestW m m l x = bestL m (l ++ [x]) := by
  unfold bestW; rw [List.take_of_length_le (by simp [bestL_len]), List.drop_of_length_le (by simp [bestL_len]), List.append_nil]
theorem bestW_succ {m j : Nat} (h : j < m) (l : List Sw) (x : Sw) : bestW m (j + 1) l x = (bestW m j l x).set j (stepG (colG j (zeroG j) l) x.who ((lapsL x.sp).getD j 0)) := by
  unfold bestW
  have h1 := bestL_at h (l ++ [x])
  have h2 := bestL_at h l
  rw [colG_snoc] at h1
  have h3 : ((bestL m (l ++ [x])).take j).length = j := by rw [List.length_take, bestL_len]; omega
  rw [List.take_add_one, h1, drop_at h2, List.set_append_right _ _ (by omega), h3]
  simp
theorem bestW_at {m j : Nat} (h : j < m) (l : List Sw) (x : Sw) : (bestW m j l x)[j]? = some (colG j (zeroG j) l) := by
  unfold bestW
  have h3 : ((bestL m (l ++ [x])).take j).length = j := by rw [List.length_take, bestL_len]; omega
  rw [List.getElem?_append_right (by omega), h3, Nat.sub_self, List.getElem?_drop, Nat.add_zero, bestL_at h]
/-- the first swim: the program takes its laps as they are -/
theorem best_first {j : Nat} {x : Sw} (h : (lapsL x.sp).getD j 0 ≤ 360000) : colG j (zeroG j) [x] = ⟨x.who, (j : Int) + 1, (lapsL x.sp).getD j 0⟩ := by
  show stepG (zeroG j) x.who _ = _
  unfold stepG zeroG
  rw [if_pos (by show _ < (360001 : Int); omega)]
def sumG : List Gp → Int
  | [] => 0
  | g :: r => g.behind + sumG r
end Go.Proofs.YtcmfgmdkdpadjaaGreatDoor

/- The reference's BestLaps. (UNDER WAY) -/
namespace Go.Proofs.YtcmfgmdkdpadjaaGreatDoor
open Go.RowKit
set_option linter.unusedVariables false

end Go.Proofs.YtcmfgmdkdpadjaaGreatDoor
