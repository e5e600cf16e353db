import Derived.Test.YtcmfgmdkdpadjaaGreatDoorStructs
import Derived.Test.YtcmfgmdkdpadjaaGreatDoorFrac
import Derived.Test.YtcmfgmdkdpadjaaGreatDoorLikes
import Derived.Deep.RegionHeld3
import Derived.BigGuardPart
import Derived.IntWalk
/- Fields of swimmers: as data; the checks of a field. -/
namespace Go.Proofs.YtcmfgmdkdpadjaaGreatDoor
open Go.RowKit
set_option linter.unusedVariables false

structure Sw where
  who : ByteArray
  A : Option Addr
  n : Nat
  c : Nat
  sp : List Int
def swE (x : Sw) : List Value := [.string x.who, .slice x.A x.n x.c]
theorem swE_len : ∀ x, (swE x).length = 2 := fun _ => rfl
section
variable {w w' : World} {A : Option Addr} {n : Nat} {l : List Sw}
end
/-- what an append onto a row leaves: every block of another element type -/
theorem keep_of_app {w w' : World} {base : Nat} {e : TypeId} {size n : Nat} {v : Value} {xs : List Value} (hown : w.ownsRow base e size v n xs) (hg : w.grownBy w' v.ownBlock) : Keep e w w' := fun b cs t fz hne hb => blk_grown hb hg (fun he => by
  rcases hown.2 with ⟨rfl, _⟩ | ⟨g', cap, cur, rfl, _, hh, _⟩
  · simp [Value.ownBlock] at he
  · have e1 : b = g' := by simpa [Value.ownBlock] using he
    subst e1
    rw [hb] at hh
    injection hh with hh
    injection hh with _ ht
    exact hne ht)
/-! ## the checks -/
def leS (a b : ByteArray) : Bool := Op.bytesLess a.toList b.toList || (a.toList == b.toList)
def leO (a : ByteArray) : Option ByteArray → Bool
  | none => false
  | some b => leS a b
def fieldGo (r : Race) : Option ByteArray → List Sw → Int
  | _, [] => 0
  | p, x :: l => if keyB x.who = false then 5 else if leO x.who p = true then 7 else if wholeErr r x.sp ≠ 0 then wholeErr r x.sp else fieldGo r (some x.who) l
def fieldErr (r : Race) (l : List Sw) : Int := if raceErr r ≠ 0 then raceErr r else if 20 < l.length then 2 else fieldGo r none l
def prevS (l : List Sw) (k : Nat) : Option ByteArray := if k = 0 then none else (l[k - 1]?).map Sw.who
theorem prevS_succ {l : List Sw} {k : Nat} {x : Sw} (h : l[k]? = some x) : prevS l (k + 1) = some x.who := by unfold prevS; rw [if_neg (by omega)]; show (l[k]?).map Sw.who = _; rw [h]; rfl
theorem fieldGo_at {r : Race} {l : List Sw} {k : Nat} {x : Sw} (p : Option ByteArray) (h : l[k]? = some x) : fieldGo r p (l.drop k) = if keyB x.who = false then 5 else if leO x.who p = true then 7 else if wholeErr r x.sp ≠ 0 then wholeErr r x.sp else fieldGo r (some x.who) (l.drop (k + 1)) := by rw [drop_at h]; rfl

end Go.Proofs.YtcmfgmdkdpadjaaGreatDoor

/- Fields of swimmers: the reference's check. -/
namespace Go.Proofs.YtcmfgmdkdpadjaaGreatDoor
open Go.RowKit
set_option linter.unusedVariables false

end Go.Proofs.YtcmfgmdkdpadjaaGreatDoor
