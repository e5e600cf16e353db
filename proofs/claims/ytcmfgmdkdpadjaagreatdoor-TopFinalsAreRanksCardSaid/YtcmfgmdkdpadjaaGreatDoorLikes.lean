import Derived.Test.YtcmfgmdkdpadjaaGreatDoorFill
import Derived.Test.YtcmfgmdkdpadjaaGreatDoorSplits
/- timing.Laps and the reference's LapsOf. -/
namespace Go.Proofs.YtcmfgmdkdpadjaaGreatDoor
open Go.RowKit
set_option linter.unusedVariables false

def lapAt (l : List Int) (i : Nat) : Int := if i = 0 then l.getD i 0 else if l.getD i 0 ≠ 0 ∧ l.getD (i - 1) 0 ≠ 0 then l.getD i 0 - l.getD (i - 1) 0 else 0
def lapsL (l : List Int) : List Int := listOf (lapAt l) l.length
theorem lapAt_zero {l : List Int} {x : Int} (h : l[0]? = some x) : lapAt l 0 = x := by unfold lapAt; rw [if_pos rfl]; exact getD_of h
theorem lapAt_succ {l : List Int} {k : Nat} {x y : Int} (hk : 0 < k) (h : l[k]? = some x) (h' : l[k - 1]? = some y) : lapAt l k = if x ≠ 0 ∧ y ≠ 0 then x - y else 0 := by
  unfold lapAt; rw [if_neg (by omega), getD_of h, getD_of h']

end Go.Proofs.YtcmfgmdkdpadjaaGreatDoor

/- Even and proportional splits: race.Even, Like; the references EvenOf, LikeOf, rising. -/
namespace Go.Proofs.YtcmfgmdkdpadjaaGreatDoor
open Go.RowKit
set_option linter.unusedVariables false

def risingF : List Int → Int → Bool
  | [], _ => true
  | x :: r, last => if x ≤ last then false else risingF r x
theorem rising_at {l : List Int} {k : Nat} {x last : Int} (h : l[k]? = some x) : risingF (l.drop k) last = if x ≤ last then false else risingF (l.drop (k + 1)) x := by rw [drop_at h]; rfl
/-- what a list of splits comes to: itself, or nothing with an error -/
def riseL (l : List Int) : List Int := if risingF l 0 then l else []
def riseE (l : List Int) : Int := if risingF l 0 then 0 else 16
/-- a call that answers with a list of ints and an error -/
def RetLE (B : World) (L : List Int) (E : Int) (e : Ending) (w' : World) : Prop :=
  ∃ A n c, e = .returned (.tuple #[.slice A n c, .int .i64 E]) ∧ RI 3 w' A n L ∧ Below B.heap.size B w'

theorem retLE_t {B w' : World} {A : Option Addr} {n c : Nat} {L : List Int} (hr : RI 3 w' A n L) (hb : Below B.heap.size B w') (h : risingF L 0 = true) : RetLE B (riseL L) (riseE L) (.returned (.tuple #[.slice A n c, .int .i64 0])) w' := by
  unfold riseL riseE; rw [if_pos h, if_pos h]; exact ⟨A, n, c, rfl, hr, hb⟩
theorem retLE_f {B w' : World} {L : List Int} (hb : Below B.heap.size B w') (h : risingF L 0 = false) : RetLE B (riseL L) (riseE L) (.returned (.tuple #[.slice none 0 0, .int .i64 16])) w' := by
  unfold riseL riseE; rw [if_neg (by simp [h]), if_neg (by simp [h])]; exact ⟨none, 0, 0, rfl, R1.nil_ _ _ _ _, hb⟩
theorem retLE_e {B w' : World} (x : Int) (hb : Below B.heap.size B w') : RetLE B [] x (.returned (.tuple #[.slice none 0 0, .int .i64 x])) w' := ⟨none, 0, 0, rfl, R1.nil_ _ _ _ _, hb⟩
def evGo (t N : Int) : Nat → Int → List Int
  | 0, _ => []
  | m + 1, k => (t * k / N) :: evGo t N m (k + 1)
def evenL (t N : Int) : List Int := evGo t N N.toNat 1

theorem mulT_bd {a b : Int} (h0 : 0 ≤ a) (h1 : a ≤ 360000) (h2 : 0 ≤ b) (h3 : b ≤ 360000) : 0 ≤ a * b ∧ a * b ≤ 129600000000 := by
  have := mul_bd h0 h1 h2 h3
  omega

end Go.Proofs.YtcmfgmdkdpadjaaGreatDoor

/- Splits in proportion: race.Like and the reference's LikeOf. -/
namespace Go.Proofs.YtcmfgmdkdpadjaaGreatDoor
open Go.RowKit
set_option linter.unusedVariables false

def likeF (last t : Int) (l : List Int) : List Int := l.map fun x => x * t / last
def likeL (l : List Int) (t : Int) : List Int := likeF (l.getLastD 0) t l
theorem likeF_at {last t : Int} {l : List Int} {k : Nat} {x : Int} (h : l[k]? = some x) : likeF last t (l.drop k) = (x * t / last) :: likeF last t (l.drop (k + 1)) := by rw [drop_at h]; rfl
theorem wholeErr_ok {r : Race} {l : List Int} (h : wholeErr r l = 0) : checkSp r l = 0 ∧ raceErr r = 0 ∧ knownErr r l = 0 ∧ splitsErr r l = 0 ∧ hasB l 0 = false := by
  unfold wholeErr at h
  split at h
  · omega
  · rename_i h0
    have h0' : raceErr r = 0 := by omega
    have hk := h
    unfold knownErr at h
    split at h
    · omega
    · rename_i h1
      refine ⟨checkSp_of h0' (by omega), h0', hk, by omega, ?_⟩
      cases hb : hasB l 0 with
      | false => rfl
      | true => rw [hb] at h; simp at h
theorem last_bd {l : List Int} (hn : 1 ≤ l.length) (h : ∀ x ∈ l, 0 ≤ x ∧ x ≤ 360000) (h1 : l.getLastD 0 ≠ 0) : 1 ≤ l.getLastD 0 ∧ l.getLastD 0 ≤ 360000 := by
  have := h _ (mem_of_at (last_at (n := l.length) rfl (by omega)))
  omega

end Go.Proofs.YtcmfgmdkdpadjaaGreatDoor
