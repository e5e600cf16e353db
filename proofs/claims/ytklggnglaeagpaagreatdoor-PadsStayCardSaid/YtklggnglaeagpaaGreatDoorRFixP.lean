/- Sheets that are put right by fixes: plain. -/
import Derived.Test.YtklggnglaeagpaaGreatDoorRFxB
import Derived.Test.YtklggnglaeagpaaGreatDoorRSheetP
namespace Go.Proofs.YtklggnglaeagpaaGreatDoor
open Go.Lib Go.Sort
set_option linter.unusedVariables false

def lpPut (le tm : Int) (p : LP.Lp) : LP.Lp := if p.length = le then ⟨p.length, tm, false⟩ else p
/-- what a fix that counts makes of a sheet -/
def putV (x : Fx) (s : Shd) : Shd :=
  if x.tm = 0 then s else if x.le = 0 then ⟨s.lane, s.laps, x.tm, 4⟩ else ⟨s.lane, s.laps.map (lpPut x.le x.tm), s.time, s.by_⟩
theorem putV_t0 {x : Fx} (h : x.tm = 0) (s : Shd) : putV x s = s := if_pos h
theorem putV_sw {x : Fx} (h : ¬ x.tm = 0) (h1 : x.le = 0) (s : Shd) : putV x s = ⟨s.lane, s.laps, x.tm, 4⟩ := by unfold putV; rw [if_neg h, if_pos h1]
theorem putV_lp {x : Fx} (h : ¬ x.tm = 0) (h1 : ¬ x.le = 0) (s : Shd) : putV x s = ⟨s.lane, s.laps.map (lpPut x.le x.tm), s.time, s.by_⟩ := by unfold putV; rw [if_neg h, if_neg h1]
def putsV (l : List Fx) (s : Shd) : Shd := l.foldl (fun s x => putV x s) s
theorem putV_lane (x : Fx) (s : Shd) : (putV x s).lane = s.lane := by unfold putV; split; rfl; split <;> rfl
/-- the same place -/
def samePl (x y : Fx) : Bool := decide (x.rc = y.rc) && (decide (x.ht = y.ht) && (decide (x.ln = y.ln) && decide (x.le = y.le)))
/-- no later version of the same place -/
def lastF (o : Option Fx) (x : Fx) : Bool := match o with
  | none => true
  | some y => !samePl y x
def hitF (key : ByteArray) (heat lane : Int) (o : Option Fx) (x : Fx) : Bool := lastF o x && (decide (x.rc = key) && (decide (x.ht = heat) && decide (x.ln = lane)))
/-- the fixes that count for a lane -/
def actF (key : ByteArray) (heat lane : Int) : List Fx → List Fx
  | [] => []
  | x :: r => if hitF key heat lane r.head? x = true then x :: actF key heat lane r else actF key heat lane r
theorem actF_cons (key : ByteArray) (heat lane : Int) (x : Fx) (r : List Fx) : actF key heat lane (x :: r) = if hitF key heat lane r.head? x = true then x :: actF key heat lane r else actF key heat lane r := rfl
/-- step by step, as the program goes -/
theorem act_step {key : ByteArray} {heat lane : Int} {l : List Fx} {k : Nat} {x : Fx} (h : l[k]? = some x) (s : Shd) :
    putsV (actF key heat lane (l.drop k)) s = putsV (actF key heat lane (l.drop (k + 1))) (if hitF key heat lane l[k + 1]? x = true then putV x s else s) := by
  rw [drop_at h]
  have e : (l.drop (k + 1)).head? = l[k + 1]? := by rw [List.head?_drop]
  rw [actF_cons, e]
  split <;> rfl
/-- the errors of sheets, and what becomes of them -/
def shtErr : Option Int → List Shd → Int
  | _, [] => 0
  | o, s :: r => if ¬ (1 ≤ s.lane ∧ s.lane ≤ 10) then 1 else if (match o with | some p => decide (s.lane ≤ p) | none => false) = true then 7 else shtErr (some s.lane) r
def fixdErr (r : Race) (f : List Fx) (heat : Int) (S : List Shd) : Int :=
  if raceErr r ≠ 0 then raceErr r else if fxErr f ≠ 0 then fxErr f else if ¬ (1 ≤ heat ∧ heat ≤ 60) then 1 else if 10 < S.length then 2 else shtErr none S
def fixdL (r : Race) (f : List Fx) (heat : Int) (S : List Shd) : List Shd := S.map fun s => putsV (actF r.key heat s.lane f) s
end Go.Proofs.YtklggnglaeagpaaGreatDoor
