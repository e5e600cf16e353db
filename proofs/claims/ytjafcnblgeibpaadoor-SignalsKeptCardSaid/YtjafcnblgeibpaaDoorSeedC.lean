/- Seeds as data; heat.CheckSeeds. -/
import Derived.Test.YtjafcnblgeibpaaDoorReady4
import Derived.Test.YtjafcnblgeibpaaDoorKeys
import Derived.Maps.Views
import Derived.BigGuardPart
namespace Go.Proofs.YtjafcnblgeibpaaDoor
open Go.RowKit
open Go.Maps (Keyed string_keyed)
open Go.WideMaps (keyOf_string_mk)
set_option linter.unusedVariables false

structure Sd where
  who : ByteArray
  time : Int
deriving DecidableEq
def sdE (x : Sd) : List Value := [.string x.who, .int .i64 x.time]
theorem sdE_len : ∀ x, (sdE x).length = 2 := fun _ => rfl
def seenB (s : ByteArray) (seen : List ByteArray) : Bool := seen.any fun t => decide (t = s)
/-- names, one after the other: a wrong one, a wrong time, one twice -/
def seedGo : List ByteArray → Bool → List Sd → Int
  | _, tw, [] => if tw then 6 else 0
  | seen, tw, x :: l => if keyB x.who = false then 5 else if ¬ (0 ≤ x.time ∧ x.time ≤ 360000) then 1 else seedGo (x.who :: seen) (tw || seenB x.who seen) l
def seedErr (l : List Sd) : Int := if 300 < l.length then 2 else seedGo [] false l
theorem seedGo_at {l : List Sd} {k : Nat} {x : Sd} (seen : List ByteArray) (tw : Bool) (h : l[k]? = some x) : seedGo seen tw (l.drop k) = if keyB x.who = false then 5 else if ¬ (0 ≤ x.time ∧ x.time ≤ 360000) then 1 else seedGo (x.who :: seen) (tw || seenB x.who seen) (l.drop (k + 1)) := by rw [drop_at h]; rfl
theorem key_small {s : ByteArray} (h : keyB s = true) : 1 ≤ s.size ∧ s.size ≤ 40 := by
  unfold keyB at h
  simp only [Bool.and_eq_true, decide_eq_true_eq] at h
  exact h.1.1
/-- a map of booleans that tells which names were seen -/
def SeenM (D : DataW Unit) (seen : List ByteArray) : Prop := Go.Maps.IsMap D ∧ ∀ s : ByteArray, D.atKey (.string s.data.toList) (.lit (.bool false)) = .lit (.bool (seenB s seen))
theorem SeenM.nil : SeenM (.map []) [] := ⟨Go.Maps.isMap_empty, fun s => by rw [atKey_nil]; rfl⟩
theorem bytes_inj {a b : ByteArray} (h : a.data.toList = b.data.toList) : a = b := by cases a; cases b; congr 1; exact Array.toList_inj.mp h
theorem SeenM.put {D : DataW Unit} {seen : List ByteArray} (h : SeenM D seen) (s : ByteArray) : SeenM (D.put (.string s.data.toList) (.lit (.bool true))) (s :: seen) := by
  refine ⟨h.1.put _ _, fun t => ?_⟩
  by_cases e : t = s
  · subst e
    rw [Go.Maps.atKey_put_same h.1 (by trivial)]
    simp [seenB]
  · rw [Go.Maps.atKey_put_other (by intro e2; injection e2 with e2; exact e (bytes_inj e2)), h.2 t]
    simp [seenB, Ne.symm e]
end Go.Proofs.YtjafcnblgeibpaaDoor
