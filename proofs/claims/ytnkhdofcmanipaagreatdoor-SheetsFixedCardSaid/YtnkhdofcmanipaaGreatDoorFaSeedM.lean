import Derived.Test.YtnkhdofcmanipaaGreatDoorFaReady4
import Derived.Test.YtnkhdofcmanipaaGreatDoorFaLens
import Derived.Maps.Views
import Derived.BigGuardPart
import Derived.Test.YtnkhdofcmanipaaGreatDoorShelf
import Derived.Sort.OwnSorted
import Derived.Sort.KeysCollected
import Derived.Test.YtnkhdofcmanipaaGreatDoorFaDraws
import Derived.Test.YtnkhdofcmanipaaGreatDoorFaRows2
import Derived.BigRegion
import Derived.Lib.ItoaLen
/- Seeds as data; heat.CheckSeeds. -/
namespace Go.Proofs.YtnkhdofcmanipaaGreatDoor
open Go.RowKit
open Go.Maps (Keyed string_keyed)
open Go.WideMaps (keyOf_string_mk)
set_option linter.unusedVariables false

structure Sd where
  who : ByteArray
  time : Int
deriving DecidableEq
def seenB (s : ByteArray) (seen : List ByteArray) : Bool := seen.any fun t => decide (t = s)
theorem key_small {s : ByteArray} (h : keyB s = true) : 1 ≤ s.size ∧ s.size ≤ 40 := by
  unfold keyB at h
  simp only [Bool.and_eq_true, decide_eq_true_eq] at h
  exact h.1.1
/-- a map of booleans that tells which names were seen -/
def SeenM (D : DataW Unit) (seen : List ByteArray) : Prop := Go.Maps.IsMap D ∧ ∀ s : ByteArray, D.atKey (.string s.data.toList) (.lit (.bool false)) = .lit (.bool (seenB s seen))
theorem SeenM.nil : SeenM (.map []) [] := ⟨Go.Maps.isMap_empty, fun s => by rw [atKey_nil]; rfl⟩
theorem bytes_inj {a b : ByteArray} (h : a.data.toList = b.data.toList) : a = b := by cases a; cases b; congr 1; exact Array.toList_inj.mp h
theorem SeenM.put {D : DataW Unit} {seen : List ByteArray} (h : SeenM D seen) (s : ByteArray) : SeenM (D.put (.string s.data.toList) (.lit (.bool true))) (s :: seen) := by
  refine ⟨h.1.put _ _, fun t => ?_⟩
  by_cases e : t = s
  · subst e
    rw [Go.Maps.atKey_put_same h.1 (by trivial)]
    simp [seenB]
  · rw [Go.Maps.atKey_put_other (by intro e2; injection e2 with e2; exact e (bytes_inj e2)), h.2 t]
    simp [seenB, Ne.symm e]
end Go.Proofs.YtnkhdofcmanipaaGreatDoor

/- The reference's once and twice; R.SeedsFault. -/
namespace Go.Proofs.YtnkhdofcmanipaaGreatDoor
open Go.RowKit Go.Lib Go.Sort
set_option linter.unusedVariables false

/-! ## R.SeedsFault -/
end Go.Proofs.YtnkhdofcmanipaaGreatDoor

/- The stream's seeds: Order, Seeds, RightSeeds. -/
namespace Go.Proofs.YtnkhdofcmanipaaGreatDoor
open Go.RowKit
set_option linter.unusedVariables false

/-- what stands in a row, all below a number -/
def AllIn (N : Nat) (l : List Int) : Prop := ∀ x ∈ l, 0 ≤ x ∧ x < N
theorem AllIn.set {N : Nat} {l : List Int} (h : AllIn N l) {i : Nat} {x : Int} (hx : 0 ≤ x ∧ x < N) : AllIn N (l.set i x) := fun y hy => by
  rcases List.mem_or_eq_of_mem_set hy with h1 | h1
  · exact h y h1
  · subst h1; exact hx
end Go.Proofs.YtnkhdofcmanipaaGreatDoor
