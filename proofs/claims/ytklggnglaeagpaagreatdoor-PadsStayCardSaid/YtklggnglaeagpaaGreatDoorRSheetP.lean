import Derived.Test.YtklggnglaeagpaaGreatDoorProg
import Derived.Test.YtklggnglaeagpaaGreatDoorRStructs
import Derived.BigGuardPart
import Derived.Laws.StructEq
import Derived.Test.YtklggnglaeagpaaGreatDoorRLapK
/- api.Swum as data; slices.Equal over it. -/
namespace Go.Proofs.YtklggnglaeagpaaGreatDoor
open Go.RowKit
set_option linter.unusedVariables false

structure Sm where
  time : Int
  by_ : Int
deriving DecidableEq
end Go.Proofs.YtklggnglaeagpaaGreatDoor
/- Sheets as data; tumbref1.SameSheet; slices.EqualFunc over sheets. -/
namespace Go.Proofs.YtklggnglaeagpaaGreatDoor
open Go.RowKit Go.Shelf Go.Lib Go.Sort
set_option linter.unusedVariables false

/-- a sheet; its laps lie at A -/
structure Shc where
  lane : Int
  A : Option Addr
  n : Nat
  c : Nat
  laps : List LP.Lp
  time : Int
  by_ : Int
structure Shd where
  lane : Int
  laps : List LP.Lp
  time : Int
  by_ : Int
deriving DecidableEq
def Shc.dat (x : Shc) : Shd := ⟨x.lane, x.laps, x.time, x.by_⟩
def shE (x : Shc) : List Value := [.int .i64 x.lane, .slice x.A x.n x.c, .int .i64 x.time, .int .i64 x.by_]
theorem shE_len : ∀ x, (shE x).length = 4 := fun _ => rfl
def RSh (w : World) (A : Option Addr) (n : Nat) (l : List Shc) : Prop := RN 4 shE 65 w A n l ∧ ∀ x ∈ l, RLp w x.A x.n x.laps
section
variable {w w' : World} {A : Option Addr} {n : Nat} {l : List Shc}
theorem RSh.len (h : RSh w A n l) : l.length = n := h.1.len
theorem RSh.below (h : RSh w A n l) (hb : Below w.heap.size w w') : RSh w' A n l := ⟨h.1.below hb, fun x hx => (h.2 x hx).below hb⟩
theorem RSh.nil_ (w : World) : RSh w none 0 [] := ⟨RN.nil_ _ _ _ _ _, fun x hx => by cases hx⟩
theorem RSh.at4 (h : RSh w A n l) {k : Nat} (hk : k < n) : ∃ b off x, A = some ⟨b, off, none⟩ ∧ b < w.heap.size ∧ l[k]? = some x ∧ w.cell? ⟨b, off + k * 4, none⟩ = some (.int .i64 x.lane) ∧ w.cell? ⟨b, off + k * 4 + 1, none⟩ = some (.slice x.A x.n x.c) ∧ w.cell? ⟨b, off + k * 4 + 2, none⟩ = some (.int .i64 x.time) ∧ w.cell? ⟨b, off + k * 4 + 3, none⟩ = some (.int .i64 x.by_) ∧ RLp w x.A x.n x.laps := by
  obtain ⟨b, off, x, hA, hb, hx, hc⟩ := h.1.at_ hk
  exact ⟨b, off, x, hA, hb, hx, hc 0 _ rfl, hc 1 _ rfl, hc 2 _ rfl, hc 3 _ rfl, h.2 x (List.mem_of_getElem? hx)⟩
theorem RSh.keep {T : TypeId} (h : RSh w A n l) (h1 : 65 ≠ T) (h2 : 60 ≠ T) (hk : Keep T w w') : RSh w' A n l := ⟨h.1.keep h1 hk, fun x hx => (h.2 x hx).keep h2 hk⟩
end
end Go.Proofs.YtklggnglaeagpaaGreatDoor
