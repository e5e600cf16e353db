import Derived.Test.YtklggnglaeagpaaGreatDoorRLapE
import Derived.Laws.EntriesVeiled
/- tumbref1.standing: all choices are tried in order. -/
namespace Go.Proofs.YtklggnglaeagpaaGreatDoor
open Go.RowKit Go.Lib
set_option linter.unusedVariables false

/-- two of the variables may turn, nothing else that was there -/
structure FB (p : Nat) (wx w' : World) : Prop where
  os : w'.os = wx.os
  tape : w'.tape = wx.tape
  output : w'.output = wx.output
  size : wx.heap.size ≤ w'.heap.size
  block : ∀ i, i < wx.heap.size → i ≠ p + 1 + 1 + 1 + 1 + 1 → i ≠ p + 1 + 1 + 1 + 1 + 1 + 1 → w'.heap[i]? = wx.heap[i]?
theorem FB.of_below {p : Nat} {wx w' : World} (h : Below wx.heap.size wx w') : FB p wx w' := ⟨h.os, h.tape, h.output, h.size, fun i hi _ _ => h.block i hi⟩
theorem FB.trans {p : Nat} {a b c : World} (h : FB p a b) (k : FB p b c) : FB p a c := ⟨k.os.trans h.os, k.tape.trans h.tape, k.output.trans h.output, Nat.le_trans h.size k.size, fun i hi h1 h2 => (k.block i (Nat.lt_of_lt_of_le hi h.size) h1 h2).trans (h.block i hi h1 h2)⟩
section
variable {w wx w' : World} {p N M m : Nat} {Ae : Option Addr} {ce : Nat} {Ag : Option Addr} {cg : Nat} {last : Int} {best : List Int} {least : Int}
/-- a row that the two variables leave alone -/
theorem FB.row {A : Option Addr} {n : Nat} {l : List Int} (h : RI 3 wx A n l) (hf : FB p wx w') (ha : ∀ b o s, A = some ⟨b, o, s⟩ → p + 8 ≤ b) : RI 3 w' A n l := by
  obtain ⟨h1, h2, h3⟩ := h
  refine ⟨h1, h2, fun hp => ?_⟩
  obtain ⟨b, off, cs, fr, e1, e2, e3⟩ := h3 hp
  refine ⟨b, off, cs, fr, e1, ?_, e3⟩
  have := ha b off none e1
  rw [hf.block b (lt_of_heap e2) (by omega) (by omega)]
  exact e2
end
end Go.Proofs.YtklggnglaeagpaaGreatDoor

/- tumbref1.standing. -/
namespace Go.Proofs.YtklggnglaeagpaaGreatDoor
open Go.RowKit Go.Lib
set_option linter.unusedVariables false

end Go.Proofs.YtklggnglaeagpaaGreatDoor
