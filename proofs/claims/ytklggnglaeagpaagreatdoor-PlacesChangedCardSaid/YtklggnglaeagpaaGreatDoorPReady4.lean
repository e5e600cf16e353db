import Derived.Test.YtklggnglaeagpaaGreatDoorPSplits
import Derived.Test.YtklggnglaeagpaaGreatDoorPFill
import Derived.Test.YtklggnglaeagpaaGreatDoorPStructs
import Derived.Test.YtklggnglaeagpaaGreatDoorProg
import Derived.Maps.OwnOps
import Derived.Maps.OwnSet
/- What the statements of tumbkeep end with: heat.Lanes of a small pool. -/
namespace Go.Proofs.YtklggnglaeagpaaGreatDoor
open Go.RowKit
set_option linter.unusedVariables false

theorem own_lit (w : World) (base : Nat) (e : TypeId) (vs : Array Value) (n : Nat) (hn : vs.size = n) (hb : base ≤ w.heap.size) (hm : n ≤ maxLen) : (w.alloc (.cells vs e)).ownsRow base e 1 (.slice (some ⟨w.heap.size, 0, none⟩) n n) n vs.toList := by
  subst hn
  exact ⟨by simp, .inr ⟨w.heap.size, vs.size, vs, rfl, hb, heap_alloc_new w _, Nat.le_refl _, hm, by simp, by rw [Nat.mul_one]; exact List.take_of_length_le (by simp)⟩⟩

end Go.Proofs.YtklggnglaeagpaaGreatDoor

/- What the statements of tumbkeep end with: pad.Right of one clock. -/
namespace Go.Proofs.YtklggnglaeagpaaGreatDoor
open Go.RowKit
set_option linter.unusedVariables false

end Go.Proofs.YtklggnglaeagpaaGreatDoor

/- Maps of the call's own, keyed by strings. -/
namespace Go.Proofs.YtklggnglaeagpaaGreatDoor
open Go.RowKit
open Go.Maps (Keyed string_keyed)
open Go.MapKept Go.ChangeMaps
open Go.WideMaps (keyOf_string_mk)
set_option linter.unusedVariables false

abbrev MB (w : World) (b n : Nat) (D : DataW Unit) : Prop := w.ownsMap Tryz.prog 9 (plainElem Tryz.prog 4) b n D
abbrev MI (w : World) (b n : Nat) (D : DataW Unit) : Prop := w.ownsMap Tryz.prog 9 (plainElem Tryz.prog 3) b n D
theorem plainElem_bool_inv {P : Program} {e : TypeId} (he : P.underlying e = some .bool) {v : Value} {z : DataW Unit × List MemPlace} (h : plainElem P e v = some z) : ∃ a, v = .bool a ∧ z = (.lit (.bool a), []) := by
  unfold plainElem at h
  rw [he] at h
  cases v <;> simp at h
  subst h
  exact ⟨_, rfl, rfl⟩
theorem mb_lookup {w : World} {b n : Nat} {D : DataW Unit} (h : MB w b n D) (s : ByteArray) (hs : s.size ≤ maxLen) : ∃ v : Bool, (Instr.lookup 250 (.map (some b)) (.string s) false).run Tryz.prog w = .ok (.bool v) w ∧ D.atKey (.string s.data.toList) (.lit (.bool false)) = .lit (.bool v) := by
  obtain ⟨v, ps, hrun, hv⟩ := h.lookup (string_keyed Tryz.underlying9) Tryz.underlying250 (Tryz.zeroValue4 w) (plainElem_bool Tryz.underlying4 false) (keyOf_string_mk Tryz.underlying9 hs)
  obtain ⟨a, rfl, e⟩ := plainElem_bool_inv Tryz.underlying4 hv
  injection e with e1 e2
  exact ⟨a, hrun, e1⟩
theorem mb_new (w : World) : MB (w.alloc (.map #[] 0)) w.heap.size 0 (.map []) := World.ownsMap_made w _ _ _
end Go.Proofs.YtklggnglaeagpaaGreatDoor

/- What the statements of tumbkeep end with: judge.Rank of one time. -/
namespace Go.Proofs.YtklggnglaeagpaaGreatDoor
open Go.RowKit
open Go.Maps (Keyed string_keyed)
open Go.WideMaps (keyOf_string_mk)
set_option linter.unusedVariables false

theorem atKey_nil (k : Lit) (d : DataW Unit) : (DataW.map ([] : List (Lit × DataW Unit))).atKey k d = d := by simp [DataW.atKey]
end Go.Proofs.YtklggnglaeagpaaGreatDoor

/- What the statements of tumbkeep end with: judge.Rank of one time. -/
namespace Go.Proofs.YtklggnglaeagpaaGreatDoor
open Go.RowKit
open Go.Maps (Keyed string_keyed)
open Go.WideMaps (keyOf_string_mk)
set_option linter.unusedVariables false

theorem own_someN {w : World} {base : Nat} {e : TypeId} {size : Nat} {A : Option Addr} {n c : Nat} {xs : List Value} (h : w.ownsRow base e size (.slice A n c) n xs) (hn : 0 < n) : ∃ b, A = some ⟨b, 0, none⟩ ∧ base ≤ b := by
  rcases h.2 with ⟨e1, rfl⟩ | ⟨g, cap, cur, hv, hb, hg, hnc, hcm, hcs, ht⟩
  · omega
  · injection hv with e1 e2 e3; exact ⟨g, e1, hb⟩
theorem own_capN {w : World} {base : Nat} {e : TypeId} {size : Nat} {A : Option Addr} {n c : Nat} {xs : List Value} (h : w.ownsRow base e size (.slice A n c) n xs) : n ≤ c := by
  rcases h.2 with ⟨e1, rfl⟩ | ⟨g, cap, cur, hv, hb, hg, hnc, hcm, hcs, ht⟩
  · omega
  · injection hv with e1 e2 e3; omega
end Go.Proofs.YtklggnglaeagpaaGreatDoor
