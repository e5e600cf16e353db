/- Maps of the call's own, keyed by strings. -/
import Derived.Test.YtjfppcejcbfngaaDoorBase
import Derived.Test.YtjfppcejcbfngaaDoorProg
import Derived.Maps.OwnOps
import Derived.Maps.OwnSet
namespace Go.Proofs.YtjfppcejcbfngaaDoor
open Go.RowKit
open Go.Maps (Keyed string_keyed)
open Go.MapKept Go.ChangeMaps
open Go.WideMaps (keyOf_string_mk)
set_option linter.unusedVariables false

abbrev MB (w : World) (b n : Nat) (D : DataW Unit) : Prop := w.ownsMap Tryd.prog 9 (plainElem Tryd.prog 4) b n D
abbrev MI (w : World) (b n : Nat) (D : DataW Unit) : Prop := w.ownsMap Tryd.prog 9 (plainElem Tryd.prog 3) b n D
theorem plainElem_bool_inv {P : Program} {e : TypeId} (he : P.underlying e = some .bool) {v : Value} {z : DataW Unit × List MemPlace} (h : plainElem P e v = some z) : ∃ a, v = .bool a ∧ z = (.lit (.bool a), []) := by
  unfold plainElem at h
  rw [he] at h
  cases v <;> simp at h
  subst h
  exact ⟨_, rfl, rfl⟩
theorem mb_lookup {w : World} {b n : Nat} {D : DataW Unit} (h : MB w b n D) (s : ByteArray) (hs : s.size ≤ maxLen) : ∃ v : Bool, (Instr.lookup 237 (.map (some b)) (.string s) false).run Tryd.prog w = .ok (.bool v) w ∧ D.atKey (.string s.data.toList) (.lit (.bool false)) = .lit (.bool v) := by
  obtain ⟨v, ps, hrun, hv⟩ := h.lookup (string_keyed Tryd.underlying9) Tryd.underlying237 (Tryd.zeroValue4 w) (plainElem_bool Tryd.underlying4 false) (keyOf_string_mk Tryd.underlying9 hs)
  obtain ⟨a, rfl, e⟩ := plainElem_bool_inv Tryd.underlying4 hv
  injection e with e1 e2
  exact ⟨a, hrun, e1⟩
theorem mi_lookup {w : World} {b n : Nat} {D : DataW Unit} (h : MI w b n D) (s : ByteArray) (hs : s.size ≤ maxLen) : ∃ v : Int, (Instr.lookup 214 (.map (some b)) (.string s) false).run Tryd.prog w = .ok (.int .i64 v) w ∧ D.atKey (.string s.data.toList) (.lit (.int .i64 0)) = .lit (.int .i64 v) := by
  obtain ⟨c, h1, h2, _⟩ := h.lookup_int (string_keyed Tryd.underlying9) Tryd.underlying214 Tryd.underlying3 (Tryd.zeroValue3 w) (keyOf_string_mk Tryd.underlying9 hs)
  exact ⟨c, h1, h2⟩
theorem mb_new (w : World) : MB (w.alloc (.map #[] 0)) w.heap.size 0 (.map []) := World.ownsMap_made w _ _ _
theorem mi_new (w : World) : MI (w.alloc (.map #[] 0)) w.heap.size 0 (.map []) := World.ownsMap_made w _ _ _
end Go.Proofs.YtjfppcejcbfngaaDoor
