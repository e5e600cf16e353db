/- Slices of structs (a fixed number of cells an element): what they read as. Plain theorems over any program. -/
import Derived.Test.YtjfppcejcbfngaaDoorBase
import Derived.Test.YtjfppcejcbfngaaDoorApp
namespace Go.Proofs.YtjfppcejcbfngaaDoor
open Go.RowKit
set_option linter.unusedVariables false

/-- The slice value `.slice A n c` (any c) holds the elements l, each `size` cells `enc x`, in a block of element type e. -/
def RN {α : Type} (size : Nat) (enc : α → List Value) (e : TypeId) (w : World) (A : Option Addr) (n : Nat) (l : List α) : Prop :=
  l.length = n ∧ n ≤ 140737488355328 ∧ (0 < n → ∃ b off cs fz, A = some ⟨b, off, none⟩ ∧ w.heap[b]? = some (.cells cs e fz) ∧ ∀ (j : Nat) x, l[j]? = some x → ∀ (i : Nat) v, (enc x)[i]? = some v → cs[off + j * size + i]? = some v)
theorem flat_at {α : Type} {enc : α → List Value} {size : Nat} (hs : ∀ x, (enc x).length = size) : ∀ (l : List α) (j : Nat) (x : α) (i : Nat) (v : Value), l[j]? = some x → (enc x)[i]? = some v → (l.flatMap enc)[j * size + i]? = some v
  | [], _, _, _, _, h, _ => by simp at h
  | y :: l, 0, x, i, v, h, hv => by
    obtain rfl : y = x := by simpa using h
    have hi : i < (enc y).length := (List.getElem?_eq_some_iff.mp hv).1
    rw [List.flatMap_cons, Nat.zero_mul, Nat.zero_add, List.getElem?_append_left hi, hv]
  | y :: l, j + 1, x, i, v, h, hv => by
    have h' : l[j]? = some x := by simpa using h
    rw [List.flatMap_cons, List.getElem?_append_right (by rw [hs, Nat.succ_mul]; omega), hs, show (j + 1) * size + i - size = j * size + i from by rw [Nat.succ_mul]; omega]
    exact flat_at hs l j x i v h' hv
theorem flat_len {α : Type} {enc : α → List Value} {size : Nat} (hs : ∀ x, (enc x).length = size) (l : List α) : (l.flatMap enc).length = l.length * size := by
  induction l with
  | nil => simp
  | cons x l ih => rw [List.flatMap_cons, List.length_append, ih, hs, List.length_cons, Nat.succ_mul]; omega
section
variable {α : Type} {size : Nat} {enc : α → List Value} {e : TypeId} {w w' : World} {A : Option Addr} {n : Nat} {l : List α}
theorem RN.nil_ (size : Nat) (enc : α → List Value) (e : TypeId) (w : World) (A : Option Addr) : RN size enc e w A 0 [] := ⟨rfl, by omega, fun h => absurd h (by omega)⟩
theorem RN.len (h : RN size enc e w A n l) : l.length = n := h.1
theorem RN.bd (h : RN size enc e w A n l) : n ≤ 140737488355328 := h.2.1
theorem RN.keep {T : TypeId} (h : RN size enc e w A n l) (he : e ≠ T) (hk : Keep T w w') : RN size enc e w' A n l :=
  ⟨h.1, h.2.1, fun hn => by
    obtain ⟨b, off, cs, fz, ha, hb, hc⟩ := h.2.2 hn
    exact ⟨b, off, cs, fz, ha, hk b cs e fz he hb, hc⟩⟩
theorem RN.below (h : RN size enc e w A n l) (hb : Below w.heap.size w w') : RN size enc e w' A n l := h.keep (T := e + 1) (Nat.ne_of_lt (Nat.lt_succ_self e)) (Keep.of_below hb)
theorem RN.alloc (h : RN size enc e w A n l) (o : Obj) : RN size enc e (w.alloc o) A n l := h.below ((Below.refl _ _).alloc (Nat.le_refl _) o)
theorem RN.drew (h : RN size enc e w A n l) : RN size enc e w.drew A n l := h
theorem RN.drewN (h : RN size enc e w A n l) (k : Nat) : RN size enc e (w.drewN k) A n l := h
theorem RN.at_ (h : RN size enc e w A n l) {k : Nat} (hk : k < n) : ∃ b off x, A = some ⟨b, off, none⟩ ∧ b < w.heap.size ∧ l[k]? = some x ∧ ∀ (i : Nat) v, (enc x)[i]? = some v → w.cell? ⟨b, off + k * size + i, none⟩ = some v := by
  obtain ⟨b, off, cs, fz, ha, hb, hc⟩ := h.2.2 (by omega)
  obtain ⟨x, hx⟩ := at_of_lt (l := l) (k := k) (by rw [h.1]; exact hk)
  exact ⟨b, off, x, ha, lt_of_heap hb, hx, fun i v hv => by rw [cell_of_row w b _ cs e fz hb]; exact hc k x hx i v hv⟩
theorem RN.of_own {base c : Nat} (hs : ∀ x, (enc x).length = size) (h : w.ownsRow base e size (.slice A n c) n (l.flatMap enc)) (hl : l.length = n) (hn : n ≤ 140737488355328) : RN size enc e w A n l := by
  refine ⟨hl, hn, fun hp => ?_⟩
  rcases h.2 with ⟨_, h0⟩ | ⟨g, cap, cur, hv, _, hg, _, _, _, ht⟩
  · omega
  · injection hv with hA
    subst hA
    refine ⟨g, 0, cur, (0, 0), rfl, hg, fun j x hx i v hv => ?_⟩
    have h2 := flat_at hs l j x i v hx hv
    rw [← ht, List.getElem?_take] at h2
    split at h2
    · simpa using h2
    · cases h2
theorem RN.mem_at (h : RN size enc e w A n l) {k : Nat} {x : α} (hx : l[k]? = some x) : k < n := by
  have := lt_of_at hx; rw [h.1] at this; exact this
end
/-- a block newer than the row that an append writes -/
theorem blk_app {w W W' : World} {base : Nat} {e : TypeId} {size n : Nat} {v : Value} {xs : List Value} {b : Nat} {o : Obj} (hown : w.ownsRow base e size v n xs) (hb : w.heap.size ≤ b) (hblk : W.heap[b]? = some o) (hg : W.grownBy W' v.ownBlock) : W'.heap[b]? = some o :=
  blk_grown hblk hg (fun he => by have := (hown.lt b he.symm).2; omega)
/-- appending one more -/
theorem flat_snoc {α : Type} (enc : α → List Value) (l : List α) (x : α) : l.flatMap enc ++ enc x = (l ++ [x]).flatMap enc := by simp
end Go.Proofs.YtjfppcejcbfngaaDoor
