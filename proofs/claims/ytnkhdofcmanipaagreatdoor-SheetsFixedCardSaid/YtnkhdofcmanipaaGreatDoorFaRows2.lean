import Derived.Test.YtnkhdofcmanipaaGreatDoorProg
import Derived.Test.YtnkhdofcmanipaaGreatDoorShelf
import Derived.Test.YtnkhdofcmanipaaGreatDoorFaStructs
import Derived.Lib.AppendIntMem
import Derived.Lib.LaidTab
import Derived.BigGuardPart
import Derived.Laws.StructEq
/- strconv.Itoa, the table that it reads carried along. -/
namespace Go.Proofs.YtnkhdofcmanipaaGreatDoor
open Go.RowKit
set_option linter.unusedVariables false

/-- the library's table of powers of ten reads as it was laid -/
def Tb (w : World) : Prop := Lib.TabIs Tryz.prog w "internal/strconv.uint64pow10" .u64 Lib.pow10Tab
theorem Tb.below {w w' : World} (h : Tb w) (hb : Below w.heap.size w w') : Tb w' := Lib.tabBelow_of_tabIs h w' hb
theorem Tb.alloc {w : World} (h : Tb w) (o : Obj) : Tb (w.alloc o) := h.below (below_new w o)
theorem Tb.drewN {w : World} (h : Tb w) (n : Nat) : Tb (w.drewN n) := h.below (below_drewN (Below.refl _ _) n)
theorem Tb.drew {w : World} (h : Tb w) : Tb w.drew := h.drewN 1
def itoaS (n : Int) : ByteArray := ⟨(Lib.itoa n).toArray⟩
theorem itoa_c (n : Int) (w : World) (h : Tb w) (h0 : -9223372036854775808 ≤ n) (h1 : n ≤ 9223372036854775807) :
    Calls Tryz.prog 44 #[.int .i64 n] w fun e w' => e = .returned (.string (itoaS n)) ∧ Below w.heap.size w w' :=
  (Tryz.strconv_Itoa n h0 h1 w h).mono fun e w' ⟨he, k, os, hw⟩ => ⟨he, by rw [hw]; exact Lib.below_grow _ _ (Nat.le_refl _) k os⟩
end Go.Proofs.YtnkhdofcmanipaaGreatDoor

/- api.Pair as data; slices.Equal over it. -/
namespace Go.Proofs.YtnkhdofcmanipaaGreatDoor
open Go.RowKit
set_option linter.unusedVariables false

structure Pr where
  name : ByteArray
  value : ByteArray
deriving DecidableEq
end Go.Proofs.YtnkhdofcmanipaaGreatDoor

/- Rows of structs: one field turned; what a write into a row leaves. Over any program. -/
namespace Go.Proofs.YtnkhdofcmanipaaGreatDoor
open Go.RowKit
set_option linter.unusedVariables false

theorem flat_set {α : Type} {enc : α → List Value} {size : Nat} (hs : ∀ x, (enc x).length = size) : ∀ (l : List α) (k : Nat) (x x' : α) (q : Nat) (v : Value), l[k]? = some x → q < size → enc x' = (enc x).set q v → (l.flatMap enc).set (k * size + q) v = (l.set k x').flatMap enc
  | [], _, _, _, _, _, h, _, _ => by simp at h
  | y :: l, 0, x, x', q, v, h, hq, he => by
    obtain rfl : y = x := by simpa using h
    rw [List.set_cons_zero, List.flatMap_cons, List.flatMap_cons, Nat.zero_mul, Nat.zero_add, List.set_append_left _ _ (by rw [hs]; exact hq), he]
  | y :: l, k + 1, x, x', q, v, h, hq, he => by
    rw [List.set_cons_succ, List.flatMap_cons, List.flatMap_cons, ← flat_set hs l k x x' q v (by simpa using h) hq he, List.set_append_right _ _ (by rw [hs, Nat.succ_mul]; omega)]
    congr 2
    rw [hs, Nat.succ_mul]; omega
/-- what a write into a row of the call's own leaves: every block of another element type -/
theorem keep_row {w w' : World} {base : Nat} {e : TypeId} {size n : Nat} {v : Value} {xs : List Value} (hown : w.ownsRow base e size v n xs) (hg : w.grownBy w' v.ownBlock) : Keep e w w' := fun b cs t fz hne hb => blk_grown hb hg (fun he => by
  rcases hown.2 with ⟨rfl, _⟩ | ⟨g', cap, cur, rfl, _, hh, _⟩
  · simp [Value.ownBlock] at he
  · have e1 : b = g' := by simpa [Value.ownBlock] using he
    subst e1
    rw [hb] at hh
    injection hh with hh
    injection hh with _ ht
    exact hne ht)
theorem rep_false (n j : Nat) : (Array.replicate n false).getD j false = false := by
  rw [Array.getD_eq_getD_getElem?, Array.getElem?_replicate]; split <;> rfl
end Go.Proofs.YtnkhdofcmanipaaGreatDoor
