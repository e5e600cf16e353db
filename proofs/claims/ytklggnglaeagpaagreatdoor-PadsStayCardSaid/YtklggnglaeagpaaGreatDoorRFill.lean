import Derived.Test.YtklggnglaeagpaaGreatDoorShelf
import Derived.Test.YtklggnglaeagpaaGreatDoorRStructs
import Derived.BigGuardPart
import Derived.Test.YtklggnglaeagpaaGreatDoorRLens
import Derived.Test.YtklggnglaeagpaaGreatDoorRClock
/- Library functions on slices of ints, in this family's words: Contains, Equal, Clone; cmp.Or. -/
namespace Go.Proofs.YtklggnglaeagpaaGreatDoor
open Go.RowKit
set_option linter.unusedVariables false

theorem RI.shelf {e : TypeId} {w : World} {A : Option Addr} {n : Nat} {l : List Int} (h : RI e w A n l) (hn : 0 < n) :
    ∃ b off, A = some ⟨b, off, none⟩ ∧ b < w.heap.size ∧ ∀ j, j < l.length → w.cell? ⟨b, off + j, none⟩ = some (.int .i64 (l.getD j 0)) := by
  obtain ⟨b, off, cs, fz, ha, hb, hc⟩ := h.2.2 hn
  refine ⟨b, off, ha, lt_of_heap hb, fun j hj => ?_⟩
  rw [cell_of_row w b _ cs e fz hb, hc j _ (List.getElem?_eq_getElem hj), List.getD_eq_getElem?_getD, List.getElem?_eq_getElem hj]
  rfl
def eqB (a b : List Int) : Bool := a == b
theorem equal_c (A1 A2 : Option Addr) (n c m d : Nat) (l1 l2 : List Int) (w : World) (h1 : RI 3 w A1 n l1) (h2 : RI 3 w A2 m l2) :
    Calls Tryz.prog 38 #[.slice A1 n c, .slice A2 m d] w fun e w' => e = .returned (.bool (eqB l1 l2)) ∧ Below w.heap.size w w' := by
  have hl1 := h1.len
  have hb1 := h1.bd
  have hl2 := h2.len
  have hb2 := h2.bd
  by_cases hnm : n = m
  · subst hnm
    rcases Nat.eq_zero_or_pos n with h0 | hp
    · subst h0
      obtain rfl : l1 = [] := List.eq_nil_of_length_eq_zero hl1
      obtain rfl : l2 = [] := List.eq_nil_of_length_eq_zero hl2
      exact (Tryz.slices_Equal_int_empty A1 A2 c 0 d w (by omega)).mono fun _ _ ⟨he, hw⟩ => ⟨he, by rw [hw]; exact Below.refl _ _⟩
    · obtain ⟨b1, o1, rfl, _, hc1⟩ := h1.shelf hp
      obtain ⟨b2, o2, rfl, _, hc2⟩ := h2.shelf hp
      refine (Tryz.slices_Equal_int b1 o1 n c b2 o2 n d l1 l2 w (by omega) (by omega) (by omega) (by omega) hc1 hc2).mono fun _ _ ⟨he, q, hw⟩ => ⟨?_, by rw [hw]; exact below_drewN (Below.refl _ _) q⟩
      rw [he, List.take_of_length_le (by omega), List.take_of_length_le (by omega)]; rfl
  · refine (Tryz.slices_Equal_int_lens A1 A2 n c m d w hnm).mono fun _ _ ⟨he, hw⟩ => ⟨?_, by rw [hw]; exact Below.refl _ _⟩
    rw [he]
    congr 2
    symm
    unfold eqB
    rw [beq_eq_false_iff_ne]
    rintro rfl
    omega
def orV : List Int → Int
  | [] => 0
  | x :: r => if x ≠ 0 then x else orV r
theorem orV_at {l : List Int} {k : Nat} {x : Int} (h : l[k]? = some x) : orV (l.drop k) = if x ≠ 0 then x else orV (l.drop (k + 1)) := by rw [drop_at h]; rfl
end Go.Proofs.YtklggnglaeagpaaGreatDoor

/- The errors of splits: the program's and the reference's. -/
namespace Go.Proofs.YtklggnglaeagpaaGreatDoor
open Go.RowKit
set_option linter.unusedVariables false

end Go.Proofs.YtklggnglaeagpaaGreatDoor

/- The errors of splits by the reference; whole splits. -/
namespace Go.Proofs.YtklggnglaeagpaaGreatDoor
open Go.RowKit
set_option linter.unusedVariables false

end Go.Proofs.YtklggnglaeagpaaGreatDoor

/- Plain lemmas: a list that is filled in order; bounds of right splits. -/
namespace Go.Proofs.YtklggnglaeagpaaGreatDoor
open Go.RowKit
set_option linter.unusedVariables false

end Go.Proofs.YtklggnglaeagpaaGreatDoor
