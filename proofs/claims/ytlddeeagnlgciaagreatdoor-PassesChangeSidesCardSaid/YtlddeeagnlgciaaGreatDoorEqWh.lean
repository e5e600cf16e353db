/- api.Where as data; slices.Equal over it. -/
import Derived.Test.YtlddeeagnlgciaaGreatDoorProg
import Derived.Test.YtlddeeagnlgciaaGreatDoorWhereA
import Derived.BigGuardPart
import Derived.Laws.StructEq
namespace Go.Proofs.YtlddeeagnlgciaaGreatDoor
open Go.RowKit
set_option linter.unusedVariables false

theorem str_neWh {a b : ByteArray} (h : a ≠ b) : (a.toList == b.toList) = false := by
  rw [beq_eq_false_iff_ne, ByteArray.toList_eq, ByteArray.toList_eq]
  intro e
  exact h (by cases a; cases b; congr 1; exact Array.toList_inj.mp e)
theorem RWh.atN {w : World} {A : Option Addr} {n : Nat} {l : List Wh} (h : RWh w A n l) {k : Nat} (hk : k < n) : ∃ b off x, A = some ⟨b, off, none⟩ ∧ b < w.heap.size ∧ l[k]? = some x ∧ w.cell? ⟨b, off + k * 3, none⟩ = some (.string x.who) ∧ w.cell? ⟨b, off + k * 3 + 1, none⟩ = some (.int .i64 x.num) ∧ w.cell? ⟨b, off + k * 3 + 2, none⟩ = some (.int .i64 x.den) := by
  obtain ⟨b, off, x, hA, hb, hx, hc⟩ := h.at_ hk
  exact ⟨b, off, x, hA, hb, hx, hc 0 _ rfl, hc 1 _ rfl, hc 2 _ rfl⟩
theorem shelf1 {e : TypeId} {w : World} {A : Option Addr} {n : Nat} {l : List ByteArray} (h : RS e w A n l) (hp : 0 < n) : ∃ b off, A = some ⟨b, off, none⟩ ∧ ∀ j, j < l.length → w.cell? ⟨b, off + j, none⟩ = some (.string (l.getD j ⟨#[]⟩)) := by
  obtain ⟨b, off, cs, fz, hA, hb, hc⟩ := h.2.2 hp
  refine ⟨b, off, hA, fun j hj => ?_⟩
  have hx : l[j]? = some (l.getD j ⟨#[]⟩) := by rw [List.getD_eq_getElem?_getD, List.getElem?_eq_getElem hj]; rfl
  rw [cell_of_row w b _ cs e fz hb]
  exact hc j _ hx
/-- slices.Equal of two rows of the same strings -/
theorem equalS_c (A1 A2 : Option Addr) (n c m d : Nat) (l : List ByteArray) (w : World) (h1 : RS 9 w A1 n l) (h2 : RS 9 w A2 m l) :
    Calls Tryz.prog 64 #[.slice A1 n c, .slice A2 m d] w fun e w' => e = .returned (.bool true) ∧ ∃ q, w' = w.drewN q := by
  have hl1 := h1.len
  have hb1 := h1.bd
  have hl2 := h2.len
  obtain rfl : n = m := by omega
  rcases Nat.eq_zero_or_pos n with h0 | hp
  · subst h0
    exact (Tryz.slices_Equal_string_empty A1 A2 c 0 d w (by omega)).mono fun _ _ ⟨he, hw⟩ => ⟨he, 0, hw⟩
  · obtain ⟨b1, o1, rfl, hc1⟩ := shelf1 h1 hp
    obtain ⟨b2, o2, rfl, hc2⟩ := shelf1 h2 hp
    refine (Tryz.slices_Equal_string b1 o1 n c b2 o2 n d l l w (by omega) (by omega) (by omega) (by omega) hc1 hc2).mono fun _ _ ⟨he, q, hw⟩ => ⟨?_, q, hw⟩
    rw [he, decide_eq_true rfl]
end Go.Proofs.YtlddeeagnlgciaaGreatDoor
