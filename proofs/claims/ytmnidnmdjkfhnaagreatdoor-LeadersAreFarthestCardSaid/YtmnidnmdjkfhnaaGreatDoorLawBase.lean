/- What every statement's walk begins with: the stream over the argument. -/
import Derived.Test.YtmnidnmdjkfhnaaGreatDoorStream
namespace Go.Proofs.YtmnidnmdjkfhnaaGreatDoor
open Go.RowKit
set_option linter.unusedVariables false

/-- WHAT THE WALK IS TOLD OF A SLICE OF INTEGERS THAT CAME IN: it is nil; or it leads to a row of 'cap' cells, the numbers 'zs' (the first 'len' are its elements, the rest its spare room), each fitting its kind. -/
def IsRow (k : IntKind) (w : World) (a : Option Addr) (len cap : Nat) (zs : List Int) : Prop :=
  (a = none ∧ len = 0 ∧ cap = 0 ∧ zs = []) ∨
  ∃ x, a = some x ∧ len ≤ cap ∧ cap ≤ maxLen ∧ zs.length = cap ∧ (∀ i, i < zs.length → w.cell? (x.add i) = some (.int k (zs.getD i 0))) ∧ ∀ n ∈ zs, (Lit.int k n).wf = true

theorem wf_i64_bd {x : Int} (h : (Lit.int .i64 x).wf = true) : -9223372036854775808 ≤ x ∧ x ≤ 9223372036854775807 := by
  simpa [Lit.wf, IntKind.min, IntKind.max, IntKind.signed, IntKind.bits] using h

theorem law_start {w : World} {a : Option Addr} {len cap : Nat} {zs : List Int} (h : IsRow .i64 w a len cap zs) :
    St (w.alloc (.cells #[.slice a len cap, .int .i64 0] 25)) w.heap.size (zs.take len) 0 := by
  rcases h with ⟨rfl, rfl, rfl, rfl⟩ | ⟨x, rfl, hl, hm, hz, hc, hw⟩
  · exact ⟨none, 0, 0, heap_alloc_new w _, rfl, by omega, fun j x h => by simp at h, fun h => absurd h (by omega)⟩
  · have hat : ∀ (j : Nat) y, (zs.take len)[j]? = some y → j < len ∧ zs[j]? = some y := by
      intro j y h
      rw [List.getElem?_take] at h
      split at h
      · exact ⟨by assumption, h⟩
      · cases h
    refine ⟨some x, len, cap, heap_alloc_new w _, by simp; omega, by unfold maxLen at hm; omega, fun j y h => ?_, fun h0 => ⟨x, rfl, ?_, fun j y h => ?_⟩⟩
    · obtain ⟨_, h2⟩ := hat j y h
      exact wf_i64_bd (hw y (List.mem_of_getElem? h2))
    · have := World.block_lt_of_cell? w _ (hc 0 (by omega))
      rwa [block_add] at this
    · obtain ⟨h1, h2⟩ := hat j y h
      have h3 := hc j (by omega)
      have h4 : zs.getD j 0 = y := by rw [List.getD_eq_getElem?_getD, h2]; rfl
      rw [h4] at h3
      have hlt := World.block_lt_of_cell? w _ h3
      exact (World.cell?_of_block (Below.heap_alloc w _ _ hlt)).trans h3
end Go.Proofs.YtmnidnmdjkfhnaaGreatDoor
