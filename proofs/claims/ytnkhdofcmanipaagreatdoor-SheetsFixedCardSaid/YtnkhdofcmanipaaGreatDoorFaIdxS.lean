/- slices.Index of words; the kind's word among the words of the kinds. -/
import Derived.Test.YtnkhdofcmanipaaGreatDoorFaTxtM
namespace Go.Proofs.YtnkhdofcmanipaaGreatDoor
open Go.RowKit Go.Lib
set_option linter.unusedVariables false

theorem ba_ne9 {a b : ByteArray} (h : a ≠ b) : (a.toList == b.toList) = false := by
  rw [beq_eq_false_iff_ne, ByteArray.toList_eq, ByteArray.toList_eq]
  intro e
  exact h (by cases a; cases b; congr 1; exact Array.toList_inj.mp e)
set_option maxRecDepth 100000 in
theorem indexS_c (A : Option Addr) (n c : Nat) (l : List ByteArray) (x : ByteArray) (w : World) (h : RS 9 w A n l) :
    Calls Tryz.prog 93 #[.slice A n c, .string x] w fun e w' => ∃ i : Int, e = .returned (.int .i64 i) ∧ ((i = -1 ∧ x ∉ l) ∨ ∃ k : Nat, i = k ∧ l[k]? = some x ∧ ∀ j, j < k → l[j]? ≠ some x) ∧ w = w' := by
  have hl := h.len
  have hb := h.bd
  have hl' := Lib.hid hl
  have hR := Lib.hid h
  clear h hl
  go_enter Tryz.func93, Tryz.ntmps93
  go_wp2_with fail
  go_loop [5, 8] (fun _ i => ∃ k : Nat, k ≤ n ∧ i = .int .i64 k ∧ Hid (∀ j, j < k → l[j]? ≠ some x)) (fun _ i => n - (intOf i).toNat)
  case atStart => exact ⟨0, Nat.zero_le _, rfl, Lib.hid (fun j hj => absurd hj (by omega))⟩
  case round =>
    obtain ⟨k, hk, rfl, hF⟩ := hrel
    by_cases hlt : k < n
    · obtain ⟨b, off, y, rfl, _, hy, hcell⟩ := hR.out.at_ hlt
      have hy' := Lib.hid hy
      clear hy
      by_cases he : x = y
      · subst he
        have e1 : (x.toList == x.toList) = true := beq_self_eq_true _
        go_wp2
        go_ret
        exact ⟨_, rfl, .inr ⟨k, rfl, hy'.out, hF.out⟩, rfl⟩
      · have e1 := ba_ne9 he
        have hF2 := Lib.hid (show ∀ j, j < k + 1 → l[j]? ≠ some x from fun j hj e => by
          rcases Nat.lt_or_ge j k with h1 | h1
          · exact hF.out j h1 e
          · obtain rfl : j = k := by omega
            rw [hy'.out] at e
            exact he (Option.some.inj e).symm)
        clear hF he
        go_wp2
        go_round
        case rel => exact ⟨k + 1, by omega, by go_num, hF2⟩
        case measure => simp [intOf]; omega
    · obtain rfl : k = n := by omega
      have hno := Lib.hid (show x ∉ l from fun hx => by
        obtain ⟨j, hj, e⟩ := List.getElem_of_mem hx
        exact hF.out j (by have := hl'.out; omega) (by rw [List.getElem?_eq_getElem hj, e]))
      clear hF
      go_wp2
      go_ret
      exact ⟨_, rfl, .inl ⟨rfl, hno.out⟩, rfl⟩
end Go.Proofs.YtnkhdofcmanipaaGreatDoor
