import Derived.Test.YtnkhdofcmanipaaGreatDoorFaSgN
import Derived.Test.YtnkhdofcmanipaaGreatDoorSortH
import Derived.Test.YtnkhdofcmanipaaGreatDoorFaApp2
import Derived.Laws.StructEq
import Derived.Shelf.SlSortCmp.WholeK
import Derived.Deep.QuietTactic
import Derived.BigQuiet
import Derived.BigGuardPart
/- Two halves of a list, and the merge of the halves: plain (for DevicesAgree). -/
namespace Go.Proofs.YtnkhdofcmanipaaGreatDoor
set_option linter.unusedVariables false
section
variable {α : Type}

/-- the halves: the draw of each element tells into which of the two it goes -/
def hfA : List (α × Int) → List α
  | [] => []
  | (x, k) :: r => if k = 1 then hfA r else x :: hfA r
end
section
open Go.RowKit Go.Shelf Go.Lib Go.Sort
end
end Go.Proofs.YtnkhdofcmanipaaGreatDoor
/- api.Signal: ==, slices.Equal, Index, Contains, Clone, SortFunc. Printed by wip/genset.py. -/
namespace Go.Proofs.YtnkhdofcmanipaaGreatDoor
open Go.RowKit Go.Shelf Go.Lib Go.Sort
set_option linter.unusedVariables false

theorem str_neZ {a b : ByteArray} (h : a ≠ b) : (a.toList == b.toList) = false := by
  rw [beq_eq_false_iff_ne, ByteArray.toList_eq, ByteArray.toList_eq]
  intro e
  exact h (by cases a; cases b; congr 1; exact Array.toList_inj.mp e)
instance : DecidableEq Sg := fun a b => decidable_of_iff (a.dev = b.dev ∧ a.no = b.no ∧ a.kind = b.kind ∧ a.tm = b.tm ∧ a.lane = b.lane ∧ a.time = b.time) ⟨fun h => by
  obtain ⟨x0, x1, x2, x3, x4, x5⟩ := a
  obtain ⟨y0, y1, y2, y3, y4, y5⟩ := b
  obtain ⟨rfl, rfl, rfl, rfl, rfl, rfl⟩ := h
  rfl, fun h => by subst h; exact ⟨rfl, rfl, rfl, rfl, rfl, rfl⟩⟩
set_option maxHeartbeats 3200000 in
set_option maxRecDepth 100000 in
theorem equalSg_c (A1 A2 : Option Addr) (n c m d : Nat) (l1 l2 : List Sg) (w : World) (h1 : RSg w A1 n l1) (h2 : RSg w A2 m l2) :
    Calls Tryz.prog 41 #[.slice A1 n c, .slice A2 m d] w fun e w' => e = .returned (.bool (decide (l1 = l2))) ∧ ∃ q, w' = w.drewN q := by
  have b1 := h1.bd
  have b2 := h2.bd
  by_cases hnm : n = m
  rotate_left
  · have hd : decide (l1 = l2) = false := by simp; rintro rfl; have := h1.len; have := h2.len; omega
    have hne : ((n : Int) != (m : Int)) = true := by rw [bne_iff_ne]; omega
    rw [hd]
    clear hd
    go_enter Tryz.func41, Tryz.ntmps41
    go_wp2
    go_ret
    exact ⟨rfl, 0, rfl⟩
  subst hnm
  have hL1 := Lib.hid h1.len
  have hL2 := Lib.hid h2.len
  go_enter Tryz.func41, Tryz.ntmps41
  go_wp2
  go_loopw [13] (fun i wr => ∃ k q : Nat, k ≤ n ∧ i = .int .i64 k ∧ wr = w.drewN q ∧ Hid (∀ j, j < k → l1[j]? = l2[j]?)) (fun i _ => n - (intOf i).toNat)
  case atStart => exact ⟨0, 0, Nat.zero_le _, rfl, rfl, Lib.hid (fun j h => absurd h (by omega))⟩
  case round =>
    obtain ⟨k, q0, hk, rfl, rfl, hF⟩ := hrel
    by_cases hlt : k < n
    · obtain ⟨b, off, x, rfl, hbl, hx, c0, c1, c2, c3, c4, c5⟩ := RSg_at6 h1 hlt
      obtain ⟨b', off', y, rfl, hbl', hy, e0, e1, e2, e3, e4, e5⟩ := RSg_at6 h2 hlt
      have hx' := Lib.hid hx
      have hy' := Lib.hid hy
      clear hx hy
      by_cases hxy : x = y
      · subst hxy
        obtain ⟨x0, x1, x2, x3, x4, x5⟩ := x
        dsimp only at *
        go_wp2
        go_quiet (fail)
        go_wp2
        go_roundw
        case rel => exact ⟨k + 1, _, by omega, by go_num, rfl, Lib.hid (fun j hj => by
          by_cases hjk : j = k
          · subst hjk; rw [hx'.out, hy'.out]
          · exact hF.out j (by omega))⟩
        case measure => simp [intOf]; omega
      · obtain ⟨x0, x1, x2, x3, x4, x5⟩ := x
        obtain ⟨y0, y1, y2, y3, y4, y5⟩ := y
        dsimp only at c0 c1 c2 c3 c4 c5 e0 e1 e2 e3 e4 e5
        have hcases : ((x0.toList == y0.toList) = false) ∨ (x0 = y0 ∧ (((x1 == y1) = false) ∨ (x1 = y1 ∧ (((x2 == y2) = false) ∨ (x2 = y2 ∧ (((x3 == y3) = false) ∨ (x3 = y3 ∧ (((x4 == y4) = false) ∨ (x4 = y4 ∧ ((x5 == y5) = false)))))))))) := by
          by_cases q0 : x0 = y0
          · refine .inr ⟨q0, ?_⟩
            by_cases q1 : x1 = y1
            · refine .inr ⟨q1, ?_⟩
              by_cases q2 : x2 = y2
              · refine .inr ⟨q2, ?_⟩
                by_cases q3 : x3 = y3
                · refine .inr ⟨q3, ?_⟩
                  by_cases q4 : x4 = y4
                  · refine .inr ⟨q4, ?_⟩
                    exact beq_eq_false_iff_ne.2 (fun q5 => hxy (by rw [q0, q1, q2, q3, q4, q5]))
                  · exact .inl (beq_eq_false_iff_ne.2 q4)
                · exact .inl (beq_eq_false_iff_ne.2 q3)
              · exact .inl (beq_eq_false_iff_ne.2 q2)
            · exact .inl (beq_eq_false_iff_ne.2 q1)
          · exact .inl (str_neZ q0)
        have hfin : Hid (decide (l1 = l2) = false) := Lib.hid (by
          simp only [decide_eq_false_iff_not]
          rintro rfl
          rw [hx'.out] at hy'
          exact hxy (Option.some.inj hy'.out))
        clear hxy
        rcases hcases with h0 | ⟨rfl, h1 | ⟨rfl, h2 | ⟨rfl, h3 | ⟨rfl, h4 | ⟨rfl, h5⟩⟩⟩⟩⟩
        all_goals
          go_wp2
          go_quiet (fail)
          go_wp2
          go_ret
          exact ⟨ret_b (by rw [hfin.out]), _, by rw [World.drewN_drewN]⟩
    · have hfin : Hid (decide (l1 = l2) = true) := Lib.hid (by
        simp only [decide_eq_true_eq]
        apply List.ext_getElem?; intro j
        by_cases hj : j < n
        · exact hF.out j (by omega)
        · rw [List.getElem?_eq_none (by rw [hL1.out]; omega), List.getElem?_eq_none (by rw [hL2.out]; omega)])
      go_wp2
      go_ret
      exact ⟨ret_b (by rw [hfin.out]), _, rfl⟩
end Go.Proofs.YtnkhdofcmanipaaGreatDoor
