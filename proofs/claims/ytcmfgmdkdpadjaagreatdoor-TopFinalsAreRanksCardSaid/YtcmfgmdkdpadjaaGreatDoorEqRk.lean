/- slices.Equal over ranks. -/
import Derived.Test.YtcmfgmdkdpadjaaGreatDoorProg
import Derived.Test.YtcmfgmdkdpadjaaGreatDoorStructs
import Derived.BigGuardPart
import Derived.Laws.StructEq
namespace Go.Proofs.YtcmfgmdkdpadjaaGreatDoor
open Go.RowKit
set_option linter.unusedVariables false

theorem str_ne {a b : ByteArray} (h : a ≠ b) : (a.toList == b.toList) = false := by
  rw [beq_eq_false_iff_ne, ByteArray.toList_eq, ByteArray.toList_eq]
  intro e
  exact h (by cases a; cases b; congr 1; exact Array.toList_inj.mp e)
structure Rk where
  who : ByteArray
  rank : Int
  time : Int
  fault : Int
deriving DecidableEq
def rkE (p : Rk) : List Value := [.string p.who, .int .i64 p.rank, .int .i64 p.time, .int .i64 p.fault]
theorem rkE_len : ∀ x, (rkE x).length = 4 := fun _ => rfl
abbrev RRk (w : World) (A : Option Addr) (n : Nat) (l : List Rk) : Prop := RN 4 rkE 89 w A n l
theorem RRk.at4 {w : World} {A : Option Addr} {n : Nat} {l : List Rk} (h : RRk w A n l) {k : Nat} (hk : k < n) : ∃ b off x, A = some ⟨b, off, none⟩ ∧ b < w.heap.size ∧ l[k]? = some x ∧ w.cell? ⟨b, off + k * 4, none⟩ = some (.string x.who) ∧ w.cell? ⟨b, off + k * 4 + 1, none⟩ = some (.int .i64 x.rank) ∧ w.cell? ⟨b, off + k * 4 + 2, none⟩ = some (.int .i64 x.time) ∧ w.cell? ⟨b, off + k * 4 + 3, none⟩ = some (.int .i64 x.fault) := by
  obtain ⟨b, off, x, hA, hb, hx, hc⟩ := h.at_ hk
  exact ⟨b, off, x, hA, hb, hx, hc 0 _ rfl, hc 1 _ rfl, hc 2 _ rfl, hc 3 _ rfl⟩
set_option maxHeartbeats 1600000 in
set_option maxRecDepth 100000 in
theorem equalRk_c (A1 A2 : Option Addr) (n c m d : Nat) (l1 l2 : List Rk) (w : World) (h1 : RRk w A1 n l1) (h2 : RRk w A2 m l2) :
    Calls Tryz.prog 97 #[.slice A1 n c, .slice A2 m d] w fun e w' => e = .returned (.bool (decide (l1 = l2))) ∧ ∃ q, w' = w.drewN q := by
  have b1 := h1.bd
  have b2 := h2.bd
  by_cases hnm : n = m
  rotate_left
  · have hd : decide (l1 = l2) = false := by simp; rintro rfl; have := h1.len; have := h2.len; omega
    have hne : ((n : Int) != (m : Int)) = true := by rw [bne_iff_ne]; omega
    rw [hd]
    clear hd
    go_enter Tryz.func97, Tryz.ntmps97
    go_wp2
    go_ret
    exact ⟨rfl, 0, rfl⟩
  subst hnm
  have hL1 := Lib.hid h1.len
  have hL2 := Lib.hid h2.len
  go_enter Tryz.func97, Tryz.ntmps97
  go_wp2
  go_loopw [13] (fun i wr => ∃ k q : Nat, k ≤ n ∧ i = .int .i64 k ∧ wr = w.drewN q ∧ Hid (∀ j, j < k → l1[j]? = l2[j]?)) (fun i _ => n - (intOf i).toNat)
  case atStart => exact ⟨0, 0, Nat.zero_le _, rfl, rfl, Lib.hid (fun j h => absurd h (by omega))⟩
  case round =>
    obtain ⟨k, q0, hk, rfl, rfl, hF⟩ := hrel
    by_cases hlt : k < n
    · obtain ⟨b, off, x, rfl, hbl, hx, c0, c1, c2, c3⟩ := RRk.at4 h1 hlt
      obtain ⟨b', off', y, rfl, hbl', hy, e0, e1, e2, e3⟩ := RRk.at4 h2 hlt
      have hx' := Lib.hid hx
      have hy' := Lib.hid hy
      clear hx hy
      by_cases hxy : x = y
      · subst hxy
        go_wp2
        go_quiet (fail)
        go_wp2
        go_roundw
        case rel => exact ⟨k + 1, _, by omega, by go_num, rfl, Lib.hid (fun j hj => by
          by_cases hjk : j = k
          · subst hjk; rw [hx'.out, hy'.out]
          · exact hF.out j (by omega))⟩
        case measure => simp [intOf]; omega
      · obtain ⟨x0, x1, x2, x3⟩ := x
        obtain ⟨y0, y1, y2, y3⟩ := y
        dsimp only at c0 c1 c2 c3 e0 e1 e2 e3
        have hcases : (x0.toList == y0.toList) = false ∨ (x0 = y0 ∧ ((x1 == y1) = false ∨ (x1 = y1 ∧ ((x2 == y2) = false ∨ (x2 = y2 ∧ (x3 == y3) = false))))) := by
          by_cases q0 : x0 = y0
          · refine .inr ⟨q0, ?_⟩
            by_cases q1 : x1 = y1
            · refine .inr ⟨q1, ?_⟩
              by_cases q2 : x2 = y2
              · refine .inr ⟨q2, beq_eq_false_iff_ne.2 (fun q3 => hxy (by rw [q0, q1, q2, q3]))⟩
              · exact .inl (beq_eq_false_iff_ne.2 q2)
            · exact .inl (beq_eq_false_iff_ne.2 q1)
          · exact .inl (str_ne q0)
        have hfin : Hid (decide (l1 = l2) = false) := Lib.hid (by
          simp only [decide_eq_false_iff_not]
          rintro rfl
          rw [hx'.out] at hy'
          exact hxy (Option.some.inj hy'.out))
        clear hxy
        rcases hcases with h0 | ⟨rfl, h1 | ⟨rfl, h2 | ⟨rfl, h3⟩⟩⟩
        all_goals
          go_wp2
          go_quiet (fail)
          go_wp2
          go_ret
          exact ⟨ret_b (by rw [hfin.out]), _, by rw [World.drewN_drewN]⟩
    · have hfin : Hid (decide (l1 = l2) = true) := Lib.hid (by
        simp only [decide_eq_true_eq]
        apply List.ext_getElem?; intro j
        by_cases hj : j < n
        · exact hF.out j (by omega)
        · rw [List.getElem?_eq_none (by rw [hL1.out]; omega), List.getElem?_eq_none (by rw [hL2.out]; omega)])
      go_wp2
      go_ret
      exact ⟨ret_b (by rw [hfin.out]), _, rfl⟩
end Go.Proofs.YtcmfgmdkdpadjaaGreatDoor
