/- slices.Contains over api.Pair; slices.IndexFunc at the swimmer whose name is that of the first gap. -/
import Derived.Test.YtcdoidhookghaaaDoorAhead2
import Derived.Test.YtcdoidhookghaaaDoorBestR
import Derived.Deep.QuietTactic
import Derived.BigQuiet
import Derived.BigGuardPart
namespace Go.Proofs.YtcdoidhookghaaaDoor
open Go.RowKit
set_option linter.unusedVariables false

def firstP (p : Pr) : List Pr → Int → Int
  | [], _ => -1
  | x :: r, k => if p = x then k else firstP p r (k + 1)
theorem firstP_at {p : Pr} {l : List Pr} {j : Nat} {x : Pr} (k : Int) (h : l[j]? = some x) : firstP p (l.drop j) k = if p = x then k else firstP p (l.drop (j + 1)) (k + 1) := by rw [drop_at h]; rfl
theorem firstP_mem (p : Pr) : ∀ (l : List Pr) (k : Int), 0 ≤ k → decide (0 ≤ firstP p l k) = decide (p ∈ l)
  | [], _, _ => rfl
  | x :: r, k, h => by
    unfold firstP
    by_cases hx : p = x
    · rw [if_pos hx]; simp [h, hx]
    · rw [if_neg hx, firstP_mem p r _ (by omega), decide_eq_decide, List.mem_cons]; simp [hx]
set_option maxHeartbeats 1600000 in
set_option maxRecDepth 100000 in
theorem indexPr_c (A : Option Addr) (n c : Nat) (l : List Pr) (p : Pr) (w : World) (h : RPr w A n l) (hn : n ≤ 1000) :
    Calls Tryd.prog 98 #[.slice A n c, .agg #[.string p.name, .string p.value]] w fun e w' => e = .returned (.int .i64 (firstP p l 0)) ∧ Below w.heap.size w w' := by
  have hl := Lib.hid h.len
  have hb0 := heap_alloc_new w (.cells #[.string p.name, .string p.value] 93)
  have hB0 := below_new w (.cells #[.string p.name, .string p.value] 93)
  have h0 := h.alloc (.cells #[.string p.name, .string p.value] 93)
  generalize hE : firstP p l 0 = E
  have hE' := Lib.hid hE
  clear hE h
  go_enter Tryd.func98, Tryd.ntmps98
  go_wp2_with fail
  generalize hW : w.alloc (.cells #[.string p.name, .string p.value] 93) = w1 at *
  go_loopw [8] (fun i wr => ∃ k q : Nat, k ≤ n ∧ i = .int .i64 k ∧ wr = w1.drewN q ∧ Hid (firstP p (l.drop k) k = E)) (fun i _ => n - (intOf i).toNat)
  case atStart => exact ⟨0, 0, Nat.zero_le _, rfl, rfl, Lib.hid hE'.out⟩
  case round =>
    obtain ⟨k, q0, hk, rfl, rfl, hF⟩ := hrel
    by_cases hlt : k < n
    · obtain ⟨b, off, x, rfl, hbl, hx, c0, c1⟩ := RPr.atN h0 hlt
      have y0 := (blk_facts hb0).1 0
      have y1 := (blk_facts hb0).1 1
      have lb := lt_of_heap hb0
      have hT := Lib.hid (firstP_at (p := p) (k : Int) hx)
      clear hx
      obtain ⟨pn, pv⟩ := p
      by_cases hpx : (⟨pn, pv⟩ : Pr) = x
      · subst hpx
        dsimp only at *
        go_wp2
        go_quiet (fail)
        go_wp2
        go_ret
        exact ⟨ret_i (by rw [← hF.out, hT.out]; simp), below_drewN (below_drewN hB0 _) _⟩
      · obtain ⟨x0, x1⟩ := x
        dsimp only at *
        have hcases : ((pn.toList == x0.toList) = false) ∨ (pn = x0 ∧ ((pv.toList == x1.toList) = false)) := by
          by_cases q0 : pn = x0
          · exact .inr ⟨q0, str_nePr (fun q1 => hpx (by rw [q0, q1]))⟩
          · exact .inl (str_nePr q0)
        have hpx' := Lib.hid hpx
        clear hpx
        rcases hcases with h0' | ⟨rfl, h1'⟩
        all_goals
          go_wp2
          go_quiet (fail)
          go_wp2
          go_roundw
          case rel => exact ⟨k + 1, _, by omega, by go_num, rfl, Lib.hid (by rw [← hF.out, hT.out, if_neg hpx'.out]; rfl)⟩
          case measure => simp [intOf]; omega
    · obtain rfl : k = n := by omega
      go_wp2
      go_ret
      exact ⟨ret_i (by rw [← hF.out, drop_end (by rw [hl.out]; exact Nat.le_refl _)]; rfl), below_drewN hB0 _⟩
theorem containsPr_c (A : Option Addr) (n c : Nat) (l : List Pr) (p : Pr) (w : World) (h : RPr w A n l) (hn : n ≤ 1000) :
    Calls Tryd.prog 50 #[.slice A n c, .agg #[.string p.name, .string p.value]] w fun e w' => e = .returned (.bool (decide (p ∈ l))) ∧ Below w.heap.size w w' := by
  have hI := Lib.hid (fun W h => indexPr_c A n c l p W h hn)
  have hF := Lib.hid (firstP_mem p l 0 (Int.le_refl _))
  generalize firstP p l 0 = v at *
  have hb0 := heap_alloc_new w (.cells #[.string p.name, .string p.value] 93)
  have y := (blk_facts hb0).1
  go_enter Tryd.func50, Tryd.ntmps50
  go_wp2_with fail
  refine (hI.out _ (h.alloc _)).mono ?_; rintro e w1 ⟨rfl, B1⟩
  have B := below_box B1
  go_wp2
  go_ret
  exact ⟨by rw [← hF.out]; rfl, B⟩
end Go.Proofs.YtcdoidhookghaaaDoor
