/- tumbmake.RightSignals as a function of the list and the place. Printed by wip/mksgh.py out of SgR. -/
import Derived.Test.YtklggnglaeagpaaGreatDoorRSgG
import Derived.Test.YtklggnglaeagpaaGreatDoorRPadF
namespace Go.Proofs.YtklggnglaeagpaaGreatDoor
open Go.RowKit Go.Shelf Go.Lib Go.Sort
set_option linter.unusedVariables false

def rightSignalsV (zs : Zs) : Nat → Nat → List Sg × Nat
  | 0, k => ([], k)
  | t + 1, k => if sigErr (signalsV zs k).1 = 0 then signalsV zs k else rightSignalsV zs t (signalsV zs k).2
/-- what RightSignals hands back, told -/
def RetRSgF (w : World) (g : Nat) (zs : Zs) (k : Nat) (RV : List Sg × Nat) (e : Ending) (w' : World) : Prop := ∃ (A : Option Addr) (n c : Nat), e = .returned (.slice A n c) ∧ RSg w' A n RV.1 ∧ w'.ownsRow w.heap.size 55 6 (.slice A n c) n (RV.1.flatMap sgE) ∧ sigErr RV.1 = 0 ∧ n ≤ 18 ∧ St w' g zs RV.2 ∧ RV.2 ≤ k + 1800 ∧ w.grownBy w' (some g)
set_option maxHeartbeats 1600000 in
set_option maxRecDepth 100000 in
theorem rightSignalsF_c (g : Nat) (zs : Zs) (k : Nat) (w : World) (h : St w g zs k) (hk : k + 10000 ≤ 1099511627776) :
    Calls Tryz.prog 24 #[.pointer (some ⟨g, 0, none⟩)] w (RetRSgF w g zs k (rightSignalsV zs 6 k)) := by
  have hglt := h.lt
  have hSd := Lib.hid (fun kk wx (hs : St wx g zs kk) (hk : kk + 400 ≤ 1099511627776) => signalsF_c g zs kk wx hs hk)
  have hRs := Lib.hid (fun t kk => show rightSignalsV zs (t + 1) kk = if sigErr (signalsV zs kk).1 = 0 then signalsV zs kk else rightSignalsV zs t (signalsV zs kk).2 from rfl)
  have hR0 := Lib.hid (fun kk => show rightSignalsV zs 0 kk = ([], kk) from rfl)
  obtain ⟨RV, hRV⟩ : ∃ x, rightSignalsV zs 6 k = x := ⟨_, rfl⟩
  rw [hRV]
  have hRV := Lib.hid hRV
  generalize rightSignalsV zs = RS_ at *
  go_enter Tryz.func24, Tryz.ntmps24
  go_wp2_with fail
  go_loopw [4] (fun i wr => ∃ j kk : Nat, j ≤ 6 ∧ i = .int .i64 j ∧ St wr g zs kk ∧ kk ≤ k + j * 300 ∧ w.grownBy wr (some g) ∧ Hid (RS_ (6 - j) kk = RV)) (fun i _ => 6 - (intOf i).toNat)
  case atStart => exact ⟨0, k, by omega, rfl, h, by omega, grown_refl _ _, Lib.hid hRV.out⟩
  case round =>
    clear h
    obtain ⟨j, kk, hj, rfl, hst, hkk, hgr, hG⟩ := hrel
    by_cases hlt : j < 6
    · have hji : (j : Int) < 6 := by omega
      go_wp2_with fail
      refine (hSd.out kk _ hst (by omega)).mono ?_; rintro e w1 ⟨A, n, c, rfl, ho, hl, hn1, hn18, s1, hk2, g1⟩
      obtain ⟨⟨l, k2⟩, hlk⟩ : ∃ z, signalsV zs kk = z := ⟨_, rfl⟩
      rw [hlk] at ho hl s1 hk2
      dsimp only at ho hl s1 hk2
      have hG2 := Lib.hid (show (if sigErr l = 0 then (l, k2) else RS_ (6 - (j + 1)) k2) = RV by
        rw [← hG.out, show 6 - j = (6 - (j + 1)) + 1 by omega, hRs.out, hlk])
      clear hlk hG
      have hgr1 := grown_trans hgr g1
      have hR : RSg w1 A n l := RN.of_own sgE_len ho hl (by omega)
      have hcp := Lib.hid (capOk_own ho)
      have ho9 := own_mono (base' := w.heap.size) ho hgr.size
      have hF := Lib.hid (signalsFault_c A n c l w1 hR)
      clear hst hgr g1 ho
      go_wp2_with fail
      refine hF.out.mono ?_; rintro e w2 ⟨rfl, B2⟩
      have s2 := s1.below B2
      have hR2 := hR.below B2
      have hoo := Lib.hid (own_below ho9 B2)
      have hgr2 := grown_trans hgr1 (grown_of_below B2)
      clear s1 hR hgr1 hF B2 ho9
      by_cases h0 : sigErr l = 0
      · have h0' := Lib.hid h0
        have hd : (sigErr l == 0) = true := by simpa using h0
        have hG3 := hG2.out
        rw [if_pos h0] at hG3
        subst hG3
        clear h0 hG2
        generalize sigErr l = E at hd ⊢
        go_wp2
        go_ret
        exact ⟨A, n, c, rfl, hR2, hoo.out, h0'.out, hn18, s2, by dsimp only; omega, hgr2⟩
      · have hd : (sigErr l == 0) = false := beq_eq_false_iff_ne.2 h0
        have hG3 := hG2.out
        rw [if_neg h0] at hG3
        have hG3 := Lib.hid hG3
        clear h0 hG2
        generalize sigErr l = E at hd ⊢
        go_wp2
        go_roundw
        case rel => exact ⟨j + 1, k2, by omega, by go_num, s2, by omega, hgr2, hG3⟩
        case measure => simp [intOf]; omega
    · obtain rfl : j = 6 := by omega
      have hG4 := hG.out
      rw [Nat.sub_self, hR0.out] at hG4
      subst hG4
      go_wp2
      go_ret
      exact ⟨none, 0, 0, rfl, RN.nil_ _ _ _ _ _, World.ownsRow_nil _ _ _ _, rfl, by omega, hst, by dsimp only; omega, hgr⟩
end Go.Proofs.YtklggnglaeagpaaGreatDoor
