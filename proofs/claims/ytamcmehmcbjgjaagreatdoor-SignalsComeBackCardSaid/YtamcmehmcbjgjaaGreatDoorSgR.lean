/- tumbmake.RightSignals. -/
import Derived.Test.YtamcmehmcbjgjaaGreatDoorSgN
import Derived.Test.YtamcmehmcbjgjaaGreatDoorPadF
namespace Go.Proofs.YtamcmehmcbjgjaaGreatDoor
open Go.RowKit Go.Shelf Go.Lib Go.Sort
set_option linter.unusedVariables false

/-- what RightSignals hands back, with a start among them -/
def RetRSgH (w : World) (g : Nat) (zs : Zs) (k : Nat) (e : Ending) (w' : World) : Prop := ∃ (A : Option Addr) (n c : Nat) (l : List Sg) (k' : Nat), e = .returned (.slice A n c) ∧ RSg w' A n l ∧ sigErr l = 0 ∧ n ≤ 18 ∧ St w' g zs k' ∧ k' ≤ k + 1800 ∧ w.grownBy w' (some g) ∧ CapOk A n c ∧ (l = [] ∨ HasS l)
/-- what RightSignals hands back -/
def RetRSg (w : World) (g : Nat) (zs : Zs) (k : Nat) (e : Ending) (w' : World) : Prop := ∃ (A : Option Addr) (n c : Nat) (l : List Sg) (k' : Nat), e = .returned (.slice A n c) ∧ RSg w' A n l ∧ sigErr l = 0 ∧ n ≤ 18 ∧ St w' g zs k' ∧ k' ≤ k + 1800 ∧ w.grownBy w' (some g) ∧ CapOk A n c
set_option maxHeartbeats 1600000 in
set_option maxRecDepth 100000 in
theorem rightSignalsH_c (g : Nat) (zs : Zs) (k : Nat) (w : World) (h : St w g zs k) (hk : k + 10000 ≤ 1099511627776) :
    Calls Tryz.prog 21 #[.pointer (some ⟨g, 0, none⟩)] w (RetRSgH w g zs k) := by
  have hglt := h.lt
  have hSd := Lib.hid (fun kk wx (hs : St wx g zs kk) (hk : kk + 400 ≤ 1099511627776) => signalsH_c g zs kk wx hs hk)
  go_enter Tryz.func21, Tryz.ntmps21
  go_wp2_with fail
  go_loopw [4] (fun i wr => ∃ j kk : Nat, j ≤ 6 ∧ i = .int .i64 j ∧ St wr g zs kk ∧ kk ≤ k + j * 300 ∧ w.grownBy wr (some g)) (fun i _ => 6 - (intOf i).toNat)
  case atStart => exact ⟨0, k, by omega, rfl, h, by omega, grown_refl _ _⟩
  case round =>
    clear h
    obtain ⟨j, kk, hj, rfl, hst, hkk, hgr⟩ := hrel
    by_cases hlt : j < 6
    · have hji : (j : Int) < 6 := by omega
      go_wp2_with fail
      refine (hSd.out kk _ hst (by omega)).mono ?_; rintro e w1 ⟨A, n, c, l, k2, rfl, ho, hl, hn1, hn18, s1, hk2, g1, hh⟩
      have hhh := Lib.hid hh
      clear hh
      have hgr1 := grown_trans hgr g1
      have hR : RSg w1 A n l := RN.of_own sgE_len ho hl (by omega)
      have hcp := Lib.hid (capOk_own ho)
      have hF := Lib.hid (signalsFault_c A n c l w1 hR)
      clear hst hgr g1 ho
      go_wp2_with fail
      refine hF.out.mono ?_; rintro e w2 ⟨rfl, B2⟩
      have s2 := s1.below B2
      have hR2 := hR.below B2
      have hgr2 := grown_trans hgr1 (grown_of_below B2)
      clear s1 hR hgr1 hF B2
      by_cases h0 : sigErr l = 0
      · have h0' := Lib.hid h0
        have hd : (sigErr l == 0) = true := by simpa using h0
        clear h0
        generalize sigErr l = E at hd ⊢
        go_wp2
        go_ret
        exact ⟨A, n, c, l, k2, rfl, hR2, h0'.out, hn18, s2, by omega, hgr2, hcp.out, .inr hhh.out⟩
      · have hd : (sigErr l == 0) = false := beq_eq_false_iff_ne.2 h0
        clear h0
        generalize sigErr l = E at hd ⊢
        go_wp2
        go_roundw
        case rel => exact ⟨j + 1, k2, by omega, by go_num, s2, by omega, hgr2⟩
        case measure => simp [intOf]; omega
    · obtain rfl : j = 6 := by omega
      go_wp2
      go_ret
      exact ⟨none, 0, 0, [], kk, rfl, RN.nil_ _ _ _ _ _, rfl, by omega, hst, by omega, hgr, .inl ⟨rfl, rfl, rfl⟩, .inl rfl⟩
theorem rightSignals_c (g : Nat) (zs : Zs) (k : Nat) (w : World) (h : St w g zs k) (hk : k + 10000 ≤ 1099511627776) :
    Calls Tryz.prog 21 #[.pointer (some ⟨g, 0, none⟩)] w (RetRSg w g zs k) :=
  (rightSignalsH_c g zs k w h hk).mono fun _ _ ⟨A, n, c, l, k2, a1, a2, a3, a4, a5, a6, a7, a8, _⟩ => ⟨A, n, c, l, k2, a1, a2, a3, a4, a5, a6, a7, a8⟩
end Go.Proofs.YtamcmehmcbjgjaaGreatDoor
