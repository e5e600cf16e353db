/- FastestInTheMiddle: the fastest one swims in the last heat, in the lane that is given first: the walk. Printed by wip/mkl48.py. -/
import Derived.Test.YtffhobmkbabllaaGreatDoorP48
import Derived.Test.YtffhobmkbabllaaGreatDoorPoolM
import Derived.Test.YtffhobmkbabllaaGreatDoorSeedM
import Derived.Test.YtffhobmkbabllaaGreatDoorSizeM
import Derived.Test.YtffhobmkbabllaaGreatDoorSetSp
import Derived.Test.YtffhobmkbabllaaGreatDoorReady
import Derived.Deep.RegionHeld3
namespace Go.Proofs.YtffhobmkbabllaaGreatDoor
open Go.RowKit Go.Shelf Go.Lib Go.Sort
set_option linter.unusedVariables false

set_option maxHeartbeats 12800000 in
set_option maxRecDepth 100000 in
theorem fastestInTheMiddle_walk (a0 : Option Addr) (len0 cap0 : Nat) (z0 : List Int) (w : World) (w0 : IsRow .i64 w a0 len0 cap0 z0) (htab : Tb w) :
    Calls Tryz.prog 7 #[.slice a0 len0 cap0] w fun e w' => e = .returned (.bool true) ∧ Below w.heap.size w w' := by
  have hs := law_start w0
  clear w0
  generalize z0.take len0 = zs at *
  go_enter Tryz.func7, Tryz.ntmps7
  go_wp2_with fail
  have hs' : St (w.alloc (.cells #[.slice a0 len0 cap0, .int .i64 0] 25)) w.heap.size zs 0 := hs
  have hB1 := below_new w (.cells #[.slice a0 len0 cap0, .int .i64 0] 25)
  refine (poolOf_c _ zs 0 _ hs' (by omega)).mono ?_; rintro e w2 ⟨lo, hi, le, ci, k2, rfl, p0, p1, p2, p3, s2, hk2, g2⟩
  have hB2 := hB1.trans (grown_below g2 (Nat.le_refl _) hB1.size)
  have hbd : PlBd ⟨lo, hi, le, ci⟩ := ⟨p0, p1⟩
  clear hs hs' hB1 g2 p0 p1 p2 p3
  go_wp2_with fail
  refine (rightSeeds_c _ zs k2 24 _ w s2 (by omega) (by omega) htab hB2 (Nat.le_refl _)).mono ?_; rintro e w3 ⟨A, n, c, x, k3, rfl, hx, hx0, hn, s3, hk3, g3, _⟩
  have hB3 := hB2.trans (grown_below g3 (Nat.le_refl _) hB2.size)
  clear s2 g3 hB2 htab s3 hk2 hk3
  have hb0 : PoolB w3.heap.size ⟨lo, hi, le, ci⟩ (w3.alloc (.cells #[.int .i64 lo, .int .i64 hi, .int .i64 le, .int .i64 ci] 72)) := heap_alloc_new w3 _
  have K : KX w (fun v => RSd v A n x ∧ PoolB w3.heap.size ⟨lo, hi, le, ci⟩ v) (w3.alloc (.cells #[.int .i64 lo, .int .i64 hi, .int .i64 le, .int .i64 ci] 72)) := ⟨⟨hx.alloc _, hb0⟩, fun a b q B => ⟨q.1.below B, PoolB.keep _ _ q.2 B⟩, hB3.alloc hB3.size _⟩
  have hxl := Lib.hid hx.len
  clear hx hB3 hb0
  have hPF := Lib.hid (fun W => poolFault_c ⟨lo, hi, le, ci⟩ hbd W)
  obtain ⟨z0, z1, z2, z3⟩ := K.x.2.at_
  dsimp only [Pl.val] at *
  go_wp2_with fail
  generalize w3.alloc (.cells #[.int .i64 lo, .int .i64 hi, .int .i64 le, .int .i64 ci] 72) = w4 at *
  generalize w3.heap.size = b4 at *
  by_cases hP : poolErr ⟨lo, hi, le, ci⟩ = 0
  rotate_left
  · have hd : (poolErr ⟨lo, hi, le, ci⟩ != 0) = true := by simpa using hP
    clear hP
    generalize poolErr ⟨lo, hi, le, ci⟩ = PE at *
    refine (hPF.out _).mono ?_; rintro e wN ⟨rfl, BN⟩
    have K2 := K.below BN
    clear K BN hPF
    go_wp2_with fail
    refine (ready_c _).mono ?_; rintro e wM ⟨rfl, BM⟩
    have hB := (K2.below BM).bel
    go_wp2
    go_ret
    exact ⟨rfl, hB⟩
  rw [hP] at hPF
  have hp := poolErr_ok hP
  refine (hPF.out _).mono ?_; rintro e wN ⟨rfl, BN⟩
  replace K := K.below BN
  clear BN hPF z0 z1 z2 z3
  rcases Nat.eq_zero_or_pos n with hn0 | hn0
  · subst hn0
    go_wp2_with fail
    refine (ready_c _).mono ?_; rintro e wM ⟨rfl, BM⟩
    have hB := (K.below BM).bel
    go_wp2
    go_ret
    exact ⟨rfl, hB⟩
  have hd0 : ((n : Int) == 0) = false := beq_eq_false_iff_ne.2 (by omega)
  have hn40 : x.length < 40 := by rw [hxl.out]; omega
  have hlan : 1 ≤ hi - lo + 1 := by have := hp.1.2; dsimp only at this; omega
  have hz := szErr_small (lanes := hi - lo + 1) (many := (x.length : Int)) hlan (by omega) (by omega)
  obtain ⟨hS1, hS2, hS3⟩ := szV_facts (lanes := hi - lo + 1) (le := le) (many := (x.length : Int)) hlan hp.2.2.1 (by omega) hz
  obtain ⟨R, hR⟩ := drawR_ex (ci := ci) hp.2.2.2.1 (InvH.start (S := szV (hi - lo + 1) le x.length) (who := orderW x) (fun y hy => (hS1 y hy).1) (by rw [orderW_len hx0 hn40]; exact hS2.symm))
  have hF := Lib.hid (fun D hD => fastest (p := ⟨lo, hi, le, ci⟩) hp hx0 (by rw [hxl.out]; exact hn0) hn40 hR (D := D) hD)
  have hDr := Lib.hid (fun W h => drawTop_c ⟨lo, hi, le, ci⟩ hp A n c x W h hx0 (by omega) R (by rw [← hxl.out]; exact hR))
  have hRf := Lib.hid (fun D (hD : SpSorted (stOut (laneV lo hi) 0 R) D) => show D.length < 40 by rw [hD.1.length_eq, stOut_lenH, (drawR_inv (InvH.start (S := szV (hi - lo + 1) le x.length) (who := orderW x) (fun y hy => (hS1 y hy).1) (by rw [orderW_len hx0 hn40]; exact hS2.symm)) hR).1.length_eq, orderW_len hx0 hn40]; exact hn40)
  have hOr := Lib.hid (fun W h => order48_c A n c x W h (by omega))
  rw [hx0] at hOr
  have hLa := Lib.hid (fun W => lanesTop_c ⟨lo, hi, le, ci⟩ hbd W)
  rw [hP] at hLa
  have hLT : laneT ⟨lo, hi, le, ci⟩ = laneV lo hi := by unfold laneT; rw [if_pos hP]
  rw [hLT] at hLa
  have hLb : (laneV lo hi).length ≤ 10 := by have h1 := laneV_len hp.1.2; have h2 := hp.2.1; have h3 := hp.1.1; dsimp only at h1 h2 h3; omega
  clear hS1 hS2 hS3 hz hR hlan hLT hP
  unfold RetNm at hOr
  unfold RetI at hLa
  unfold RetDT at hDr
  dsimp only [Pl.val] at *
  obtain ⟨z0, z1, z2, z3⟩ := K.x.2.at_
  dsimp only at z0 z1 z2 z3
  go_wp2_with fail
  refine (hDr.out _ K.x.1).mono ?_; rintro e w5 ⟨A5, n5, c5, D, rfl, hD, hDs, B5⟩
  replace K := (K.below B5).add (Y := fun v => RSp v A5 n5 D) hD (fun _ _ h B => h.below B)
  obtain ⟨s, y, ln, f1, f2, f3, f4⟩ := hF.out D hDs
  have hDl := hD.len
  have hDb := hD.bd
  have hDs' := Lib.hid hDs
  clear B5 hDr hD hDs hF z0 z1 z2 z3 hd0
  go_wp2_with fail
  refine (hOr.out _ K.x.1.1).mono ?_; rintro e w6 ⟨A6, n6, c6, rfl, hO, B6⟩
  replace K := (K.below B6).add (Y := fun v => RS 9 v A6 n6 (orderW x)) hO (fun _ _ h B => h.below B)
  have hOl := hO.len
  clear B6 hOr hO
  obtain ⟨z0, z1, z2, z3⟩ := K.x.1.1.2.at_
  dsimp only at z0 z1 z2 z3
  go_wp2_with fail
  refine (hLa.out _).mono ?_; rintro e w7 ⟨A7, n7, c7, rfl, hL, B7⟩
  replace K := (K.below B7).add (Y := fun v => RI 3 v A7 n7 (laneV lo hi)) hL (fun _ _ h B => h.below B)
  have hLl := hL.len
  clear B7 hLa hL z0 z1 z2 z3
  have m5 : 0 < n5 := by have := lt_of_at f2; omega
  have m6 : 0 < n6 := by have := lt_of_at f1; omega
  have m7 : 0 < n7 := by have := lt_of_at f3; omega
  have v5 : ((n5 : Int) == 0) = false := beq_eq_false_iff_ne.2 (by omega)
  have v6 : ((n6 : Int) == 0) = false := beq_eq_false_iff_ne.2 (by omega)
  have v7 : ((n7 : Int) == 0) = false := beq_eq_false_iff_ne.2 (by omega)
  have m8 : IntKind.i64.wrap ((n5 : Int) - 1) = ((n5 - 1 : Nat) : Int) := by rw [IntWalk.i64_in _ (by omega)]; omega
  rw [hDl] at f2
  have hN5 : n5 ≤ 300 := by
    have h1 := hRf.out D hDs'.out
    omega
  obtain ⟨b5, o5, y', rfl, hb5, hy', _, c5', _⟩ := RSp_at3 K.x.1.1.2 (k := n5 - 1) (by omega)
  obtain rfl : y' = y := by rw [f2] at hy'; exact (Option.some.inj hy').symm
  obtain ⟨b6, o6, s', rfl, hb6, hs', c6'⟩ := R1.at_ K.x.1.2 (k := 0) m6
  obtain rfl : s' = s := by rw [f1] at hs'; exact (Option.some.inj hs').symm
  obtain ⟨b7, o7, ln', rfl, hb7, hl', c7'⟩ := R1.at_ K.x.2 (k := 0) m7
  obtain rfl : ln' = ln := by rw [f3] at hl'; exact (Option.some.inj hl').symm
  rw [Nat.add_zero] at c6' c7'
  obtain ⟨yw, yh, yl⟩ := y'
  dsimp only at *
  have hCt := Lib.hid (fun W (h : RSp W (some ⟨b5, o5, none⟩) n5 D) => containsSp_c (some ⟨b5, o5, none⟩) n5 c5 D ⟨s', yh, ln'⟩ W h (by omega))
  rw [decide_eq_true f4] at hCt
  have n9 : (((n5 - 1 : Nat) : Int)) < (n5 : Int) := by omega
  have n8 : n5 - 1 < n5 := by omega
  clear f1 f2 f3 f4 hs' hy' hl' hn40 hOl hLl hLb hx0 hp hRf hDs' hDl hDb
  go_wp2_with fail
  have hR5 := K.x.1.1.2
  go_region_held3 (fun w' => w'.cell? ⟨b5, o5 + (n5 - 1) * 3 + 1, none⟩ = some (.int .i64 yh) ∧ w'.cell? ⟨b6, o6, none⟩ = some (.string s') ∧ w'.cell? ⟨b7, o7, none⟩ = some (.int .i64 ln'))
    (first | go_keep | with_reducible exact ⟨h0, h1, h2⟩ | with_reducible exact ⟨g0, g1, g2⟩ | with_reducible exact ⟨c5', c6', c7'⟩)
    (first
      | (go_at_call 64; refine (hCt.out _ (hR5.drew.below (Below.refl _ _))).mono ?_; rintro e w8 ⟨rfl, B8⟩; have g0 := (B8.cell (p := ⟨b5, o5 + (n5 - 1) * 3 + 1, none⟩) hb5).trans c5'; have g1 := (B8.cell (p := ⟨b6, o6, none⟩) hb6).trans c6'; have g2 := (B8.cell (p := ⟨b7, o7, none⟩) hb7).trans c7')
      | (go_at_call 36; refine (ready_c _).mono ?_; rintro e w9 ⟨rfl, B9⟩; have h0 := (B9.cell (p := ⟨b5, o5 + (n5 - 1) * 3 + 1, none⟩) (Nat.lt_of_lt_of_le hb5 B8.size)).trans g0; have h1 := (B9.cell (p := ⟨b6, o6, none⟩) (Nat.lt_of_lt_of_le hb6 B8.size)).trans g1; have h2 := (B9.cell (p := ⟨b7, o7, none⟩) (Nat.lt_of_lt_of_le hb7 B8.size)).trans g2))
  have hB := below_next (below_next (below_drewN K.bel 1) B8) B9
  clear c5' c6' c7' g0 g1 g2 h0 h1 h2 K
  go_wp2
  go_ret
  exact ⟨rfl, hB⟩
end Go.Proofs.YtffhobmkbabllaaGreatDoor
