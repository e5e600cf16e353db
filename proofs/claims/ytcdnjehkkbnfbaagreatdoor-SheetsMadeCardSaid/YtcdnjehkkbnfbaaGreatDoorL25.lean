/- LapsFound: Laps and Ghosts: the walk. -/
import Derived.Test.YtcdnjehkkbnfbaaGreatDoorL18
import Derived.Test.YtcdnjehkkbnfbaaGreatDoorLapK
import Derived.Test.YtcdnjehkkbnfbaaGreatDoorSwumR
import Derived.Test.YtcdnjehkkbnfbaaGreatDoorPadK
namespace Go.Proofs.YtcdnjehkkbnfbaaGreatDoor
open Go.RowKit Go.Shelf Go.Lib Go.Sort
set_option linter.unusedVariables false

set_option maxHeartbeats 6400000 in
set_option maxRecDepth 100000 in
theorem lapsFound_walk (a0 : Option Addr) (len0 cap0 : Nat) (z0 : List Int) (w : World) (w0 : IsRow .i64 w a0 len0 cap0 z0) :
    Calls Tryz.prog 4 #[.slice a0 len0 cap0] w fun e w' => e = .returned (.bool true) ∧ Below w.heap.size w w' := by
  have hs := law_start w0
  clear w0
  generalize z0.take len0 = zs at *
  go_enter Tryz.func4, Tryz.ntmps4
  go_wp2_with fail
  have hs' : St (w.alloc (.cells #[.slice a0 len0 cap0, .int .i64 0] 25)) w.heap.size zs 0 := hs
  refine (swumRace_c w.heap.size zs 0 _ hs' (by omega)).mono ?_; rintro e w1 ⟨rfl, s1, g1⟩
  have hk1 := swumRace_k zs 0
  have hB1 : Below w.heap.size w w1 := (below_new w _).trans (grown_below g1 (Nat.le_refl _) (by simp))
  generalize (swumRace zs 0).1 = r at *
  generalize (swumRace zs 0).2 = k1 at *
  clear hs hs' g1
  go_wp2_with fail
  refine (signals_c _ zs k1 _ s1 (by omega)).mono ?_; rintro e w2 ⟨A, n, c, l, k2, rfl, ho, hl, hn1, hn18, s2, hk2, g2⟩
  have hL2 : RSg w2 A n l := RN.of_own sgE_len ho hl (by omega)
  have hB2 := hB1.trans (grown_below g2 (Nat.le_refl _) hB1.size)
  clear hB1 s1 ho g2
  go_wp2_with fail
  refine (clocks_c _ zs k2 _ s2 (by omega)).mono ?_; rintro e w3 ⟨Ac, nc, cc, cl, k3, rfl, hC3, hnc, s3, hk3, g3⟩
  have hL3 := hL2.keep (T := 25) (by decide) (s2.keep g3)
  have hB3 := hB2.trans (grown_below g3 (Nat.le_refl _) hB2.size)
  clear hL2 hB2 s2 g3
  go_wp2_with fail
  refine (heatNo_c _ zs _ _ s3 (by omega)).mono ?_; rintro e w5 ⟨heat, rfl, ⟨he0, he1⟩, s5, g5⟩
  have hL5 := hL3.keep (T := 25) (by decide) (s3.keep g5)
  have hC5 := hC3.keep (T := 25) (by decide) (s3.keep g5)
  have hB5 := hB3.trans (grown_below g5 (Nat.le_refl _) hB3.size)
  clear hL3 hC3 hB3 s3 g5
  go_wp2_with fail
  refine (pickB_c _ zs _ [1, 1, 1, 2, 3, 0] 0 3 6 6 _ #[.int .i64 1, .int .i64 1, .int .i64 1, .int .i64 2, .int .i64 3, .int .i64 0] w5 s5 (by omega) rfl rfl rfl (by decide) (by decide) (by simp)).mono ?_; rintro e w6 ⟨lane, rfl, la0, la1, s6, g6⟩
  have hL6 := hL5.keep (T := 25) (by decide) (s5.keep g6)
  have hC6 := hC5.keep (T := 25) (by decide) (s5.keep g6)
  have hB6 := hB5.trans (grown_below g6 (Nat.le_refl _) hB5.size)
  have hbx := below_new w6 (.cells r.cells 27)
  have K : K25 w w6.heap.size r A n l Ac nc cl (w6.alloc (.cells r.cells 27)) := ⟨hL6.below hbx, hC6.below hbx, heap_alloc_new w6 _, below_next hB6 hbx⟩
  have hz7 : w6.heap.size < (w6.alloc (.cells r.cells 27)).heap.size := by simp
  clear hL5 hC5 hB5 s5 g6 s6 hL6 hC6 hB6 hbx
  have hor := or3_cl r cl l
  have hRF := Lib.hid (fun W => raceFault_c r W)
  have hLO := Lib.hid (fun W h => lengthsOf_c r W h)
  have hF1 := Lib.hid (fun W h => clocksFault_c Ac nc cc cl W h)
  have hF2 := Lib.hid (fun W h => signalsFault_c A n c l W h)
  have hLF := Lib.hid (fun W h1 h2 h3 h4 => laneFault_c Ac nc cc cl A n c l heat lane W h1 h2 h3 h4 (by omega))
  have hTO := Lib.hid (fun (h5 : 1 ≤ heat) (h6 : heat ≤ ((startsV cl l).length : Int)) W h1 h2 h3 h4 => show Calls Tryz.prog 126 #[.slice Ac nc cc, .slice A n c, .int .i64 heat, .int .i64 lane] W (RetI W (touV cl l heat.toNat lane)) by
    have := touchesOf_c Ac nc cc cl A n c l W h1 h2 h3 h4 (by omega) heat.toNat (by omega) (by omega) lane
    rwa [show ((heat.toNat : Nat) : Int) = heat by omega] at this)
  have hLA := Lib.hid (fun (N : Nat) (hN : raceErr r = 0 → lenV r = (N : Int) ∧ 1 ≤ N ∧ N ≤ 16) W h1 h2 => padLaps39_c r N hN Ac nc cc cl A n c l heat lane W h1 h2 (by omega))
  have hGH := Lib.hid (fun (N : Nat) (hN : raceErr r = 0 → lenV r = (N : Int) ∧ 1 ≤ N ∧ N ≤ 16) W h1 h2 => padGhosts_c r N hN Ac nc cc cl A n c l heat lane W h1 h2 (by omega))
  have hLR := Lib.hid (fun (N : Nat) (h1 : raceErr r = 0) (h2 : lenV r = (N : Int)) (h3 : 1 ≤ N) (h4 : N ≤ 16) L W hl hb hT => padLapsRef_c r N h1 h2 h3 h4 (.slice Ac nc cc) (.slice A n c) (.int .i64 heat) (.int .i64 lane) L W hl hb hT)
  have hGR := Lib.hid (fun (N : Nat) (h1 : raceErr r = 0) (h2 : lenV r = (N : Int)) (h3 : 1 ≤ N) (h4 : N ≤ 16) L W hl hb hT => ghostsOf_c r N h1 h2 h3 h4 (.slice Ac nc cc) (.slice A n c) (.int .i64 heat) (.int .i64 lane) L W hl hb hT)
  have hKc := fun wx (h : K25 w w6.heap.size r A n l Ac nc cl wx) => h.cl_
  have hKl := fun wx (h : K25 w w6.heap.size r A n l Ac nc cl wx) => h.li
  have hKf := fun wx (h : K25 w w6.heap.size r A n l Ac nc cl wx) => (blk_facts h.blk).1
  have hKB := fun wx (h : K25 w w6.heap.size r A n l Ac nc cl wx) => h.bel
  have hKb := fun wx w' (h : K25 w w6.heap.size r A n l Ac nc cl wx) (hb : Below wx.heap.size wx w') => h.below hb
  have hlv := Lib.hid (fun h => lenNat (r := r) h)
  have htl := touV_len cl l heat.toNat lane
  rw [hl] at htl
  have htb : Hid (1 ≤ heat → heat ≤ ((startsV cl l).length : Int) → ∀ x ∈ touV cl l heat.toNat lane, 0 ≤ x ∧ x ≤ 1000000000) := Lib.hid (fun h1 h2 x hx => ⟨touV_ge cl l heat.toNat lane (by omega) (by omega) x hx, by have := touV_le cl l heat.toNat lane x hx; omega⟩)
  have hok := Lib.hid (fun h => both_ok (cl := cl) (l := l) h)
  have hlo : Hid (bothErr cl l = 0 → laneErr cl l heat lane = 0 → 1 ≤ heat ∧ heat ≤ (startsV cl l).length) := Lib.hid (fun h0 h => by
    have := ttE_ok (cl := cl) (l := l) (heat := heat) (lane := lane) (by unfold ttE; rw [if_neg (by simpa using h0)]; exact h)
    exact this.2)
  have hcE : Hid (clE r cl l heat lane = if raceErr r ≠ 0 then raceErr r else if bothErr cl l ≠ 0 then bothErr cl l else laneErr cl l heat lane) := Lib.hid (by unfold clE ttE; rfl)
  generalize K25 w w6.heap.size r A n l Ac nc cl = KK at *
  generalize clE r cl l heat lane = CE at *
  generalize laneErr cl l heat lane = LE at *
  generalize bothErr cl l = BE at *
  generalize clkErr cl = CKE at *
  generalize sigErr l = SGE at *
  generalize raceErr r = RE at *
  generalize lenV r = LV at *
  generalize touV cl l heat.toNat lane = TV at *
  generalize (startsV cl l).length = SL at *
  have hKf' := fun wx h => show ∀ i, wx.cell? ⟨w6.heap.size, i, none⟩ = r.cells[i]? from hKf wx h
  clear hKf
  obtain ⟨key, metres, stroke, course, legs, sex, young, old⟩ := r
  dsimp only [Race.val, Race.cells] at *
  have hbs := hz7
  go_wp2_with fail
  generalize w6.heap.size = b4 at *
  refine (hRF.out _).mono ?_; rintro e w8 ⟨rfl, B8⟩
  replace K := hKb _ _ K B8
  clear B8
  by_cases hR : RE = 0
  · obtain ⟨hv1, hv2⟩ := hlv.out hR
    obtain ⟨N, hN⟩ : ∃ N : Nat, LV.toNat = N := ⟨_, rfl⟩
    rw [hN] at hv1 hv2
    subst hv1
    clear hN
    subst hR
    have C9 := hKf' _ K
    go_wp2_with fail
    refine (hLO.out _ (by first | rfl | trivial)).mono ?_; rintro e w9 ⟨rfl, B9⟩
    replace K := hKb _ _ K B9
    clear B9 C9
    by_cases hv : (N : Int) > 16
    · clear hRF hLO hLA hGH hLR hGR hLF hTO hF1 hF2
      go_wp2_with fail
      refine (padded1_c _).mono ?_; rintro e w10 ⟨rfl, B10⟩
      replace K := hKb _ _ K B10
      clear B10
      have hfB := hKB _ K
      go_wp2
      go_ret
      exact ⟨rfl, hfB⟩
    · have hLA2 := Lib.hid (hLA.out N (fun _ => ⟨rfl, hv2, by omega⟩))
      have hGH2 := Lib.hid (hGH.out N (fun _ => ⟨rfl, hv2, by omega⟩))
      have hLR2 := Lib.hid (hLR.out N (by first | rfl | trivial) rfl hv2 (by omega))
      have hGR2 := Lib.hid (hGR.out N (by first | rfl | trivial) rfl hv2 (by omega))
      clear hLA hGH hLR hGR hLO
      have hcE' := hcE.out
      clear hcE
      rw [if_neg (by simp)] at hcE' hor
      have C11 := hKf' _ K
      go_wp2_with fail
      refine (hRF.out _).mono ?_; rintro e w11 ⟨rfl, B11⟩
      replace K := hKb _ _ K B11
      clear B11 C11
      go_wp2_with fail
      refine (hF1.out _ (hKc _ K)).mono ?_; rintro e w12 ⟨rfl, B12⟩
      replace K := hKb _ _ K B12
      clear B12
      go_wp2_with fail
      refine (hF2.out _ (hKl _ K)).mono ?_; rintro e w13 ⟨rfl, B13⟩
      replace K := hKb _ _ K B13
      clear B13
      have hE0 : (0 : Int) = 0 := rfl
      go_wp2_with fail
      refine (orE_c _ _ _ [0, CKE, SGE] _ (R1.litAt _ _ _ [_, _, _] (by first | rfl | simp) rfl (by simp))).mono ?_; rintro e w14 ⟨rfl, rfl⟩
      replace K := hKb _ _ K (below_new _ (.cells #[.int .i64 0, .int .i64 CKE, .int .i64 SGE] 33))
      rw [hor]
      clear hor hE0 hRF hF1 hF2
      by_cases hB : BE = 0
      · obtain ⟨m1, m2, _, _⟩ := hok.out hB
        have hlo2 := Lib.hid (hlo.out hB)
        rw [if_neg (by simpa using hB)] at hcE'
        subst hB
        have hLF2 := Lib.hid (fun W h1 h2 => hLF.out W h1 h2 m1 m2)
        have hTO2 := Lib.hid (fun h5 h6 W h1 h2 => hTO.out h5 h6 W h1 h2 m1 m2)
        clear hLF hTO m1 m2 hok hlo
        have C15 := hKf' _ K
        go_wp2_with fail
        refine (hLF2.out _ (hKc _ K) (hKl _ K)).mono ?_; rintro e w15 ⟨rfl, B15⟩
        replace K := hKb _ _ K B15
        clear B15 C15
        subst hcE'
        by_cases hL : CE = 0
        · obtain ⟨q1, q2⟩ := hlo2.out hL
          have htb2 := htb.out q1 q2
          have hTO3 := Lib.hid (hTO2.out q1 q2)
          subst hL
          rw [if_pos rfl] at hLA2 hGH2
          have hLR3 := Lib.hid (fun W hT => hLR2.out TV W (by omega) htb2 hT)
          have hGR3 := Lib.hid (fun W hT => hGR2.out TV W (by omega) htb2 hT)
          clear hLR2 hGR2 htb htb2 hTO2 hlo2
          generalize lapsV N TV = LX at *
          generalize ghostV N TV = GX at *
          have C20 := hKf' _ K
          go_wp2_with fail
          refine (hLA2.out _ (hKc _ K) (hKl _ K)).mono ?_; rintro e w20 ⟨A20, c20, rfl, r20, B20⟩
          replace K := hKb _ _ K B20
          clear B20 C20
          have C21 := hKf' _ K
          go_wp2_with fail
          refine (hGH2.out _ (hKc _ K) (hKl _ K)).mono ?_; rintro e w21 ⟨A21, c21, rfl, r21, B21⟩
          replace r20 := r20.below B21
          replace K := hKb _ _ K B21
          clear B21 C21
          have C22 := hKf' _ K
          go_wp2_with fail
          refine (hLR3.out _ (fun W B => hTO3.out W (hKc _ (hKb _ _ K B)) (hKl _ (hKb _ _ K B)))).mono ?_; rintro e w22 ⟨A22, c22, rfl, o22, B22⟩
          replace r20 := r20.below B22
          replace r21 := r21.below B22
          have r22 : RLp w22 A22 LX.length LX := RN.of_own lpE_len o22 rfl (by have := r20.bd; omega)
          replace K := hKb _ _ K B22
          clear B22 C22
          go_wp2_with fail
          refine (equalLp_c _ _ _ _ _ _ _ _ _ r20 r22).mono ?_; rintro e w23 ⟨rfl, qq, rfl⟩
          have hD := below_drewN (Below.refl w22.heap.size w22) qq
          replace r21 := r21.below hD
          replace K := hKb _ _ K hD
          rw [show decide (LX = LX) = true from decide_eq_true rfl]
          clear hD r20 r22
          have C24 := hKf' _ K
          go_wp2_with fail
          refine (hGR3.out _ (fun W B => hTO3.out W (hKc _ (hKb _ _ K B)) (hKl _ (hKb _ _ K B)))).mono ?_; rintro e w24 ⟨A24, c24, rfl, r24, B24⟩
          replace r21 := r21.below B24
          replace K := hKb _ _ K B24
          clear B24 C24
          go_wp2_with fail
          refine (equalI_same _ _ _ _ _ _ _ r21 r24).mono ?_; rintro e w25 ⟨rfl, B25⟩
          replace K := hKb _ _ K B25
          clear B25 r21 r24
          go_wp2_with fail
          refine (padded1_c _).mono ?_; rintro e w26 ⟨rfl, B26⟩
          replace K := hKb _ _ K B26
          clear B26
          have hfB := hKB _ K
          go_wp2
          go_ret
          exact ⟨rfl, hfB⟩
        · have hL1 : (CE == 0) = false := by simpa using hL
          have hL2 : (CE != 0) = true := by simpa using hL
          rw [if_neg hL] at hLA2 hGH2
          clear hL hLR2 hGR2 hTO2 hlo2 htb
          have C20 := hKf' _ K
          go_wp2_with fail
          refine (hLA2.out _ (hKc _ K) (hKl _ K)).mono ?_; rintro e w20 ⟨A20, c20, rfl, r20, B20⟩
          replace K := hKb _ _ K B20
          clear B20 C20
          have C21 := hKf' _ K
          go_wp2_with fail
          refine (hGH2.out _ (hKc _ K) (hKl _ K)).mono ?_; rintro e w21 ⟨A21, c21, rfl, r21, B21⟩
          replace K := hKb _ _ K B21
          clear B21 C21
          go_wp2_with fail
          refine (padded1_c _).mono ?_; rintro e w22 ⟨rfl, B22⟩
          replace K := hKb _ _ K B22
          clear B22
          have hfB := hKB _ K
          go_wp2
          go_ret
          exact ⟨rfl, hfB⟩
      · have hL1 : (BE == 0) = false := by simpa using hB
        have hL2 : (BE != 0) = true := by simpa using hB
        rw [if_pos hB] at hcE'
        subst hcE'
        rw [if_neg hB] at hLA2 hGH2
        clear hB hLR2 hGR2 htb hok hlo hLF hTO
        have C20 := hKf' _ K
        go_wp2_with fail
        refine (hLA2.out _ (hKc _ K) (hKl _ K)).mono ?_; rintro e w20 ⟨A20, c20, rfl, r20, B20⟩
        replace K := hKb _ _ K B20
        clear B20 C20
        have C21 := hKf' _ K
        go_wp2_with fail
        refine (hGH2.out _ (hKc _ K) (hKl _ K)).mono ?_; rintro e w21 ⟨A21, c21, rfl, r21, B21⟩
        replace K := hKb _ _ K B21
        clear B21 C21
        go_wp2_with fail
        refine (padded1_c _).mono ?_; rintro e w22 ⟨rfl, B22⟩
        replace K := hKb _ _ K B22
        clear B22
        have hfB := hKB _ K
        go_wp2
        go_ret
        exact ⟨rfl, hfB⟩
  · have hR1 : (RE == 0) = false := by simpa using hR
    have hR2 : (RE != 0) = true := by simpa using hR
    have hLA2 := Lib.hid (hLA.out 1 (fun h => absurd h hR))
    have hGH2 := Lib.hid (hGH.out 1 (fun h => absurd h hR))
    have hcE' := hcE.out
    rw [if_pos hR] at hcE' hor
    subst hcE'
    rw [if_neg hR] at hLA2 hGH2
    clear hLA hGH hLR hGR hLO hTO hLF hcE hlo hok htb hlv
    have C11 := hKf' _ K
    go_wp2_with fail
    refine (hRF.out _).mono ?_; rintro e w11 ⟨rfl, B11⟩
    replace K := hKb _ _ K B11
    clear B11 C11
    go_wp2_with fail
    refine (hF1.out _ (hKc _ K)).mono ?_; rintro e w12 ⟨rfl, B12⟩
    replace K := hKb _ _ K B12
    clear B12
    go_wp2_with fail
    refine (hF2.out _ (hKl _ K)).mono ?_; rintro e w13 ⟨rfl, B13⟩
    replace K := hKb _ _ K B13
    clear B13
    go_wp2_with fail
    refine (orE_c _ _ _ [CE, CKE, SGE] _ (R1.litAt _ _ _ [_, _, _] (by first | rfl | simp) rfl (by simp))).mono ?_; rintro e w14 ⟨rfl, rfl⟩
    replace K := hKb _ _ K (below_new _ (.cells #[.int .i64 CE, .int .i64 CKE, .int .i64 SGE] 33))
    rw [hor]
    clear hor hRF hF1 hF2 hR
    have C20 := hKf' _ K
    go_wp2_with fail
    refine (hLA2.out _ (hKc _ K) (hKl _ K)).mono ?_; rintro e w20 ⟨A20, c20, rfl, r20, B20⟩
    replace K := hKb _ _ K B20
    clear B20 C20
    have C21 := hKf' _ K
    go_wp2_with fail
    refine (hGH2.out _ (hKc _ K) (hKl _ K)).mono ?_; rintro e w21 ⟨A21, c21, rfl, r21, B21⟩
    replace K := hKb _ _ K B21
    clear B21 C21
    go_wp2_with fail
    refine (padded1_c _).mono ?_; rintro e w22 ⟨rfl, B22⟩
    replace K := hKb _ _ K B22
    clear B22
    have hfB := hKB _ K
    go_wp2
    go_ret
    exact ⟨rfl, hfB⟩
end Go.Proofs.YtcdnjehkkbnfbaaGreatDoor
