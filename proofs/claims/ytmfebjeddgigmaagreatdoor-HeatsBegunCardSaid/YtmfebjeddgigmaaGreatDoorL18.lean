/- HeatsBegun: Starts, HeatOf and Touches: the walk. -/
import Derived.Test.YtmfebjeddgigmaaGreatDoorSgN
import Derived.Test.YtmfebjeddgigmaaGreatDoorClkM
import Derived.Test.YtmfebjeddgigmaaGreatDoorPadF
import Derived.Test.YtmfebjeddgigmaaGreatDoorReady4
namespace Go.Proofs.YtmfebjeddgigmaaGreatDoor
open Go.RowKit Go.Shelf Go.Lib Go.Sort
set_option linter.unusedVariables false

theorem padded1_c (w : World) : Calls Tryz.prog 26 #[] w fun e w' => e = .returned (.bool true) ∧ Below w.heap.size w w' := by
  have h0 := heap_alloc_new w (.cells #[.string ⟨#[97]⟩, .int .i64 10, .int .i64 5] 165)
  have hB0 := below_new w (.cells #[.string ⟨#[97]⟩, .int .i64 10, .int .i64 5] 165)
  go_enter Tryz.func26, Tryz.ntmps26
  go_wp2_with fail
  refine (right_c _ _ h0).mono ?_; rintro e w1 ⟨rfl, B1⟩
  go_wp2
  go_ret
  exact ⟨rfl, below_next hB0 B1⟩
theorem heatNo_c (g : Nat) (zs : List Int) (k : Nat) (w : World) (h : St w g zs k) (hk : k ≤ 1099511627776) :
    Calls Tryz.prog 14 #[.pointer (some ⟨g, 0, none⟩)] w fun e w' => ∃ v : Int, e = .returned (.int .i64 v) ∧ (0 ≤ v ∧ v ≤ 61) ∧ St w' g zs (k + 1) ∧ w.grownBy w' (some g) := by
  have hP := pickB_c g zs k [1, 1, 1, 1, 2, 2, 3, 0, 61] 0 61 9 9 w.heap.size #[.int .i64 1, .int .i64 1, .int .i64 1, .int .i64 1, .int .i64 2, .int .i64 2, .int .i64 3, .int .i64 0, .int .i64 61] w h hk rfl rfl rfl (by decide) (by decide) (by simp)
  go_enter Tryz.func14, Tryz.ntmps14
  go_wp2_with fail
  refine hP.mono ?_; rintro e w1 ⟨v, rfl, v0, v1, s1, g1⟩
  go_wp2
  go_ret
  exact ⟨v, rfl, ⟨v0, v1⟩, s1, g1⟩
theorem equalI_same (A1 A2 : Option Addr) (n c m d : Nat) (l : List Int) {w : World} (h1 : RI 3 w A1 n l) (h2 : RI 3 w A2 m l) :
    Calls Tryz.prog 19 #[.slice A1 n c, .slice A2 m d] w fun e w' => e = .returned (.bool true) ∧ Below w.heap.size w w' :=
  (equal_c A1 A2 n c m d l l w h1 h2).mono fun e w' ⟨he, hB⟩ => ⟨by rw [he]; unfold eqB; simp, hB⟩
structure K18 (w : World) (A : Option Addr) (n : Nat) (l : List Sg) (Ac : Option Addr) (nc : Nat) (cl : List Ck) (wx : World) : Prop where
  li : RSg wx A n l
  cl_ : RCk wx Ac nc cl
  bel : Below w.heap.size w wx
theorem K18.below {w : World} {A : Option Addr} {n : Nat} {l : List Sg} {Ac : Option Addr} {nc : Nat} {cl : List Ck} {wx w' : World} (h : K18 w A n l Ac nc cl wx) (hb : Below wx.heap.size wx w') : K18 w A n l Ac nc cl w' := ⟨h.li.below hb, h.cl_.below hb, below_next h.bel hb⟩
theorem both_or (cl : List Ck) (l : List Sg) : orV [clkErr cl, sigErr l] = bothErr cl l := by
  unfold bothErr
  simp only [orV]
  by_cases h : clkErr cl ≠ 0
  · rw [if_pos h, if_pos h]
  · rw [if_neg h, if_neg h]
    by_cases h2 : sigErr l ≠ 0
    · rw [if_pos h2]
    · rw [if_neg h2, Decidable.not_not.1 h2]
set_option maxHeartbeats 6400000 in
set_option maxRecDepth 100000 in
theorem heatsBegun_walk (a0 : Option Addr) (len0 cap0 : Nat) (z0 : List Int) (w : World) (w0 : IsRow .i64 w a0 len0 cap0 z0) :
    Calls Tryz.prog 3 #[.slice a0 len0 cap0] w fun e w' => e = .returned (.bool true) ∧ Below w.heap.size w w' := by
  have hs := law_start w0
  clear w0
  generalize z0.take len0 = zs at *
  go_enter Tryz.func3, Tryz.ntmps3
  go_wp2_with fail
  have hs' : St (w.alloc (.cells #[.slice a0 len0 cap0, .int .i64 0] 25)) w.heap.size zs 0 := hs
  refine (signals_c _ zs 0 _ hs' (by omega)).mono ?_; rintro e w2 ⟨A, n, c, l, k2, rfl, ho, hl, hn1, hn18, s2, hk2, g2⟩
  have hL2 : RSg w2 A n l := RN.of_own sgE_len ho hl (by omega)
  have hB2 := (below_new w (.cells #[.slice a0 len0 cap0, .int .i64 0] 25)).trans (grown_below g2 (Nat.le_refl _) (by simp))
  clear hs hs' ho g2
  go_wp2_with fail
  refine (clocks_c _ zs k2 _ s2 (by omega)).mono ?_; rintro e w3 ⟨Ac, nc, cc, cl, k3, rfl, hC3, hnc, s3, hk3, g3⟩
  have hL3 := hL2.keep (T := 25) (by decide) (s2.keep g3)
  have hB3 := hB2.trans (grown_below g3 (Nat.le_refl _) hB2.size)
  clear hL2 hB2 s2 g3
  go_wp2_with fail
  refine (pickB_c _ zs k3 [0, 999, 1000, 1200, 50000, 201000, 300000, -1] (-1) 300000 8 8 _ #[.int .i64 0, .int .i64 999, .int .i64 1000, .int .i64 1200, .int .i64 50000, .int .i64 201000, .int .i64 300000, .int .i64 (-1)] w3 s3 (by omega) rfl rfl rfl (by decide) (by decide) (by simp)).mono ?_; rintro e w4 ⟨tm, rfl, tm0, tm1, s4, g4⟩
  have hL4 := hL3.keep (T := 25) (by decide) (s3.keep g4)
  have hC4 := hC3.keep (T := 25) (by decide) (s3.keep g4)
  have hB4 := hB3.trans (grown_below g4 (Nat.le_refl _) hB3.size)
  clear hL3 hC3 hB3 s3 g4
  go_wp2_with fail
  refine (heatNo_c _ zs _ _ s4 (by omega)).mono ?_; rintro e w5 ⟨heat, rfl, ⟨he0, he1⟩, s5, g5⟩
  have hL5 := hL4.keep (T := 25) (by decide) (s4.keep g5)
  have hC5 := hC4.keep (T := 25) (by decide) (s4.keep g5)
  have hB5 := hB4.trans (grown_below g5 (Nat.le_refl _) hB4.size)
  clear hL4 hC4 hB4 s4 g5
  go_wp2_with fail
  refine (pickB_c _ zs _ [1, 1, 2, 3, 0, 11] 0 11 6 6 _ #[.int .i64 1, .int .i64 1, .int .i64 2, .int .i64 3, .int .i64 0, .int .i64 11] w5 s5 (by omega) rfl rfl rfl (by decide) (by decide) (by simp)).mono ?_; rintro e w6 ⟨lane, rfl, la0, la1, s6, g6⟩
  have K : K18 w A n l Ac nc cl w6 := ⟨hL5.keep (T := 25) (by decide) (s5.keep g6), hC5.keep (T := 25) (by decide) (s5.keep g6), hB5.trans (grown_below g6 (Nat.le_refl _) hB5.size)⟩
  clear hL5 hC5 hB5 s5 g6 s6
  have hok := Lib.hid (fun h => both_ok (cl := cl) (l := l) h)
  have hor := both_or cl l
  have hF1 := Lib.hid (fun W h => clocksFault_c Ac nc cc cl W h)
  have hF2 := Lib.hid (fun W h => signalsFault_c A n c l W h)
  have hS := Lib.hid (fun W h1 h2 => starts20_c Ac nc cc cl A n c l W h1 h2)
  have hSO := Lib.hid (fun W h1 h2 h3 h4 => startsOf_c Ac nc cc cl A n c l W h1 h2 h3 h4 (by omega))
  have hHO := Lib.hid (fun W h1 h2 => heatOf23_c Ac nc cc cl A n c l tm W h1 h2)
  have hHA := Lib.hid (fun W h1 h2 h3 h4 => heatAt_c Ac nc cc cl A n c l tm W h1 h2 h3 h4 (by omega))
  have hT := Lib.hid (fun W h1 h2 => touches26_c Ac nc cc cl A n c l heat lane W h1 h2 (by omega))
  have hLF := Lib.hid (fun W h1 h2 h3 h4 => laneFault_c Ac nc cc cl A n c l heat lane W h1 h2 h3 h4 (by omega))
  have hTO := Lib.hid (fun (H : Nat) (e1 : (H : Int) = heat) W h1 h2 h3 h4 h5 h6 => show Calls Tryz.prog 27 #[.slice Ac nc cc, .slice A n c, .int .i64 heat, .int .i64 lane] W (RetI W (touV cl l heat.toNat lane)) by
    have := touchesOf_c Ac nc cc cl A n c l W h1 h2 h3 h4 (by omega) H h5 h6 lane
    rwa [e1, show H = heat.toNat by omega] at this)
  have hKl : ∀ wx, K18 w A n l Ac nc cl wx → RSg wx A n l := fun wx h => h.li
  have hKc : ∀ wx, K18 w A n l Ac nc cl wx → RCk wx Ac nc cl := fun wx h => h.cl_
  have hKB : ∀ wx, K18 w A n l Ac nc cl wx → Below w.heap.size w wx := fun wx h => h.bel
  have hKb : ∀ wx w', K18 w A n l Ac nc cl wx → Below wx.heap.size wx w' → K18 w A n l Ac nc cl w' := fun _ _ h hb => h.below hb
  generalize K18 w A n l Ac nc cl = KK at *
  have hsl := startsV_len cl l
  rw [hl] at hsl
  have hsl2 := startsV_len cl l
  have htl := touV_len cl l heat.toNat lane
  rw [hl] at htl
  go_wp2_with fail
  refine (hF1.out _ (hKc _ K)).mono ?_; rintro e w7 ⟨rfl, B7⟩
  replace K := hKb _ _ K B7
  clear B7 hF1
  go_wp2_with fail
  refine (hF2.out _ (hKl _ K)).mono ?_; rintro e w8 ⟨rfl, B8⟩
  replace K := hKb _ _ K B8
  clear B8 hF2
  go_wp2_with fail
  refine (orE_c _ _ _ [clkErr cl, sigErr l] _ (R1.litAt _ _ _ [_, _] (by first | rfl | simp) rfl (by simp))).mono ?_; rintro e w9 ⟨rfl, rfl⟩
  replace K := hKb _ _ K (below_new _ (.cells #[.int .i64 (clkErr cl), .int .i64 (sigErr l)] 32))
  rw [hor]
  generalize clkErr cl = e1 at *
  generalize sigErr l = e2 at *
  go_wp2_with fail
  refine (hS.out _ (hKc _ K) (hKl _ K)).mono ?_; rintro e w11 ⟨A1, c1, rfl, hR1, B11⟩
  replace K := hKb _ _ K B11
  clear B11 hS hor
  by_cases hE : bothErr cl l = 0
  · obtain ⟨b1, b2, _, _⟩ := hok.out hE
    have hSO2 := Lib.hid (fun W h1 h2 => hSO.out W h1 h2 b1 b2)
    have hHA2 := Lib.hid (fun W h1 h2 => hHA.out W h1 h2 b1 b2)
    have hLF2 := Lib.hid (fun W h1 h2 => hLF.out W h1 h2 b1 b2)
    have hTO2 := Lib.hid (fun H e1 W h1 h2 => hTO.out H e1 W h1 h2 b1 b2)
    have hte : Hid (ttE cl l heat lane = laneErr cl l heat lane) := Lib.hid (by unfold ttE; rw [if_neg (by simpa using hE)])
    have hlo : Hid (laneErr cl l heat lane = 0 → 1 ≤ heat ∧ heat ≤ (startsV cl l).length) := Lib.hid (fun h => by
      have := ttE_ok (cl := cl) (l := l) (heat := heat) (lane := lane) (by rw [hte.out]; exact h)
      exact this.2)
    have hho : Hid (hofE cl l tm = momErr tm) := Lib.hid (by unfold hofE; rw [if_neg (by simpa using hE)])
    rw [hE, if_pos rfl] at hR1
    clear hSO hHA hLF hTO hok b1 b2
    rw [hE]
    have hte1 := Lib.hid (fun W h1 h2 => hT.out W h1 h2)
    rw [hte.out] at hte1
    have hho1 := Lib.hid (fun W h1 h2 => hHO.out W h1 h2)
    rw [hho.out] at hho1
    have hVH : Hid (momErr tm = 0 → hofV cl l tm = heatV cl l tm) := Lib.hid (fun h => by unfold hofV; rw [hho.out, if_pos h])
    have hV0 : Hid (momErr tm ≠ 0 → hofV cl l tm = 0) := Lib.hid (fun h => by unfold hofV; rw [hho.out, if_neg h])
    have hmM : Hid (∀ W, Calls Tryz.prog 22 #[.int .i64 tm] W fun e w' => e = .returned (.int .i64 (momErr tm)) ∧ W = w') := Lib.hid (fun W => momentFault_c tm W)
    clear hT hHO hte hho
    generalize hofV cl l tm = HV at *
    generalize heatV cl l tm = HA at *
    generalize momErr tm = ME at *
    generalize touV cl l heat.toNat lane = TV at *
    generalize startsV cl l = SV at *
    generalize laneErr cl l heat lane = LE at *
    clear hE
    go_wp2_with fail
    refine (hSO2.out _ (hKc _ K) (hKl _ K)).mono ?_; rintro e w12 ⟨A2, c2, rfl, hO2, B12⟩
    have hR2 : RI 3 w12 A2 SV.length SV := R1.of_own hO2 (by omega)
    replace hR1 := hR1.below B12
    replace K := hKb _ _ K B12
    clear B12 hSO2 hO2
    go_wp2_with fail
    refine (equalI_same _ _ _ _ _ _ _ hR1 hR2).mono ?_; rintro e w13 ⟨rfl, B13⟩
    replace K := hKb _ _ K B13
    clear B13 hR1 hR2
    go_wp2_with fail
    refine (hho1.out _ (hKc _ K) (hKl _ K)).mono ?_; rintro e w14 ⟨rfl, B14⟩
    replace K := hKb _ _ K B14
    clear B14 hho1
    go_wp2_with fail
    refine (hmM.out _).mono ?_; rintro e w' ⟨rfl, rfl⟩
    clear hmM
    go_wp2_with fail
    refine (orE_c _ _ _ [0, ME] _ (R1.litAt _ _ _ [_, _] (by first | rfl | simp) rfl (by simp))).mono ?_; rintro e w15 ⟨rfl, rfl⟩
    replace K := hKb _ _ K (below_new _ (.cells #[.int .i64 0, .int .i64 ME] 32))
    have hoM : orV [0, ME] = ME := by simp only [orV]; by_cases h : ME = 0 <;> simp [h]
    rw [hoM]
    clear hoM
    by_cases hM : ME = 0
    · obtain rfl : HV = HA := hVH.out hM
      subst hM
      clear hVH hV0
      go_wp2_with fail
      refine (hHA2.out _ (hKc _ K) (hKl _ K)).mono ?_; rintro e w16 ⟨rfl, B16⟩
      replace K := hKb _ _ K B16
      clear B16 hHA2
      by_cases hL : LE = 0
      · obtain ⟨q1, q2⟩ := hlo.out hL
        rw [if_pos hL] at hte1
        subst hL
        go_wp2_with fail
        refine (hte1.out _ (hKc _ K) (hKl _ K)).mono ?_; rintro e w17 ⟨A7, c7, rfl, hR7, B17⟩
        replace K := hKb _ _ K B17
        clear B17 hte1
        go_wp2_with fail
        refine (hLF2.out _ (hKc _ K) (hKl _ K)).mono ?_; rintro e w18 ⟨rfl, B18⟩
        replace hR7 := hR7.below B18
        replace K := hKb _ _ K B18
        clear B18 hLF2
        have hTO3 := Lib.hid (fun W h1 h2 => hTO2.out heat.toNat (by omega) W h1 h2 (by omega) (by omega))
        clear hTO2 hlo
        go_wp2_with fail
        refine (hTO3.out _ (hKc _ K) (hKl _ K)).mono ?_; rintro e w19 ⟨A8, c8, rfl, hO8, B19⟩
        have hR8 : RI 3 w19 A8 TV.length TV := R1.of_own hO8 (by omega)
        replace hR7 := hR7.below B19
        replace K := hKb _ _ K B19
        clear B19 hO8 hTO3
        go_wp2_with fail
        refine (equalI_same _ _ _ _ _ _ _ hR7 hR8).mono ?_; rintro e w20 ⟨rfl, B20⟩
        replace K := hKb _ _ K B20
        clear B20 hR7 hR8
        go_wp2_with fail
        refine (padded1_c _).mono ?_; rintro e w21 ⟨rfl, B21⟩
        replace K := hKb _ _ K B21
        have hfB := hKB _ K
        go_wp2
        go_ret
        exact ⟨rfl, hfB⟩
      · rw [if_neg hL] at hte1
        have hL1 : (LE == 0) = false := by simpa using hL
        clear hL hTO2 hlo
        go_wp2_with fail
        refine (hte1.out _ (hKc _ K) (hKl _ K)).mono ?_; rintro e w17 ⟨A7, c7, rfl, hR7, B17⟩
        replace K := hKb _ _ K B17
        clear B17 hte1 hR7
        go_wp2_with fail
        refine (hLF2.out _ (hKc _ K) (hKl _ K)).mono ?_; rintro e w18 ⟨rfl, B18⟩
        replace K := hKb _ _ K B18
        clear B18 hLF2
        go_wp2_with fail
        refine (padded1_c _).mono ?_; rintro e w21 ⟨rfl, B21⟩
        replace K := hKb _ _ K B21
        have hfB := hKB _ K
        go_wp2
        go_ret
        exact ⟨rfl, hfB⟩
    · obtain rfl : HV = 0 := hV0.out hM
      have hM1 : (ME == 0) = false := by simpa using hM
      clear hVH hV0 hM hHA2
      by_cases hL : LE = 0
      · obtain ⟨q1, q2⟩ := hlo.out hL
        rw [if_pos hL] at hte1
        subst hL
        go_wp2_with fail
        refine (hte1.out _ (hKc _ K) (hKl _ K)).mono ?_; rintro e w17 ⟨A7, c7, rfl, hR7, B17⟩
        replace K := hKb _ _ K B17
        clear B17 hte1
        go_wp2_with fail
        refine (hLF2.out _ (hKc _ K) (hKl _ K)).mono ?_; rintro e w18 ⟨rfl, B18⟩
        replace hR7 := hR7.below B18
        replace K := hKb _ _ K B18
        clear B18 hLF2
        have hTO3 := Lib.hid (fun W h1 h2 => hTO2.out heat.toNat (by omega) W h1 h2 (by omega) (by omega))
        clear hTO2 hlo
        go_wp2_with fail
        refine (hTO3.out _ (hKc _ K) (hKl _ K)).mono ?_; rintro e w19 ⟨A8, c8, rfl, hO8, B19⟩
        have hR8 : RI 3 w19 A8 TV.length TV := R1.of_own hO8 (by omega)
        replace hR7 := hR7.below B19
        replace K := hKb _ _ K B19
        clear B19 hO8 hTO3
        go_wp2_with fail
        refine (equalI_same _ _ _ _ _ _ _ hR7 hR8).mono ?_; rintro e w20 ⟨rfl, B20⟩
        replace K := hKb _ _ K B20
        clear B20 hR7 hR8
        go_wp2_with fail
        refine (padded1_c _).mono ?_; rintro e w21 ⟨rfl, B21⟩
        replace K := hKb _ _ K B21
        have hfB := hKB _ K
        go_wp2
        go_ret
        exact ⟨rfl, hfB⟩
      · rw [if_neg hL] at hte1
        have hL1 : (LE == 0) = false := by simpa using hL
        clear hL hTO2 hlo
        go_wp2_with fail
        refine (hte1.out _ (hKc _ K) (hKl _ K)).mono ?_; rintro e w17 ⟨A7, c7, rfl, hR7, B17⟩
        replace K := hKb _ _ K B17
        clear B17 hte1 hR7
        go_wp2_with fail
        refine (hLF2.out _ (hKc _ K) (hKl _ K)).mono ?_; rintro e w18 ⟨rfl, B18⟩
        replace K := hKb _ _ K B18
        clear B18 hLF2
        go_wp2_with fail
        refine (padded1_c _).mono ?_; rintro e w21 ⟨rfl, B21⟩
        replace K := hKb _ _ K B21
        have hfB := hKB _ K
        go_wp2
        go_ret
        exact ⟨rfl, hfB⟩
  · have hV0 : hofV cl l tm = 0 := by unfold hofV hofE; rw [if_pos hE, if_neg hE]
    have hho : hofE cl l tm = bothErr cl l := by unfold hofE; rw [if_pos hE]
    have hte : ttE cl l heat lane = bothErr cl l := by unfold ttE; rw [if_pos hE]
    rw [hte] at hT
    rw [hho, hV0] at hHO
    have hmM : Hid (∀ W, Calls Tryz.prog 22 #[.int .i64 tm] W fun e w' => e = .returned (.int .i64 (momErr tm)) ∧ W = w') := Lib.hid (fun W => momentFault_c tm W)
    rw [if_neg hE] at hR1 ⊢
    clear hok hV0 hho hte hSO hHA hLF hTO hsl hsl2 htl
    generalize bothErr cl l = E at *
    have hE1 : (E == 0) = false := by simpa using hE
    generalize momErr tm = ME at *
    have hoM : orV [E, ME] = E := by simp only [orV]; rw [if_pos hE]
    have hT2 := Lib.hid (fun W h1 h2 => hT.out W h1 h2)
    rw [if_neg hE] at hT2
    clear hT
    go_wp2_with fail
    refine (hHO.out _ (hKc _ K) (hKl _ K)).mono ?_; rintro e w14 ⟨rfl, B14⟩
    replace K := hKb _ _ K B14
    clear B14 hHO hR1
    go_wp2_with fail
    refine (hmM.out _).mono ?_; rintro e w' ⟨rfl, rfl⟩
    clear hmM
    go_wp2_with fail
    refine (orE_c _ _ _ [E, ME] _ (R1.litAt _ _ _ [_, _] (by first | rfl | simp) rfl (by simp))).mono ?_; rintro e w15 ⟨rfl, rfl⟩
    replace K := hKb _ _ K (below_new _ (.cells #[.int .i64 E, .int .i64 ME] 32))
    rw [hoM]
    clear hoM
    go_wp2_with fail
    refine (hT2.out _ (hKc _ K) (hKl _ K)).mono ?_; rintro e w17 ⟨A7, c7, rfl, hR7, B17⟩
    replace K := hKb _ _ K B17
    clear B17 hT2 hR7
    go_wp2_with fail
    refine (padded1_c _).mono ?_; rintro e w18 ⟨rfl, B18⟩
    replace K := hKb _ _ K B18
    have hfB := hKB _ K
    go_wp2
    go_ret
    exact ⟨rfl, hfB⟩
end Go.Proofs.YtmfebjeddgigmaaGreatDoor
