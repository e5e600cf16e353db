/- SheetsMade: Touched and Sheets: the walk. Printed by wip/gen33.py. -/
import Derived.Test.YtcdnjehkkbnfbaaGreatDoorL25
import Derived.Test.YtcdnjehkkbnfbaaGreatDoorSheetC
import Derived.Test.YtcdnjehkkbnfbaaGreatDoorRegInv2
import Derived.Deep.DeepCutAuto
namespace Go.Proofs.YtcdnjehkkbnfbaaGreatDoor
open Go.RowKit Go.Shelf Go.Lib Go.Sort
set_option linter.unusedVariables false

/-- the error of sheets, as the law adds it up -/
theorem two_err (cl : List Ck) (l : List Sg) (heat lanes : Int) : orV [spanErr heat 1 60, spanErr lanes 1 10, noneErr (decide (((startsV cl l).length : Int) < heat))] = laneErr cl l heat lanes := by
  unfold laneErr spanErr noneErr
  simp only [orV]
  by_cases h1 : 1 ≤ heat ∧ heat ≤ 60 <;> by_cases h2 : 1 ≤ lanes ∧ lanes ≤ 10 <;> by_cases h3 : ((startsV cl l).length : Int) < heat <;> simp [h1, h2, h3]
def X13 (listed : Array Bool) (xs : Nat → Value) (TP TBn : Int) (TW : List Int) (w : World) : Prop := listed.getD 13 false = true → ∃ A c, xs 13 = .agg #[.int .i64 TP, .int .i64 TBn, .slice A TW.length c] ∧ RI 3 w A TW.length TW
theorem X13.put {listed : Array Bool} {xs : Nat → Value} {TP TBn : Int} {TW : List Int} {w w' : World} {i : Nat} {v : Value} (h : X13 listed xs TP TBn TW w) (hi : i ≠ 13) (hb : Below w.heap.size w w') : X13 (listed.setIfInBounds i true) (updV xs i v) TP TBn TW w' := fun h1 => by
  rw [getD_set_other _ hi] at h1
  obtain ⟨A, c, e, r⟩ := h h1
  exact ⟨A, c, by unfold updV; rw [if_neg (fun e => hi e.symm)]; exact e, r.below hb⟩
theorem X13.new {listed : Array Bool} {xs : Nat → Value} {TP TBn : Int} {TW : List Int} {w : World} {A : Option Addr} {c : Nat} (r : RI 3 w A TW.length TW) : X13 listed (updV xs 13 (.agg #[.int .i64 TP, .int .i64 TBn, .slice A TW.length c])) TP TBn TW w := fun _ => ⟨A, c, by unfold updV; rw [if_pos rfl], r⟩
set_option maxHeartbeats 6400000 in
set_option maxRecDepth 100000 in
theorem sheetsMade_walk (a0 : Option Addr) (len0 cap0 : Nat) (z0 : List Int) (w : World) (w0 : IsRow .i64 w a0 len0 cap0 z0) :
    Calls Tryz.prog 6 #[.slice a0 len0 cap0] w fun e w' => e = .returned (.bool true) ∧ Below w.heap.size w w' := by
  have hs := law_start w0
  clear w0
  generalize z0.take len0 = zs at *
  go_enter Tryz.func6, Tryz.ntmps6
  go_wp2_with fail
  have hs' : St (w.alloc (.cells #[.slice a0 len0 cap0, .int .i64 0] 25)) w.heap.size zs 0 := hs
  refine (swumRace_c w.heap.size zs 0 _ hs' (by omega)).mono ?_; rintro e w1 ⟨rfl, s1, g1⟩
  have hk1 := swumRace_k zs 0
  have hB1 : Below w.heap.size w w1 := (below_new w _).trans (grown_below g1 (Nat.le_refl _) (by simp))
  generalize (swumRace zs 0).1 = r at *
  generalize (swumRace zs 0).2 = k1 at *
  clear hs hs' g1
  go_wp2_with fail
  refine (signals_c _ zs k1 _ s1 (by omega)).mono ?_; rintro e w2 ⟨A, n, c, l, k2, rfl, ho, hl, hn1, hn18, s2, hk2, g2⟩
  have hL2 : RSg w2 A n l := RN.of_own sgE_len ho hl (by omega)
  have hB2 := hB1.trans (grown_below g2 (Nat.le_refl _) hB1.size)
  clear hB1 s1 ho g2
  go_wp2_with fail
  refine (clocks_c _ zs k2 _ s2 (by omega)).mono ?_; rintro e w3 ⟨Ac, nc, cc, cl, k3, rfl, hC3, hnc, s3, hk3, g3⟩
  have hL3 := hL2.keep (T := 25) (by decide) (s2.keep g3)
  have hB3 := hB2.trans (grown_below g3 (Nat.le_refl _) hB2.size)
  clear hL2 hB2 s2 g3
  go_wp2_with fail
  refine (heatNo_c _ zs _ _ s3 (by omega)).mono ?_; rintro e w5 ⟨heat, rfl, ⟨he0, he1⟩, s5, g5⟩
  have hL5 := hL3.keep (T := 25) (by decide) (s3.keep g5)
  have hC5 := hC3.keep (T := 25) (by decide) (s3.keep g5)
  have hB5 := hB3.trans (grown_below g5 (Nat.le_refl _) hB3.size)
  clear hL3 hC3 hB3 s3 g5
  go_wp2_with fail
  refine (pickB_c _ zs _ [1, 1, 2, 3, 11] 1 11 5 5 _ #[.int .i64 1, .int .i64 1, .int .i64 2, .int .i64 3, .int .i64 11] w5 s5 (by omega) rfl rfl rfl (by decide) (by decide) (by simp)).mono ?_; rintro e w6 ⟨lane, rfl, la0, la1, s6, g6⟩
  have hL6 := hL5.keep (T := 25) (by decide) (s5.keep g6)
  have hC6 := hC5.keep (T := 25) (by decide) (s5.keep g6)
  have hB6 := hB5.trans (grown_below g6 (Nat.le_refl _) hB5.size)
  clear hL5 hC5 hB5 s5 g6
  go_wp2_with fail
  refine (pickB_c _ zs _ [1, 3, 4, 0, 11] 0 11 5 5 _ #[.int .i64 1, .int .i64 3, .int .i64 4, .int .i64 0, .int .i64 11] w6 s6 (by omega) rfl rfl rfl (by decide) (by decide) (by simp)).mono ?_; rintro e w7 ⟨lanes, rfl, lb0, lb1, s7, g7⟩
  have hL7 := hL6.keep (T := 25) (by decide) (s6.keep g7)
  have hC7 := hC6.keep (T := 25) (by decide) (s6.keep g7)
  have hB7 := hB6.trans (grown_below g7 (Nat.le_refl _) hB6.size)
  have hbx := below_new w7 (.cells r.cells 27)
  have K : K25 w w7.heap.size r A n l Ac nc cl (w7.alloc (.cells r.cells 27)) := ⟨hL7.below hbx, hC7.below hbx, heap_alloc_new w7 _, below_next hB7 hbx⟩
  clear hL6 hC6 hB6 s6 g7 s7 hL7 hC7 hB7 hbx
  have hor := or3_cl r cl l
  have hRF := Lib.hid (fun W => raceFault_c r W)
  have hLO := Lib.hid (fun W h => lengthsOf_c r W h)
  have hF1 := Lib.hid (fun W h => clocksFault_c Ac nc cc cl W h)
  have hF2 := Lib.hid (fun W h => signalsFault_c A n c l W h)
  have hLF := Lib.hid (fun W h1 h2 h3 h4 => laneFault_c Ac nc cc cl A n c l heat lane W h1 h2 h3 h4 (by omega))
  have hSO := Lib.hid (fun W h1 h2 h3 h4 => startsOf_c Ac nc cc cl A n c l W h1 h2 h3 h4 (by omega))
  have hTD := Lib.hid (fun (N : Nat) (hN : raceErr r = 0 → lenV r = (N : Int) ∧ 1 ≤ N ∧ N ≤ 16) W h1 h2 => padTouched_c r N hN Ac nc cc cl A n c l heat lane W h1 h2 (by omega))
  have hSH := Lib.hid (fun (N : Nat) (hN : raceErr r = 0 → lenV r = (N : Int) ∧ 1 ≤ N ∧ N ≤ 16) W h1 h2 => padSheets_c r N hN Ac nc cc cl A n c l heat lanes W h1 h2 (by omega))
  have hTR := Lib.hid (fun (N : Nat) (h1 : raceErr r = 0) (h2 : lenV r = (N : Int)) (h3 : 1 ≤ N) (h4 : N ≤ 16) (hb : bothErr cl l = 0) (h5 : 1 ≤ heat) (h6 : heat ≤ ((startsV cl l).length : Int)) W hc hl => show Calls Tryz.prog 60 #[r.val, .slice Ac nc cc, .slice A n c, .int .i64 heat, .int .i64 lane] W (RetTou W (touT cl l N heat.toNat lane)) by
    obtain ⟨m1, m2, _, _⟩ := both_ok hb
    have := touchedOf_c r N h1 h2 h3 h4 Ac nc cc cl A n c l W hc hl m1 m2 (by omega) heat.toNat (by omega) (by omega) lane
    rwa [show ((heat.toNat : Nat) : Int) = heat by omega] at this)
  have hSR := Lib.hid (fun (N : Nat) (h1 : raceErr r = 0) (h2 : lenV r = (N : Int)) (h3 : 1 ≤ N) (h4 : N ≤ 16) (hb : bothErr cl l = 0) (h5 : 1 ≤ heat) (h6 : heat ≤ ((startsV cl l).length : Int)) (h7 : 1 ≤ lanes ∧ lanes ≤ 10) W hc hl => show Calls Tryz.prog 62 #[r.val, .slice Ac nc cc, .slice A n c, .int .i64 heat, .int .i64 lanes] W (RetShR W (sheetsV cl l N heat.toNat lanes.toNat)) by
    have := sheetsOf_c r N h1 h2 h3 h4 Ac nc cc cl A n c l W hc hl hb (by omega) heat.toNat (by omega) (by omega) lanes.toNat (by omega)
    rwa [show ((heat.toNat : Nat) : Int) = heat by omega, show ((lanes.toNat : Nat) : Int) = lanes by omega] at this)
  have hKc := fun wx (h : K25 w w7.heap.size r A n l Ac nc cl wx) => h.cl_
  have hKl := fun wx (h : K25 w w7.heap.size r A n l Ac nc cl wx) => h.li
  have hKf' := fun wx (h : K25 w w7.heap.size r A n l Ac nc cl wx) => show ∀ i, wx.cell? ⟨w7.heap.size, i, none⟩ = r.cells[i]? from (blk_facts h.blk).1
  have hKB := fun wx (h : K25 w w7.heap.size r A n l Ac nc cl wx) => h.bel
  have hKb := fun wx w' (h : K25 w w7.heap.size r A n l Ac nc cl wx) (hb : Below wx.heap.size wx w') => h.below hb
  have hKd := fun wx (h : K25 w w7.heap.size r A n l Ac nc cl wx) => (show K25 w w7.heap.size r A n l Ac nc cl wx.drew from ⟨h.li, h.cl_, h.blk, below_drewN h.bel 1⟩)
  have hKz := fun wx (h : K25 w w7.heap.size r A n l Ac nc cl wx) => lt_of_heap h.blk
  have hlv := Lib.hid (fun h => lenNat (r := r) h)
  have hok := Lib.hid (fun h => both_ok (cl := cl) (l := l) h)
  have hlo : Hid (bothErr cl l = 0 → laneErr cl l heat lane = 0 → 1 ≤ heat ∧ heat ≤ (startsV cl l).length) := Lib.hid (fun h0 h => by
    have := ttE_ok (cl := cl) (l := l) (heat := heat) (lane := lane) (by unfold ttE; rw [if_neg (by simpa using h0)]; exact h)
    exact this.2)
  have hlo2 : Hid (bothErr cl l = 0 → laneErr cl l heat lanes = 0 → (1 ≤ heat ∧ heat ≤ (startsV cl l).length) ∧ 1 ≤ lanes ∧ lanes ≤ 10) := Lib.hid (fun h0 h => by
    have ht : ttE cl l heat lanes = 0 := by unfold ttE; rw [if_neg (by simpa using h0)]; exact h
    exact ⟨(ttE_ok ht).2, lane_ok ht⟩)
  have hcE : Hid (clE r cl l heat lane = if raceErr r ≠ 0 then raceErr r else if bothErr cl l ≠ 0 then bothErr cl l else laneErr cl l heat lane) := Lib.hid (by unfold clE ttE; rfl)
  have hcE2 : Hid (clE r cl l heat lanes = if raceErr r ≠ 0 then raceErr r else if bothErr cl l ≠ 0 then bothErr cl l else laneErr cl l heat lanes) := Lib.hid (by unfold clE ttE; rfl)
  have hto := two_err cl l heat lanes
  generalize K25 w w7.heap.size r A n l Ac nc cl = KK at *
  generalize clE r cl l heat lane = CE at *
  generalize clE r cl l heat lanes = CF at *
  generalize laneErr cl l heat lane = LE at *
  generalize laneErr cl l heat lanes = LG at *
  generalize bothErr cl l = BE at *
  generalize clkErr cl = CKE at *
  generalize sigErr l = SGE at *
  generalize raceErr r = RE at *
  generalize lenV r = LV at *
  have hSl := startsV_len cl l
  generalize startsV cl l = SVs at *
  obtain ⟨key, metres, stroke, course, legs, sex, young, old⟩ := r
  dsimp only [Race.val, Race.cells] at *
  go_upto_region 3 with (fail)
  generalize w7.heap.size = b4 at *
  go_cut [40] (fun s40 wx => ∃ q : Bool, s40 = .bool q ∧ Hid (q = true ↔ (RE = 0 ∧ LV > 16)) ∧ KK wx)
  case first =>
    clear hTD hSH hTR hSR hLF hSO hF1 hF2 hor hto hcE hcE2 hlo hlo2 hok
    have C8 := hKf' _ K
    by_cases hR : RE = 0
    · have hLO2 := Lib.hid (fun W => hLO.out W hR)
      have hRR := Lib.hid hR
      subst hR
      go_wp2_with fail
      refine (hRF.out _).mono ?_; rintro e w8 ⟨rfl, B8⟩
      replace K := hKb _ _ K B8
      clear B8 C8
      have C9 := hKf' _ K
      go_wp2_with fail
      refine (hLO2.out _).mono ?_; rintro e w9 ⟨rfl, B9⟩
      replace K := hKb _ _ K B9
      clear B9 C9 hLO2
      go_wp2
      go_meet
      case rel => exact ⟨_, rfl, Lib.hid ⟨fun h => ⟨(by first | rfl | trivial), of_decide_eq_true h⟩, fun h => decide_eq_true h.2⟩, K⟩
    · have hd : (RE == 0) = false := by simpa using hR
      have hRR := Lib.hid hR
      clear hR
      go_wp2_with fail
      refine (hRF.out _).mono ?_; rintro e w8 ⟨rfl, B8⟩
      replace K := hKb _ _ K B8
      clear B8 C8
      go_wp2
      go_meet
      case rel => exact ⟨false, rfl, Lib.hid ⟨fun h => (by cases h), fun h => absurd h.1 hRR.out⟩, K⟩
  case rest =>
  clear K
  rename World => wr
  obtain ⟨q, rfl, hq, K⟩ := hcut
  cases q
  rotate_left
  · clear hTD hSH hTR hSR hLF hSO hF1 hF2 hor hto hcE hcE2 hlo hlo2 hok hRF hLO hq hlv
    go_wp2_with fail
    refine (padded1_c _).mono ?_; rintro e w9 ⟨rfl, B9⟩
    replace K := hKb _ _ K B9
    have hfB := hKB _ K
    go_wp2
    go_ret
    exact ⟨rfl, hfB⟩
  have hN : Hid (RE = 0 → LV = ((LV.toNat : Nat) : Int) ∧ 1 ≤ LV.toNat ∧ LV.toNat ≤ 16) := Lib.hid (fun h => ⟨(hlv.out h).1, (hlv.out h).2, by
    have h1 : ¬ (RE = 0 ∧ LV > 16) := fun h2 => by have := hq.out.2 h2; cases this
    have h2 := (hlv.out h).1
    have : ¬ LV > 16 := fun h3 => h1 ⟨h, h3⟩
    omega⟩)
  obtain ⟨N, hNe⟩ : ∃ N : Nat, LV.toNat = N := ⟨_, rfl⟩
  rw [hNe] at hN
  clear hNe
  have hTD2 := Lib.hid (hTD.out N hN.out)
  have hSH2 := Lib.hid (hSH.out N hN.out)
  have hTR2 := Lib.hid (fun (h : RE = 0) => hTR.out N h (hN.out h).1 (hN.out h).2.1 (hN.out h).2.2)
  have hSR2 := Lib.hid (fun (h : RE = 0) => hSR.out N h (hN.out h).1 (hN.out h).2.1 (hN.out h).2.2)
  clear hTD hSH hTR hSR hLO hlv hq hN
  have C11 := hKf' _ K
  go_wp2_with fail
  refine (hRF.out _).mono ?_; rintro e w11 ⟨rfl, B11⟩
  replace K := hKb _ _ K B11
  clear B11 C11
  go_wp2_with fail
  refine (hF1.out _ (hKc _ K)).mono ?_; rintro e w12 ⟨rfl, B12⟩
  replace K := hKb _ _ K B12
  clear B12
  go_wp2_with fail
  refine (hF2.out _ (hKl _ K)).mono ?_; rintro e w13 ⟨rfl, B13⟩
  replace K := hKb _ _ K B13
  clear B13
  go_wp2_with fail
  refine (orE_c _ _ _ [RE, CKE, SGE] _ (R1.litAt _ _ _ [_, _, _] (by first | rfl | simp) rfl (by simp))).mono ?_; rintro e w14 ⟨rfl, rfl⟩
  replace K := hKb _ _ K (below_new _ (.cells #[.int .i64 RE, .int .i64 CKE, .int .i64 SGE] 33))
  rw [hor]
  clear hor hRF hF1 hF2
  have hoe : Hid ((if RE ≠ 0 then RE else BE) = 0 → RE = 0 ∧ BE = 0) := Lib.hid (fun h => by
    split at h
    · rename_i h1; exact absurd h h1
    · rename_i h1; exact ⟨Decidable.not_not.1 h1, h⟩)
  have hce1 : Hid ((if RE ≠ 0 then RE else BE) = 0 → CE = LE ∧ CF = LG) := Lib.hid (fun h => by
    obtain ⟨h1, h2⟩ := hoe.out h
    rw [hcE.out, hcE2.out, if_neg (by simpa using h1), if_neg (by simpa using h2), if_neg (by simpa using h1), if_neg (by simpa using h2)]
    exact ⟨rfl, rfl⟩)
  have hce2 : Hid ((if RE ≠ 0 then RE else BE) ≠ 0 → CE = (if RE ≠ 0 then RE else BE) ∧ CF = (if RE ≠ 0 then RE else BE)) := Lib.hid (fun h => by
    rw [hcE.out, hcE2.out]
    by_cases h1 : RE ≠ 0
    · rw [if_pos h1, if_pos h1, if_pos h1]; exact ⟨rfl, rfl⟩
    · rw [if_neg h1] at h
      rw [if_neg h1, if_neg h1, if_pos h, if_pos h, if_neg h1]; exact ⟨rfl, rfl⟩)
  have hzz : Hid (CE = 0 → (RE = 0 ∧ BE = 0) ∧ LE = 0) := Lib.hid (fun h => by
    by_cases h0 : (if RE ≠ 0 then RE else BE) = 0
    · exact ⟨hoe.out h0, by rw [← (hce1.out h0).1]; exact h⟩
    · exact absurd ((hce2.out h0).1.symm.trans h) h0)
  have hzy : Hid (CF = 0 → (RE = 0 ∧ BE = 0) ∧ LG = 0) := Lib.hid (fun h => by
    by_cases h0 : (if RE ≠ 0 then RE else BE) = 0
    · exact ⟨hoe.out h0, by rw [← (hce1.out h0).2]; exact h⟩
    · exact absurd ((hce2.out h0).2.symm.trans h) h0)
  clear hcE hcE2
  generalize (if RE ≠ 0 then RE else BE) = OE at *
  go_upto_if 53 with (fail)
  go_cut [11, 12] (fun s11 s12 wx => s11 = .int .i64 CE ∧ s12 = .int .i64 CF ∧ KK wx)
  case first =>
    clear hTD2 hSH2 hTR2 hSR2 hlo hlo2 hzz hzy
    by_cases hO : OE = 0
    · obtain ⟨h1, h2⟩ := hoe.out hO
      obtain ⟨c1, c2⟩ := hce1.out hO
      obtain ⟨m1, m2, _, _⟩ := hok.out h2
      have hLF2 := Lib.hid (fun W h1 h2 => hLF.out W h1 h2 m1 m2)
      have hSO2 := Lib.hid (fun W h1 h2 => hSO.out W h1 h2 m1 m2)
      rw [← c1] at hLF2
      rw [← c2] at hto
      subst hO
      clear hLF hSO m1 m2 hok c1 c2 h1 h2 hce1 hce2 hoe
      go_wp2_with fail
      refine (hLF2.out _ (hKc _ K) (hKl _ K)).mono ?_; rintro e w15 ⟨rfl, B15⟩
      replace K := hKb _ _ K B15
      clear B15
      go_wp2_with fail
      refine (spanFault_c _ _ _ _).mono ?_; rintro e w' ⟨rfl, rfl⟩
      go_wp2_with fail
      refine (spanFault_c _ _ _ _).mono ?_; rintro e w' ⟨rfl, rfl⟩
      go_wp2_with fail
      refine (hSO2.out _ (hKc _ K) (hKl _ K)).mono ?_; rintro e w17 ⟨A17, c17, rfl, o17, B17⟩
      replace K := hKb _ _ K B17
      clear B17
      clear o17
      go_wp2_with fail
      refine (noneFault_c _ _).mono ?_; rintro e w' ⟨rfl, rfl⟩
      go_wp2_with fail
      refine (orE_c _ _ _ [spanErr heat 1 60, spanErr lanes 1 10, noneErr (decide ((SVs.length : Int) < heat))] _ (R1.litAt _ _ _ [_, _, _] (by first | rfl | simp) rfl (by simp))).mono ?_; rintro e w18 ⟨rfl, rfl⟩
      replace K := hKb _ _ K (below_new _ (.cells #[.int .i64 (spanErr heat 1 60), .int .i64 (spanErr lanes 1 10), .int .i64 (noneErr (decide ((SVs.length : Int) < heat)))] 33))
      rw [hto]
      go_wp2
      go_meet
      case rel => exact ⟨rfl, rfl, K⟩
    · obtain ⟨c1, c2⟩ := hce2.out hO
      have hd : (OE == 0) = false := by simpa using hO
      subst c1
      clear hO hLF hSO hok hce1 hce2 hoe
      go_wp2
      go_meet
      case rel => exact ⟨rfl, c2 ▸ rfl, K⟩
  case rest =>
  clear K hoe hce1 hce2 hto hLF hSO
  rename World => wq
  obtain ⟨rfl, rfl, K⟩ := hcut
  have hTR3 := Lib.hid (fun (h : CE = 0) => hTR2.out (hzz.out h).1.1 (hzz.out h).1.2 (hlo.out (hzz.out h).1.2 (hzz.out h).2).1 (hlo.out (hzz.out h).1.2 (hzz.out h).2).2)
  have hSR3 := Lib.hid (fun (h : CF = 0) => hSR2.out (hzy.out h).1.1 (hzy.out h).1.2 (hlo2.out (hzy.out h).1.2 (hzy.out h).2).1.1 (hlo2.out (hzy.out h).1.2 (hzy.out h).2).1.2 (hlo2.out (hzy.out h).1.2 (hzy.out h).2).2)
  clear hTR2 hSR2 hlo hlo2 hzz hzy hok
  generalize sheetsV cl l N heat.toNat lanes.toNat = SHV at *
  generalize touT cl l N heat.toNat lane = TT at *
  have C19 := hKf' _ K
  go_wp2_with fail
  refine (hTD2.out _ (hKc _ K) (hKl _ K)).mono ?_; rintro e w19 ⟨A13, c13, rfl, r13, B19⟩
  replace K := hKb _ _ K B19
  clear B19 C19
  clear hTD2
  obtain ⟨TQ, hTQ⟩ : ∃ t : T3, (if CE = 0 then TT else ⟨0, 0, []⟩) = t := ⟨_, rfl⟩
  rw [hTQ] at r13 ⊢
  have hTQ1 : Hid (CE = 0 → TQ = TT) := Lib.hid (fun h => by rw [← hTQ, if_pos h])
  have hTQ2 : Hid (CE ≠ 0 → TQ = ⟨0, 0, []⟩) := Lib.hid (fun h => by rw [← hTQ, if_neg h])
  clear hTQ
  obtain ⟨TP, TBn, TW⟩ := TQ
  dsimp only at r13 hTQ1 hTQ2 ⊢
  have hbt := heap_alloc_new w19 (.cells #[.int .i64 TP, .int .i64 TBn, .slice A13 TW.length c13] 48)
  have hnb := below_new w19 (.cells #[.int .i64 TP, .int .i64 TBn, .slice A13 TW.length c13] 48)
  replace K := hKb _ _ K hnb
  replace r13 := r13.below hnb
  clear hnb
  go_upto_region 11 with (fail)
  generalize w19.alloc (.cells #[.int .i64 TP, .int .i64 TBn, .slice A13 TW.length c13] 48) = w14 at *
  generalize w19.heap.size = b13 at *
  go_cut [108] (fun s108 wx => s108 = .bool false ∧ KK wx)
  case first =>
    clear hSH2 hSR3
    have hKf2 := Lib.hid hKf'
    by_cases hL : CE = 0
    · obtain rfl := hTQ1.out hL
      have hTR4 := Lib.hid (hTR3.out hL)
      have hTR3 := trivial
      subst hL
      --OK
      refine wp_region_inv (by kernel_rfl) (fun listed a w' => ∃ xs : Nat → Value, a = { tmps := #[Value.slice a0 len0 cap0, undef, Value.bool false, Value.pointer (some { block := w.heap.size, off := 0 }), Value.pointer (some { block := b4, off := 0 }), Value.slice A n c, Value.slice Ac nc cc, Value.int IntKind.i64 heat, Value.int IntKind.i64 lane, Value.int IntKind.i64 lanes, Value.int IntKind.i64 OE, Value.int IntKind.i64 0, Value.int IntKind.i64 CF, Value.pointer (some { block := b13, off := 0 }), Value.int IntKind.i64 0, undef, u16, u17, u18, u19, u20, u21, u22, u23, u24, u25, u26, u27, u28, u29, u30, u31, u32, u33, u34, u35, u36, u37, u38, u39, u40, u41, u42, u43, u44, u45, u46, u47, u48, u49, u50, u51, u52, u53, u54, u55, u56, u57, u58, u59, u60, u61, u62, u63, u64, u65, u66, u67, u68, u69, u70, u71, Value.tuple #[Value.agg #[Value.int IntKind.i64 TP, Value.int IntKind.i64 TBn, Value.slice A13 TW.length c13], Value.int IntKind.i64 0], Value.agg #[Value.string key, Value.int IntKind.i64 metres, Value.int IntKind.i64 stroke, Value.int IntKind.i64 course, Value.int IntKind.i64 legs, Value.int IntKind.i64 sex, Value.int IntKind.i64 young, Value.int IntKind.i64 old], Value.slice Ac nc cc, Value.slice A n c, Value.int IntKind.i64 heat, Value.int IntKind.i64 lane, Value.tuple #[Value.agg #[Value.int IntKind.i64 TP, Value.int IntKind.i64 TBn, Value.slice A13 TW.length c13], Value.int IntKind.i64 0], Value.agg #[Value.int IntKind.i64 TP, Value.int IntKind.i64 TBn, Value.slice A13 TW.length c13], Value.int IntKind.i64 0, xs 0, xs 1, xs 2, xs 3, xs 4, xs 5, xs 6, xs 7, xs 8, xs 9, xs 10, xs 11, xs 12, xs 13, xs 14, xs 15, xs 16, xs 17, xs 18, xs 19, xs 20, xs 21, xs 22, xs 23, xs 24, xs 25, xs 26, xs 27, u109, u110, u111, u112, u113, u114, u115, u116, u117, u118, u119, u120, u121, u122, u123, u124, u125, u126, u127, u128, u129, u130, u131, u132, u133, u134, u135, u136, u137, u138, u139, u140, u141, u142, u143, u144, u145], defers := [] } ∧ (∀ j, listed.getD j false = true → CV [some (.int .i64 0), some (.int .i64 0), some (.bool false), some (.bool false), some (.int .i64 0), some (.bool true), some (.bool true), some (.agg #[.int .i64 TP, .int .i64 TBn, .slice A13 TW.length c13]), some (.agg #[.string key, .int .i64 metres, .int .i64 stroke, .int .i64 course, .int .i64 legs, .int .i64 sex, .int .i64 young, .int .i64 old]), some (.slice Ac nc cc), some (.slice A n c), some (.int .i64 heat), some (.int .i64 lane), none, some (.bool true), some (.bool false), some (.bool false), some (.bool false), some (.bool false), some (.int .i64 0), some (.bool false), some (.bool false), none, none, none, none, some (.bool false), some (.bool false)] j w' (xs j)) ∧ KK w' ∧ w'.heap[b13]? = some (.cells #[.int .i64 TP, .int .i64 TBn, .slice A13 TW.length c13] 48 (0, 0)) ∧ RI 3 w' A13 TW.length TW ∧ X13 listed xs TP TBn TW w') ?h0 (AllOps.of ?hs) ?he
      case h0 => exact ⟨fun j => match j with | 0 => u81 | 1 => u82 | 2 => u83 | 3 => u84 | 4 => u85 | 5 => u86 | 6 => u87 | 7 => u88 | 8 => u89 | 9 => u90 | 10 => u91 | 11 => u92 | 12 => u93 | 13 => u94 | 14 => u95 | 15 => u96 | 16 => u97 | 17 => u98 | 18 => u99 | 19 => u100 | 20 => u101 | 21 => u102 | 22 => u103 | 23 => u104 | 24 => u105 | 25 => u106 | 26 => u107 | 27 => u108 | _ => undef, rfl, (fun j hj => by rw [rep_false] at hj; cases hj), hKd _ K, hbt, r13, (fun h => by rw [rep_false] at h; cases h)⟩
      case hs =>
        refine ⟨?_, ?_, ?_, ?_, ?_, ?_, ?_, ?_, ?_, ?_, ?_, ?_, ?_, ?_, ?_, ?_, ?_, ?_, ?_, ?_, ?_, ?_, ?_, ?_, ?_, ?_, ?_, ?_, trivial⟩
        · intro listed a w' hs hI h0 hd K2 hK
          obtain ⟨xs, rfl, hC, hK0, hb0, hr0, hX⟩ := hI
          have hK2 := Lib.hid hK
          have hC2 := Lib.hid hC
          clear hd hK hC h0
          go_simp
          exact hK2.out _ _ ⟨updV xs 0 (.int .i64 0), by simp [updV], cond_set hC2.out (fun _ _ h => h) (CV.of rfl rfl), hK0, hb0, hr0, hX.put (by decide) (Below.refl _ _)⟩
        · intro listed a w' hs hI h0 hd K2 hK
          obtain ⟨xs, rfl, hC, hK0, hb0, hr0, hX⟩ := hI
          have hK2 := Lib.hid hK
          have hC2 := Lib.hid hC
          clear hd hK hC h0
          go_simp
          exact hK2.out _ _ ⟨updV xs 1 (.int .i64 0), by simp [updV], cond_set hC2.out (fun _ _ h => h) (CV.of rfl rfl), hK0, hb0, hr0, hX.put (by decide) (Below.refl _ _)⟩
        · intro listed a w' hs hI h0 hd K2 hK
          obtain ⟨xs, rfl, hC, hK0, hb0, hr0, hX⟩ := hI
          have e0 : xs 0 = .int .i64 0 := (hC 0 (hd ⟨0, .data⟩ (by simp) rfl)) _ rfl
          have e1 : xs 1 = .int .i64 0 := (hC 1 (hd ⟨1, .data⟩ (by simp) rfl)) _ rfl
          have hK2 := Lib.hid hK
          have hC2 := Lib.hid hC
          clear hd hK hC h0
          go_simp
          exact hK2.out _ _ ⟨updV xs 2 (.bool false), by simp [updV, e0, e1], cond_set hC2.out (fun _ _ h => h) (CV.of rfl rfl), hK0, hb0, hr0, hX.put (by decide) (Below.refl _ _)⟩
        · intro listed a w' hs hI h0 hd K2 hK
          obtain ⟨xs, rfl, hC, hK0, hb0, hr0, hX⟩ := hI
          have e2 : xs 2 = .bool false := (hC 2 (hd ⟨2, .data⟩ (by simp) rfl)) _ rfl
          have hK2 := Lib.hid hK
          have hC2 := Lib.hid hC
          clear hd hK hC h0
          go_simp
          exact hK2.out _ _ ⟨updV xs 3 (.bool false), by simp [updV, e2], cond_set hC2.out (fun _ _ h => h) (CV.of rfl rfl), hK0, hb0, hr0, hX.put (by decide) (Below.refl _ _)⟩
        · intro listed a w' hs hI h0 hd K2 hK
          obtain ⟨xs, rfl, hC, hK0, hb0, hr0, hX⟩ := hI
          have e3 : xs 3 = .bool false := (hC 3 (hd ⟨3, .guard⟩ (by simp) rfl)) _ rfl
          have hK2 := Lib.hid hK
          have hC2 := Lib.hid hC
          clear hd hK hC h0
          go_simp
          exact hK2.out _ _ ⟨updV xs 4 (.int .i64 0), by simp [updV, e3], cond_set hC2.out (fun _ _ h => h) (CV.of rfl rfl), hK0, hb0, hr0, hX.put (by decide) (Below.refl _ _)⟩
        · intro listed a w' hs hI h0 hd K2 hK
          obtain ⟨xs, rfl, hC, hK0, hb0, hr0, hX⟩ := hI
          have e3 : xs 3 = .bool false := (hC 3 (hd ⟨3, .guard⟩ (by simp) rfl)) _ rfl
          have e4 : xs 4 = .int .i64 0 := (hC 4 (hd ⟨4, .data⟩ (by simp) rfl)) _ rfl
          have hK2 := Lib.hid hK
          have hC2 := Lib.hid hC
          clear hd hK hC h0
          go_simp
          exact hK2.out _ _ ⟨updV xs 5 (.bool true), by simp [updV, e3, e4], cond_set hC2.out (fun _ _ h => h) (CV.of rfl rfl), hK0, hb0, hr0, hX.put (by decide) (Below.refl _ _)⟩
        · intro listed a w' hs hI h0 hd K2 hK
          obtain ⟨xs, rfl, hC, hK0, hb0, hr0, hX⟩ := hI
          have e3 : xs 3 = .bool false := (hC 3 (hd ⟨3, .guard⟩ (by simp) rfl)) _ rfl
          have e5 : xs 5 = .bool true := (hC 5 (hd ⟨5, .data⟩ (by simp) rfl)) _ rfl
          have hK2 := Lib.hid hK
          have hC2 := Lib.hid hC
          clear hd hK hC h0
          go_simp
          exact hK2.out _ _ ⟨updV xs 6 (.bool true), by simp [updV, e3, e5], cond_set hC2.out (fun _ _ h => h) (CV.of rfl rfl), hK0, hb0, hr0, hX.put (by decide) (Below.refl _ _)⟩
        · intro listed a w' hs hI h0 hd K2 hK
          obtain ⟨xs, rfl, hC, hK0, hb0, hr0, hX⟩ := hI
          have e6 : xs 6 = .bool true := (hC 6 (hd ⟨6, .guard⟩ (by simp) rfl)) _ rfl
          have hK2 := Lib.hid hK
          have hC2 := Lib.hid hC
          have y0 : w'.cell? ⟨b13, 0, none⟩ = some (.int .i64 TP) := (blk_facts hb0).1 0
          have y1 : w'.cell? ⟨b13, 1, none⟩ = some (.int .i64 TBn) := (blk_facts hb0).1 1
          have y2 : w'.cell? ⟨b13, 2, none⟩ = some (.slice A13 TW.length c13) := (blk_facts hb0).1 2
          clear hd hK hC h0
          go_simp
          exact hK2.out _ _ ⟨updV xs 7 (.agg #[.int .i64 TP, .int .i64 TBn, .slice A13 TW.length c13]), by simp [updV, e6], cond_set hC2.out (fun _ _ h => h) (CV.of rfl rfl), hK0, hb0, hr0, hX.put (by decide) (Below.refl _ _)⟩
        · intro listed a w' hs hI h0 hd K2 hK
          obtain ⟨xs, rfl, hC, hK0, hb0, hr0, hX⟩ := hI
          have e6 : xs 6 = .bool true := (hC 6 (hd ⟨6, .guard⟩ (by simp) rfl)) _ rfl
          have hK2 := Lib.hid hK
          have hC2 := Lib.hid hC
          have y0 : w'.cell? ⟨b4, 0, none⟩ = some (.string key) := hKf2.out _ hK0 0
          have y1 : w'.cell? ⟨b4, 1, none⟩ = some (.int .i64 metres) := hKf2.out _ hK0 1
          have y2 : w'.cell? ⟨b4, 2, none⟩ = some (.int .i64 stroke) := hKf2.out _ hK0 2
          have y3 : w'.cell? ⟨b4, 3, none⟩ = some (.int .i64 course) := hKf2.out _ hK0 3
          have y4 : w'.cell? ⟨b4, 4, none⟩ = some (.int .i64 legs) := hKf2.out _ hK0 4
          have y5 : w'.cell? ⟨b4, 5, none⟩ = some (.int .i64 sex) := hKf2.out _ hK0 5
          have y6 : w'.cell? ⟨b4, 6, none⟩ = some (.int .i64 young) := hKf2.out _ hK0 6
          have y7 : w'.cell? ⟨b4, 7, none⟩ = some (.int .i64 old) := hKf2.out _ hK0 7
          clear hd hK hC h0
          go_simp
          exact hK2.out _ _ ⟨updV xs 8 (.agg #[.string key, .int .i64 metres, .int .i64 stroke, .int .i64 course, .int .i64 legs, .int .i64 sex, .int .i64 young, .int .i64 old]), by simp [updV, e6], cond_set hC2.out (fun _ _ h => h) (CV.of rfl rfl), hK0, hb0, hr0, hX.put (by decide) (Below.refl _ _)⟩
        · intro listed a w' hs hI h0 hd K2 hK
          obtain ⟨xs, rfl, hC, hK0, hb0, hr0, hX⟩ := hI
          have e6 : xs 6 = .bool true := (hC 6 (hd ⟨6, .guard⟩ (by simp) rfl)) _ rfl
          have hK2 := Lib.hid hK
          have hC2 := Lib.hid hC
          clear hd hK hC h0
          go_simp
          exact hK2.out _ _ ⟨updV xs 9 (.slice Ac nc cc), by simp [updV, e6], cond_set hC2.out (fun _ _ h => h) (CV.of rfl rfl), hK0, hb0, hr0, hX.put (by decide) (Below.refl _ _)⟩
        · intro listed a w' hs hI h0 hd K2 hK
          obtain ⟨xs, rfl, hC, hK0, hb0, hr0, hX⟩ := hI
          have e6 : xs 6 = .bool true := (hC 6 (hd ⟨6, .guard⟩ (by simp) rfl)) _ rfl
          have hK2 := Lib.hid hK
          have hC2 := Lib.hid hC
          clear hd hK hC h0
          go_simp
          exact hK2.out _ _ ⟨updV xs 10 (.slice A n c), by simp [updV, e6], cond_set hC2.out (fun _ _ h => h) (CV.of rfl rfl), hK0, hb0, hr0, hX.put (by decide) (Below.refl _ _)⟩
        · intro listed a w' hs hI h0 hd K2 hK
          obtain ⟨xs, rfl, hC, hK0, hb0, hr0, hX⟩ := hI
          have e6 : xs 6 = .bool true := (hC 6 (hd ⟨6, .guard⟩ (by simp) rfl)) _ rfl
          have hK2 := Lib.hid hK
          have hC2 := Lib.hid hC
          clear hd hK hC h0
          go_simp
          exact hK2.out _ _ ⟨updV xs 11 (.int .i64 heat), by simp [updV, e6], cond_set hC2.out (fun _ _ h => h) (CV.of rfl rfl), hK0, hb0, hr0, hX.put (by decide) (Below.refl _ _)⟩
        · intro listed a w' hs hI h0 hd K2 hK
          obtain ⟨xs, rfl, hC, hK0, hb0, hr0, hX⟩ := hI
          have e6 : xs 6 = .bool true := (hC 6 (hd ⟨6, .guard⟩ (by simp) rfl)) _ rfl
          have hK2 := Lib.hid hK
          have hC2 := Lib.hid hC
          clear hd hK hC h0
          go_simp
          exact hK2.out _ _ ⟨updV xs 12 (.int .i64 lane), by simp [updV, e6], cond_set hC2.out (fun _ _ h => h) (CV.of rfl rfl), hK0, hb0, hr0, hX.put (by decide) (Below.refl _ _)⟩
        · intro listed a w' hs hI h0 hd K2 hK
          obtain ⟨xs, rfl, hC, hK0, hb0, hr0, hX⟩ := hI
          have e6 : xs 6 = .bool true := (hC 6 (hd ⟨6, .guard⟩ (by simp) rfl)) _ rfl
          have e8 : xs 8 = .agg #[.string key, .int .i64 metres, .int .i64 stroke, .int .i64 course, .int .i64 legs, .int .i64 sex, .int .i64 young, .int .i64 old] := (hC 8 (hd ⟨8, .data⟩ (by simp) rfl)) _ rfl
          have e9 : xs 9 = .slice Ac nc cc := (hC 9 (hd ⟨9, .data⟩ (by simp) rfl)) _ rfl
          have e10 : xs 10 = .slice A n c := (hC 10 (hd ⟨10, .data⟩ (by simp) rfl)) _ rfl
          have e11 : xs 11 = .int .i64 heat := (hC 11 (hd ⟨11, .data⟩ (by simp) rfl)) _ rfl
          have e12 : xs 12 = .int .i64 lane := (hC 12 (hd ⟨12, .data⟩ (by simp) rfl)) _ rfl
          have hK2 := Lib.hid hK
          have hC2 := Lib.hid hC
          clear hd hK hC h0
          go_simp
          refine (hTR4.out _ (hKc _ hK0) (hKl _ hK0)).mono ?_; rintro e w15 ⟨A15, c15, rfl, r15, B15⟩
          exact hK2.out _ _ ⟨updV xs 13 (.agg #[.int .i64 TP, .int .i64 TBn, .slice A15 TW.length c15]), by simp [updV, e6, e8, e9, e10, e11, e12], cond_set hC2.out (fun _ _ h => h) (CV.free rfl), hKb _ _ hK0 B15, blk_below hb0 B15, hr0.below B15, X13.new r15⟩
        · intro listed a w' hs hI h0 hd K2 hK
          obtain ⟨xs, rfl, hC, hK0, hb0, hr0, hX⟩ := hI
          have e6 : xs 6 = .bool true := (hC 6 (hd ⟨6, .guard⟩ (by simp) rfl)) _ rfl
          have e7 : xs 7 = .agg #[.int .i64 TP, .int .i64 TBn, .slice A13 TW.length c13] := (hC 7 (hd ⟨7, .data⟩ (by simp) rfl)) _ rfl
          obtain ⟨A15, c15, e13, r15⟩ := hX (hd ⟨13, .data⟩ (by simp) rfl)
          have hK2 := Lib.hid hK
          have hC2 := Lib.hid hC
          clear hd hK hC h0
          go_simp
          refine (sameTouch_c ⟨TP, TBn, TW⟩ A13 A15 c13 c15 _ hr0 r15).mono ?_; rintro e w16 ⟨rfl, B16⟩
          exact hK2.out _ _ ⟨updV xs 14 (.bool true), by simp [updV, e6, e7, e13], cond_set hC2.out (fun _ _ h => h) (CV.of rfl rfl), hKb _ _ hK0 B16, blk_below hb0 B16, hr0.below B16, hX.put (by decide) B16⟩
        · intro listed a w' hs hI h0 hd K2 hK
          obtain ⟨xs, rfl, hC, hK0, hb0, hr0, hX⟩ := hI
          have e6 : xs 6 = .bool true := (hC 6 (hd ⟨6, .guard⟩ (by simp) rfl)) _ rfl
          have e14 : xs 14 = .bool true := (hC 14 (hd ⟨14, .data⟩ (by simp) rfl)) _ rfl
          have hK2 := Lib.hid hK
          have hC2 := Lib.hid hC
          clear hd hK hC h0
          go_simp
          exact hK2.out _ _ ⟨updV xs 15 (.bool false), by simp [updV, e6, e14], cond_set hC2.out (fun _ _ h => h) (CV.of rfl rfl), hK0, hb0, hr0, hX.put (by decide) (Below.refl _ _)⟩
        · intro listed a w' hs hI h0 hd K2 hK
          obtain ⟨xs, rfl, hC, hK0, hb0, hr0, hX⟩ := hI
          have e3 : xs 3 = .bool false := (hC 3 (hd ⟨3, .guard⟩ (by simp) rfl)) _ rfl
          have e6 : xs 6 = .bool true := (hC 6 (hd ⟨6, .data⟩ (by simp) rfl)) _ rfl
          have e15 : xs 15 = .bool false := (hC 15 (hd ⟨15, .data⟩ (by simp) rfl)) _ rfl
          have hK2 := Lib.hid hK
          have hC2 := Lib.hid hC
          clear hd hK hC h0
          go_simp
          exact hK2.out _ _ ⟨updV xs 16 (.bool false), by simp [updV, e3, e6, e15], cond_set hC2.out (fun _ _ h => h) (CV.of rfl rfl), hK0, hb0, hr0, hX.put (by decide) (Below.refl _ _)⟩
        · intro listed a w' hs hI h0 hd K2 hK
          obtain ⟨xs, rfl, hC, hK0, hb0, hr0, hX⟩ := hI
          have e3 : xs 3 = .bool false := (hC 3 (hd ⟨3, .data⟩ (by simp) rfl)) _ rfl
          have e16 : xs 16 = .bool false := (hC 16 (hd ⟨16, .data⟩ (by simp) rfl)) _ rfl
          have hK2 := Lib.hid hK
          have hC2 := Lib.hid hC
          clear hd hK hC h0
          go_simp
          exact hK2.out _ _ ⟨updV xs 17 (.bool false), by simp [updV, e3, e16], cond_set hC2.out (fun _ _ h => h) (CV.of rfl rfl), hK0, hb0, hr0, hX.put (by decide) (Below.refl _ _)⟩
        · intro listed a w' hs hI h0 hd K2 hK
          obtain ⟨xs, rfl, hC, hK0, hb0, hr0, hX⟩ := hI
          have e17 : xs 17 = .bool false := (hC 17 (hd ⟨17, .data⟩ (by simp) rfl)) _ rfl
          have hK2 := Lib.hid hK
          have hC2 := Lib.hid hC
          clear hd hK hC h0
          go_simp
          exact hK2.out _ _ ⟨updV xs 18 (.bool false), by simp [updV, e17], cond_set hC2.out (fun _ _ h => h) (CV.of rfl rfl), hK0, hb0, hr0, hX.put (by decide) (Below.refl _ _)⟩
        · intro listed a w' hs hI h0 hd K2 hK
          obtain ⟨xs, rfl, hC, hK0, hb0, hr0, hX⟩ := hI
          have e18 : xs 18 = .bool false := (hC 18 (hd ⟨18, .guard⟩ (by simp) rfl)) _ rfl
          have hK2 := Lib.hid hK
          have hC2 := Lib.hid hC
          clear hd hK hC h0
          go_simp
          exact hK2.out _ _ ⟨updV xs 19 (.int .i64 0), by simp [updV, e18], cond_set hC2.out (fun _ _ h => h) (CV.of rfl rfl), hK0, hb0, hr0, hX.put (by decide) (Below.refl _ _)⟩
        · intro listed a w' hs hI h0 hd K2 hK
          obtain ⟨xs, rfl, hC, hK0, hb0, hr0, hX⟩ := hI
          have e18 : xs 18 = .bool false := (hC 18 (hd ⟨18, .guard⟩ (by simp) rfl)) _ rfl
          have e19 : xs 19 = .int .i64 0 := (hC 19 (hd ⟨19, .data⟩ (by simp) rfl)) _ rfl
          have hK2 := Lib.hid hK
          have hC2 := Lib.hid hC
          clear hd hK hC h0
          go_simp
          exact hK2.out _ _ ⟨updV xs 20 (.bool false), by simp [updV, e18, e19], cond_set hC2.out (fun _ _ h => h) (CV.of rfl rfl), hK0, hb0, hr0, hX.put (by decide) (Below.refl _ _)⟩
        · intro listed a w' hs hI h0 hd K2 hK
          obtain ⟨xs, rfl, hC, hK0, hb0, hr0, hX⟩ := hI
          have e18 : xs 18 = .bool false := (hC 18 (hd ⟨18, .guard⟩ (by simp) rfl)) _ rfl
          have e20 : xs 20 = .bool false := (hC 20 (hd ⟨20, .data⟩ (by simp) rfl)) _ rfl
          have hK2 := Lib.hid hK
          have hC2 := Lib.hid hC
          clear hd hK hC h0
          go_simp
          exact hK2.out _ _ ⟨updV xs 21 (.bool false), by simp [updV, e18, e20], cond_set hC2.out (fun _ _ h => h) (CV.of rfl rfl), hK0, hb0, hr0, hX.put (by decide) (Below.refl _ _)⟩
        · intro listed a w' hs hI h0 hd K2 hK
          obtain ⟨xs, rfl, hC, hK0, hb0, hr0, hX⟩ := hI
          have e21 : xs 21 = .bool false := (hC 21 (hd ⟨21, .guard⟩ (by simp) rfl)) _ rfl
          have hK2 := Lib.hid hK
          have hC2 := Lib.hid hC
          clear hd hK hC h0
          go_simp
          exact hK2.out _ _ ⟨updV xs 22 (undef), by simp [updV, e21], cond_set hC2.out (fun _ _ h => h) (CV.free rfl), hK0, hb0, hr0, hX.put (by decide) (Below.refl _ _)⟩
        · intro listed a w' hs hI h0 hd K2 hK
          obtain ⟨xs, rfl, hC, hK0, hb0, hr0, hX⟩ := hI
          have e21 : xs 21 = .bool false := (hC 21 (hd ⟨21, .guard⟩ (by simp) rfl)) _ rfl
          have hK2 := Lib.hid hK
          have hC2 := Lib.hid hC
          clear hd hK hC h0
          go_simp
          exact hK2.out _ _ ⟨updV xs 23 (undef), by simp [updV, e21], cond_set hC2.out (fun _ _ h => h) (CV.free rfl), hK0, hb0, hr0, hX.put (by decide) (Below.refl _ _)⟩
        · intro listed a w' hs hI h0 hd K2 hK
          obtain ⟨xs, rfl, hC, hK0, hb0, hr0, hX⟩ := hI
          have e21 : xs 21 = .bool false := (hC 21 (hd ⟨21, .guard⟩ (by simp) rfl)) _ rfl
          have hK2 := Lib.hid hK
          have hC2 := Lib.hid hC
          clear hd hK hC h0
          go_simp
          exact hK2.out _ _ ⟨updV xs 24 (undef), by simp [updV, e21], cond_set hC2.out (fun _ _ h => h) (CV.free rfl), hK0, hb0, hr0, hX.put (by decide) (Below.refl _ _)⟩
        · intro listed a w' hs hI h0 hd K2 hK
          obtain ⟨xs, rfl, hC, hK0, hb0, hr0, hX⟩ := hI
          have e21 : xs 21 = .bool false := (hC 21 (hd ⟨21, .guard⟩ (by simp) rfl)) _ rfl
          have hK2 := Lib.hid hK
          have hC2 := Lib.hid hC
          clear hd hK hC h0
          go_simp
          exact hK2.out _ _ ⟨updV xs 25 (undef), by simp [updV, e21], cond_set hC2.out (fun _ _ h => h) (CV.free rfl), hK0, hb0, hr0, hX.put (by decide) (Below.refl _ _)⟩
        · intro listed a w' hs hI h0 hd K2 hK
          obtain ⟨xs, rfl, hC, hK0, hb0, hr0, hX⟩ := hI
          have e18 : xs 18 = .bool false := (hC 18 (hd ⟨18, .guard⟩ (by simp) rfl)) _ rfl
          have e21 : xs 21 = .bool false := (hC 21 (hd ⟨21, .data⟩ (by simp) rfl)) _ rfl
          have hK2 := Lib.hid hK
          have hC2 := Lib.hid hC
          clear hd hK hC h0
          go_simp
          exact hK2.out _ _ ⟨updV xs 26 (.bool false), by simp [updV, e18, e21], cond_set hC2.out (fun _ _ h => h) (CV.of rfl rfl), hK0, hb0, hr0, hX.put (by decide) (Below.refl _ _)⟩
        · intro listed a w' hs hI h0 hd K2 hK
          obtain ⟨xs, rfl, hC, hK0, hb0, hr0, hX⟩ := hI
          have e18 : xs 18 = .bool false := (hC 18 (hd ⟨18, .data⟩ (by simp) rfl)) _ rfl
          have e26 : xs 26 = .bool false := (hC 26 (hd ⟨26, .data⟩ (by simp) rfl)) _ rfl
          have hK2 := Lib.hid hK
          have hC2 := Lib.hid hC
          clear hd hK hC h0
          go_simp
          exact hK2.out _ _ ⟨updV xs 27 (.bool false), by simp [updV, e18, e26], cond_set hC2.out (fun _ _ h => h) (CV.of rfl rfl), hK0, hb0, hr0, hX.put (by decide) (Below.refl _ _)⟩
      case he =>
        intro listed a w' hs hI hr
        obtain ⟨xs, rfl, hC, hK0, hb0, hr0, hX⟩ := hI
        have eL : xs 27 = .bool false := (hC 27 (all_listed hs hr ⟨rfl, rfl, rfl, rfl, rfl, rfl, rfl, rfl, rfl, rfl, rfl, rfl, rfl, rfl, rfl, rfl, rfl, rfl, rfl, rfl, rfl, rfl, rfl, rfl, rfl, rfl, rfl, rfl, trivial⟩ 27 (by simp))) _ rfl
        clear hC hs hr
        go_wp2
        go_meet
        case rel => exact ⟨(by first | exact eL | rfl), hK0⟩
      --OK end
    · have hz := hTQ2.out hL
      injection hz with z1 z2 z3
      subst z1 z2 z3
      have hL1 : (CE == 0) = false := by simpa using hL
      have hL2 : (CE != 0) = true := by simpa using hL
      clear hL hTR3
      --ERR
      refine wp_region_inv (by kernel_rfl) (fun listed a w' => ∃ xs : Nat → Value, a = { tmps := #[Value.slice a0 len0 cap0, undef, Value.bool false, Value.pointer (some { block := w.heap.size, off := 0 }), Value.pointer (some { block := b4, off := 0 }), Value.slice A n c, Value.slice Ac nc cc, Value.int IntKind.i64 heat, Value.int IntKind.i64 lane, Value.int IntKind.i64 lanes, Value.int IntKind.i64 OE, Value.int IntKind.i64 CE, Value.int IntKind.i64 CF, Value.pointer (some { block := b13, off := 0 }), Value.int IntKind.i64 CE, undef, u16, u17, u18, u19, u20, u21, u22, u23, u24, u25, u26, u27, u28, u29, u30, u31, u32, u33, u34, u35, u36, u37, u38, u39, u40, u41, u42, u43, u44, u45, u46, u47, u48, u49, u50, u51, u52, u53, u54, u55, u56, u57, u58, u59, u60, u61, u62, u63, u64, u65, u66, u67, u68, u69, u70, u71, Value.tuple #[Value.agg #[Value.int IntKind.i64 0, Value.int IntKind.i64 0, Value.slice A13 ([] : List Int).length c13], Value.int IntKind.i64 CE], Value.agg #[Value.string key, Value.int IntKind.i64 metres, Value.int IntKind.i64 stroke, Value.int IntKind.i64 course, Value.int IntKind.i64 legs, Value.int IntKind.i64 sex, Value.int IntKind.i64 young, Value.int IntKind.i64 old], Value.slice Ac nc cc, Value.slice A n c, Value.int IntKind.i64 heat, Value.int IntKind.i64 lane, Value.tuple #[Value.agg #[Value.int IntKind.i64 0, Value.int IntKind.i64 0, Value.slice A13 ([] : List Int).length c13], Value.int IntKind.i64 CE], Value.agg #[Value.int IntKind.i64 0, Value.int IntKind.i64 0, Value.slice A13 ([] : List Int).length c13], Value.int IntKind.i64 CE, xs 0, xs 1, xs 2, xs 3, xs 4, xs 5, xs 6, xs 7, xs 8, xs 9, xs 10, xs 11, xs 12, xs 13, xs 14, xs 15, xs 16, xs 17, xs 18, xs 19, xs 20, xs 21, xs 22, xs 23, xs 24, xs 25, xs 26, xs 27, u109, u110, u111, u112, u113, u114, u115, u116, u117, u118, u119, u120, u121, u122, u123, u124, u125, u126, u127, u128, u129, u130, u131, u132, u133, u134, u135, u136, u137, u138, u139, u140, u141, u142, u143, u144, u145], defers := [] } ∧ (∀ j, listed.getD j false = true → CV [some (.int .i64 CE), some (.int .i64 CE), some (.bool false), some (.bool false), some (.int .i64 CE), some (.bool false), some (.bool false), none, none, none, none, none, none, none, none, none, some (.bool false), some (.bool false), some (.bool false), some (.int .i64 CE), some (.bool true), some (.bool true), some (.agg #[.int .i64 0, .int .i64 0, .slice A13 ([] : List Int).length c13]), some (.agg #[.int .i64 0, .int .i64 0, .slice none 0 0]), some (.bool true), some (.bool false), some (.bool false), some (.bool false)] j w' (xs j)) ∧ KK w' ∧ w'.heap[b13]? = some (.cells #[.int .i64 0, .int .i64 0, .slice A13 ([] : List Int).length c13] 48 (0, 0)) ∧ RI 3 w' A13 ([] : List Int).length ([] : List Int)) ?h0 (AllOps.of ?hs) ?he
      case h0 => exact ⟨fun j => match j with | 0 => u81 | 1 => u82 | 2 => u83 | 3 => u84 | 4 => u85 | 5 => u86 | 6 => u87 | 7 => u88 | 8 => u89 | 9 => u90 | 10 => u91 | 11 => u92 | 12 => u93 | 13 => u94 | 14 => u95 | 15 => u96 | 16 => u97 | 17 => u98 | 18 => u99 | 19 => u100 | 20 => u101 | 21 => u102 | 22 => u103 | 23 => u104 | 24 => u105 | 25 => u106 | 26 => u107 | 27 => u108 | _ => undef, rfl, (fun j hj => by rw [rep_false] at hj; cases hj), hKd _ K, hbt, r13⟩
      case hs =>
        refine ⟨?_, ?_, ?_, ?_, ?_, ?_, ?_, ?_, ?_, ?_, ?_, ?_, ?_, ?_, ?_, ?_, ?_, ?_, ?_, ?_, ?_, ?_, ?_, ?_, ?_, ?_, ?_, ?_, trivial⟩
        · intro listed a w' hs hI h0 hd K2 hK
          obtain ⟨xs, rfl, hC, hK0, hb0, hr0⟩ := hI
          have hK2 := Lib.hid hK
          have hC2 := Lib.hid hC
          clear hd hK hC h0
          go_simp
          exact hK2.out _ _ ⟨updV xs 0 (.int .i64 CE), by simp [updV], cond_set hC2.out (fun _ _ h => h) (CV.of rfl rfl), hK0, hb0, hr0⟩
        · intro listed a w' hs hI h0 hd K2 hK
          obtain ⟨xs, rfl, hC, hK0, hb0, hr0⟩ := hI
          have hK2 := Lib.hid hK
          have hC2 := Lib.hid hC
          clear hd hK hC h0
          go_simp
          exact hK2.out _ _ ⟨updV xs 1 (.int .i64 CE), by simp [updV], cond_set hC2.out (fun _ _ h => h) (CV.of rfl rfl), hK0, hb0, hr0⟩
        · intro listed a w' hs hI h0 hd K2 hK
          obtain ⟨xs, rfl, hC, hK0, hb0, hr0⟩ := hI
          have e0 : xs 0 = .int .i64 CE := (hC 0 (hd ⟨0, .data⟩ (by simp) rfl)) _ rfl
          have e1 : xs 1 = .int .i64 CE := (hC 1 (hd ⟨1, .data⟩ (by simp) rfl)) _ rfl
          have hK2 := Lib.hid hK
          have hC2 := Lib.hid hC
          clear hd hK hC h0
          go_simp
          exact hK2.out _ _ ⟨updV xs 2 (.bool false), by simp [updV, e0, e1], cond_set hC2.out (fun _ _ h => h) (CV.of rfl rfl), hK0, hb0, hr0⟩
        · intro listed a w' hs hI h0 hd K2 hK
          obtain ⟨xs, rfl, hC, hK0, hb0, hr0⟩ := hI
          have e2 : xs 2 = .bool false := (hC 2 (hd ⟨2, .data⟩ (by simp) rfl)) _ rfl
          have hK2 := Lib.hid hK
          have hC2 := Lib.hid hC
          clear hd hK hC h0
          go_simp
          exact hK2.out _ _ ⟨updV xs 3 (.bool false), by simp [updV, e2], cond_set hC2.out (fun _ _ h => h) (CV.of rfl rfl), hK0, hb0, hr0⟩
        · intro listed a w' hs hI h0 hd K2 hK
          obtain ⟨xs, rfl, hC, hK0, hb0, hr0⟩ := hI
          have e3 : xs 3 = .bool false := (hC 3 (hd ⟨3, .guard⟩ (by simp) rfl)) _ rfl
          have hK2 := Lib.hid hK
          have hC2 := Lib.hid hC
          clear hd hK hC h0
          go_simp
          exact hK2.out _ _ ⟨updV xs 4 (.int .i64 CE), by simp [updV, e3], cond_set hC2.out (fun _ _ h => h) (CV.of rfl rfl), hK0, hb0, hr0⟩
        · intro listed a w' hs hI h0 hd K2 hK
          obtain ⟨xs, rfl, hC, hK0, hb0, hr0⟩ := hI
          have e3 : xs 3 = .bool false := (hC 3 (hd ⟨3, .guard⟩ (by simp) rfl)) _ rfl
          have e4 : xs 4 = .int .i64 CE := (hC 4 (hd ⟨4, .data⟩ (by simp) rfl)) _ rfl
          have hK2 := Lib.hid hK
          have hC2 := Lib.hid hC
          clear hd hK hC h0
          go_simp
          exact hK2.out _ _ ⟨updV xs 5 (.bool false), by simp [updV, e3, e4], cond_set hC2.out (fun _ _ h => h) (CV.of rfl rfl), hK0, hb0, hr0⟩
        · intro listed a w' hs hI h0 hd K2 hK
          obtain ⟨xs, rfl, hC, hK0, hb0, hr0⟩ := hI
          have e3 : xs 3 = .bool false := (hC 3 (hd ⟨3, .guard⟩ (by simp) rfl)) _ rfl
          have e5 : xs 5 = .bool false := (hC 5 (hd ⟨5, .data⟩ (by simp) rfl)) _ rfl
          have hK2 := Lib.hid hK
          have hC2 := Lib.hid hC
          clear hd hK hC h0
          go_simp
          exact hK2.out _ _ ⟨updV xs 6 (.bool false), by simp [updV, e3, e5], cond_set hC2.out (fun _ _ h => h) (CV.of rfl rfl), hK0, hb0, hr0⟩
        · intro listed a w' hs hI h0 hd K2 hK
          obtain ⟨xs, rfl, hC, hK0, hb0, hr0⟩ := hI
          have e6 : xs 6 = .bool false := (hC 6 (hd ⟨6, .guard⟩ (by simp) rfl)) _ rfl
          have hK2 := Lib.hid hK
          have hC2 := Lib.hid hC
          clear hd hK hC h0
          go_simp
          exact hK2.out _ _ ⟨updV xs 7 (undef), by simp [updV, e6], cond_set hC2.out (fun _ _ h => h) (CV.free rfl), hK0, hb0, hr0⟩
        · intro listed a w' hs hI h0 hd K2 hK
          obtain ⟨xs, rfl, hC, hK0, hb0, hr0⟩ := hI
          have e6 : xs 6 = .bool false := (hC 6 (hd ⟨6, .guard⟩ (by simp) rfl)) _ rfl
          have hK2 := Lib.hid hK
          have hC2 := Lib.hid hC
          clear hd hK hC h0
          go_simp
          exact hK2.out _ _ ⟨updV xs 8 (undef), by simp [updV, e6], cond_set hC2.out (fun _ _ h => h) (CV.free rfl), hK0, hb0, hr0⟩
        · intro listed a w' hs hI h0 hd K2 hK
          obtain ⟨xs, rfl, hC, hK0, hb0, hr0⟩ := hI
          have e6 : xs 6 = .bool false := (hC 6 (hd ⟨6, .guard⟩ (by simp) rfl)) _ rfl
          have hK2 := Lib.hid hK
          have hC2 := Lib.hid hC
          clear hd hK hC h0
          go_simp
          exact hK2.out _ _ ⟨updV xs 9 (undef), by simp [updV, e6], cond_set hC2.out (fun _ _ h => h) (CV.free rfl), hK0, hb0, hr0⟩
        · intro listed a w' hs hI h0 hd K2 hK
          obtain ⟨xs, rfl, hC, hK0, hb0, hr0⟩ := hI
          have e6 : xs 6 = .bool false := (hC 6 (hd ⟨6, .guard⟩ (by simp) rfl)) _ rfl
          have hK2 := Lib.hid hK
          have hC2 := Lib.hid hC
          clear hd hK hC h0
          go_simp
          exact hK2.out _ _ ⟨updV xs 10 (undef), by simp [updV, e6], cond_set hC2.out (fun _ _ h => h) (CV.free rfl), hK0, hb0, hr0⟩
        · intro listed a w' hs hI h0 hd K2 hK
          obtain ⟨xs, rfl, hC, hK0, hb0, hr0⟩ := hI
          have e6 : xs 6 = .bool false := (hC 6 (hd ⟨6, .guard⟩ (by simp) rfl)) _ rfl
          have hK2 := Lib.hid hK
          have hC2 := Lib.hid hC
          clear hd hK hC h0
          go_simp
          exact hK2.out _ _ ⟨updV xs 11 (undef), by simp [updV, e6], cond_set hC2.out (fun _ _ h => h) (CV.free rfl), hK0, hb0, hr0⟩
        · intro listed a w' hs hI h0 hd K2 hK
          obtain ⟨xs, rfl, hC, hK0, hb0, hr0⟩ := hI
          have e6 : xs 6 = .bool false := (hC 6 (hd ⟨6, .guard⟩ (by simp) rfl)) _ rfl
          have hK2 := Lib.hid hK
          have hC2 := Lib.hid hC
          clear hd hK hC h0
          go_simp
          exact hK2.out _ _ ⟨updV xs 12 (undef), by simp [updV, e6], cond_set hC2.out (fun _ _ h => h) (CV.free rfl), hK0, hb0, hr0⟩
        · intro listed a w' hs hI h0 hd K2 hK
          obtain ⟨xs, rfl, hC, hK0, hb0, hr0⟩ := hI
          have e6 : xs 6 = .bool false := (hC 6 (hd ⟨6, .guard⟩ (by simp) rfl)) _ rfl
          have hK2 := Lib.hid hK
          have hC2 := Lib.hid hC
          clear hd hK hC h0
          go_simp
          exact hK2.out _ _ ⟨updV xs 13 (undef), by simp [updV, e6], cond_set hC2.out (fun _ _ h => h) (CV.free rfl), hK0, hb0, hr0⟩
        · intro listed a w' hs hI h0 hd K2 hK
          obtain ⟨xs, rfl, hC, hK0, hb0, hr0⟩ := hI
          have e6 : xs 6 = .bool false := (hC 6 (hd ⟨6, .guard⟩ (by simp) rfl)) _ rfl
          have hK2 := Lib.hid hK
          have hC2 := Lib.hid hC
          clear hd hK hC h0
          go_simp
          exact hK2.out _ _ ⟨updV xs 14 (undef), by simp [updV, e6], cond_set hC2.out (fun _ _ h => h) (CV.free rfl), hK0, hb0, hr0⟩
        · intro listed a w' hs hI h0 hd K2 hK
          obtain ⟨xs, rfl, hC, hK0, hb0, hr0⟩ := hI
          have e6 : xs 6 = .bool false := (hC 6 (hd ⟨6, .guard⟩ (by simp) rfl)) _ rfl
          have hK2 := Lib.hid hK
          have hC2 := Lib.hid hC
          clear hd hK hC h0
          go_simp
          exact hK2.out _ _ ⟨updV xs 15 (undef), by simp [updV, e6], cond_set hC2.out (fun _ _ h => h) (CV.free rfl), hK0, hb0, hr0⟩
        · intro listed a w' hs hI h0 hd K2 hK
          obtain ⟨xs, rfl, hC, hK0, hb0, hr0⟩ := hI
          have e3 : xs 3 = .bool false := (hC 3 (hd ⟨3, .guard⟩ (by simp) rfl)) _ rfl
          have e6 : xs 6 = .bool false := (hC 6 (hd ⟨6, .data⟩ (by simp) rfl)) _ rfl
          have hK2 := Lib.hid hK
          have hC2 := Lib.hid hC
          clear hd hK hC h0
          go_simp
          exact hK2.out _ _ ⟨updV xs 16 (.bool false), by simp [updV, e3, e6], cond_set hC2.out (fun _ _ h => h) (CV.of rfl rfl), hK0, hb0, hr0⟩
        · intro listed a w' hs hI h0 hd K2 hK
          obtain ⟨xs, rfl, hC, hK0, hb0, hr0⟩ := hI
          have e3 : xs 3 = .bool false := (hC 3 (hd ⟨3, .data⟩ (by simp) rfl)) _ rfl
          have e16 : xs 16 = .bool false := (hC 16 (hd ⟨16, .data⟩ (by simp) rfl)) _ rfl
          have hK2 := Lib.hid hK
          have hC2 := Lib.hid hC
          clear hd hK hC h0
          go_simp
          exact hK2.out _ _ ⟨updV xs 17 (.bool false), by simp [updV, e3, e16], cond_set hC2.out (fun _ _ h => h) (CV.of rfl rfl), hK0, hb0, hr0⟩
        · intro listed a w' hs hI h0 hd K2 hK
          obtain ⟨xs, rfl, hC, hK0, hb0, hr0⟩ := hI
          have e17 : xs 17 = .bool false := (hC 17 (hd ⟨17, .data⟩ (by simp) rfl)) _ rfl
          have hK2 := Lib.hid hK
          have hC2 := Lib.hid hC
          clear hd hK hC h0
          go_simp
          exact hK2.out _ _ ⟨updV xs 18 (.bool false), by simp [updV, e17], cond_set hC2.out (fun _ _ h => h) (CV.of rfl rfl), hK0, hb0, hr0⟩
        · intro listed a w' hs hI h0 hd K2 hK
          obtain ⟨xs, rfl, hC, hK0, hb0, hr0⟩ := hI
          have e18 : xs 18 = .bool false := (hC 18 (hd ⟨18, .guard⟩ (by simp) rfl)) _ rfl
          have hK2 := Lib.hid hK
          have hC2 := Lib.hid hC
          clear hd hK hC h0
          go_simp
          exact hK2.out _ _ ⟨updV xs 19 (.int .i64 CE), by simp [updV, e18], cond_set hC2.out (fun _ _ h => h) (CV.of rfl rfl), hK0, hb0, hr0⟩
        · intro listed a w' hs hI h0 hd K2 hK
          obtain ⟨xs, rfl, hC, hK0, hb0, hr0⟩ := hI
          have e18 : xs 18 = .bool false := (hC 18 (hd ⟨18, .guard⟩ (by simp) rfl)) _ rfl
          have e19 : xs 19 = .int .i64 CE := (hC 19 (hd ⟨19, .data⟩ (by simp) rfl)) _ rfl
          have hK2 := Lib.hid hK
          have hC2 := Lib.hid hC
          clear hd hK hC h0
          go_simp
          exact hK2.out _ _ ⟨updV xs 20 (.bool true), by simp [updV, e18, e19], cond_set hC2.out (fun _ _ h => h) (CV.of rfl rfl), hK0, hb0, hr0⟩
        · intro listed a w' hs hI h0 hd K2 hK
          obtain ⟨xs, rfl, hC, hK0, hb0, hr0⟩ := hI
          have e18 : xs 18 = .bool false := (hC 18 (hd ⟨18, .guard⟩ (by simp) rfl)) _ rfl
          have e20 : xs 20 = .bool true := (hC 20 (hd ⟨20, .data⟩ (by simp) rfl)) _ rfl
          have hK2 := Lib.hid hK
          have hC2 := Lib.hid hC
          clear hd hK hC h0
          go_simp
          exact hK2.out _ _ ⟨updV xs 21 (.bool true), by simp [updV, e18, e20], cond_set hC2.out (fun _ _ h => h) (CV.of rfl rfl), hK0, hb0, hr0⟩
        · intro listed a w' hs hI h0 hd K2 hK
          obtain ⟨xs, rfl, hC, hK0, hb0, hr0⟩ := hI
          have e21 : xs 21 = .bool true := (hC 21 (hd ⟨21, .guard⟩ (by simp) rfl)) _ rfl
          have hK2 := Lib.hid hK
          have hC2 := Lib.hid hC
          have y0 : w'.cell? ⟨b13, 0, none⟩ = some (.int .i64 0) := (blk_facts hb0).1 0
          have y1 : w'.cell? ⟨b13, 1, none⟩ = some (.int .i64 0) := (blk_facts hb0).1 1
          have y2 : w'.cell? ⟨b13, 2, none⟩ = some (.slice A13 ([] : List Int).length c13) := (blk_facts hb0).1 2
          clear hd hK hC h0
          go_simp
          exact hK2.out _ _ ⟨updV xs 22 (.agg #[.int .i64 0, .int .i64 0, .slice A13 ([] : List Int).length c13]), by simp [updV, e21], cond_set hC2.out (fun _ _ h => h) (CV.of rfl rfl), hK0, hb0, hr0⟩
        · intro listed a w' hs hI h0 hd K2 hK
          obtain ⟨xs, rfl, hC, hK0, hb0, hr0⟩ := hI
          have e21 : xs 21 = .bool true := (hC 21 (hd ⟨21, .guard⟩ (by simp) rfl)) _ rfl
          have hK2 := Lib.hid hK
          have hC2 := Lib.hid hC
          clear hd hK hC h0
          go_simp
          exact hK2.out _ _ ⟨updV xs 23 (.agg #[.int .i64 0, .int .i64 0, .slice none 0 0]), by simp [updV, e21], cond_set hC2.out (fun _ _ h => h) (CV.of rfl rfl), hK0, hb0, hr0⟩
        · intro listed a w' hs hI h0 hd K2 hK
          obtain ⟨xs, rfl, hC, hK0, hb0, hr0⟩ := hI
          have e21 : xs 21 = .bool true := (hC 21 (hd ⟨21, .guard⟩ (by simp) rfl)) _ rfl
          have e22 : xs 22 = .agg #[.int .i64 0, .int .i64 0, .slice A13 ([] : List Int).length c13] := (hC 22 (hd ⟨22, .data⟩ (by simp) rfl)) _ rfl
          have e23 : xs 23 = .agg #[.int .i64 0, .int .i64 0, .slice none 0 0] := (hC 23 (hd ⟨23, .data⟩ (by simp) rfl)) _ rfl
          have hK2 := Lib.hid hK
          have hC2 := Lib.hid hC
          clear hd hK hC h0
          go_simp
          refine (sameTouch_c ⟨0, 0, []⟩ A13 none c13 0 _ hr0 (R1.nil_ _ _ _ _)).mono ?_; rintro e w16 ⟨rfl, B16⟩
          exact hK2.out _ _ ⟨updV xs 24 (.bool true), by simp [updV, e21, e22, e23], cond_set hC2.out (fun _ _ h => h) (CV.of rfl rfl), hKb _ _ hK0 B16, blk_below hb0 B16, hr0.below B16⟩
        · intro listed a w' hs hI h0 hd K2 hK
          obtain ⟨xs, rfl, hC, hK0, hb0, hr0⟩ := hI
          have e21 : xs 21 = .bool true := (hC 21 (hd ⟨21, .guard⟩ (by simp) rfl)) _ rfl
          have e24 : xs 24 = .bool true := (hC 24 (hd ⟨24, .data⟩ (by simp) rfl)) _ rfl
          have hK2 := Lib.hid hK
          have hC2 := Lib.hid hC
          clear hd hK hC h0
          go_simp
          exact hK2.out _ _ ⟨updV xs 25 (.bool false), by simp [updV, e21, e24], cond_set hC2.out (fun _ _ h => h) (CV.of rfl rfl), hK0, hb0, hr0⟩
        · intro listed a w' hs hI h0 hd K2 hK
          obtain ⟨xs, rfl, hC, hK0, hb0, hr0⟩ := hI
          have e18 : xs 18 = .bool false := (hC 18 (hd ⟨18, .guard⟩ (by simp) rfl)) _ rfl
          have e21 : xs 21 = .bool true := (hC 21 (hd ⟨21, .data⟩ (by simp) rfl)) _ rfl
          have e25 : xs 25 = .bool false := (hC 25 (hd ⟨25, .data⟩ (by simp) rfl)) _ rfl
          have hK2 := Lib.hid hK
          have hC2 := Lib.hid hC
          clear hd hK hC h0
          go_simp
          exact hK2.out _ _ ⟨updV xs 26 (.bool false), by simp [updV, e18, e21, e25], cond_set hC2.out (fun _ _ h => h) (CV.of rfl rfl), hK0, hb0, hr0⟩
        · intro listed a w' hs hI h0 hd K2 hK
          obtain ⟨xs, rfl, hC, hK0, hb0, hr0⟩ := hI
          have e18 : xs 18 = .bool false := (hC 18 (hd ⟨18, .data⟩ (by simp) rfl)) _ rfl
          have e26 : xs 26 = .bool false := (hC 26 (hd ⟨26, .data⟩ (by simp) rfl)) _ rfl
          have hK2 := Lib.hid hK
          have hC2 := Lib.hid hC
          clear hd hK hC h0
          go_simp
          exact hK2.out _ _ ⟨updV xs 27 (.bool false), by simp [updV, e18, e26], cond_set hC2.out (fun _ _ h => h) (CV.of rfl rfl), hK0, hb0, hr0⟩
      case he =>
        intro listed a w' hs hI hr
        obtain ⟨xs, rfl, hC, hK0, hb0, hr0⟩ := hI
        have eL : xs 27 = .bool false := (hC 27 (all_listed hs hr ⟨rfl, rfl, rfl, rfl, rfl, rfl, rfl, rfl, rfl, rfl, rfl, rfl, rfl, rfl, rfl, rfl, rfl, rfl, rfl, rfl, rfl, rfl, rfl, rfl, rfl, rfl, rfl, rfl, trivial⟩ 27 (by simp))) _ rfl
        clear hC hs hr
        go_wp2
        go_meet
        case rel => exact ⟨(by first | exact eL | rfl), hK0⟩
      --ERR end
  case rest =>
  clear K hTR3 hTQ1 hTQ2 hbt r13
  rename World => ws
  obtain ⟨rfl, K⟩ := hcut
  by_cases hM : CF = 0
  · have hSR4 := Lib.hid (hSR3.out hM)
    subst hM
    rw [if_pos rfl] at hSH2
    clear hSR3
    have C21 := hKf' _ K
    go_wp2_with fail
    refine (hSH2.out _ (hKc _ K) (hKl _ K)).mono ?_; rintro e w21 ⟨A21, c21, S21, rfl, r21, d21, B21⟩
    replace K := hKb _ _ K B21
    clear B21 C21
    have C22 := hKf' _ K
    go_wp2_with fail
    refine (hSR4.out _ (hKc _ K) (hKl _ K)).mono ?_; rintro e w22 ⟨A22, c22, S22, rfl, r22, d22, B22⟩
    replace r21 := r21.below B22
    replace K := hKb _ _ K B22
    clear B22 C22
    go_wp2_with fail
    refine (equalSh_c _ _ _ _ _ _ _ _ _ r21 r22).mono ?_; rintro e w23 ⟨rfl, B23⟩
    replace K := hKb _ _ K B23
    rw [show decide (S21.map Shc.dat = S22.map Shc.dat) = true from decide_eq_true (d21.trans d22.symm)]
    clear B23 r21 r22 d21 d22
    go_wp2_with fail
    refine (padded1_c _).mono ?_; rintro e w24 ⟨rfl, B24⟩
    replace K := hKb _ _ K B24
    clear B24
    have hfB := hKB _ K
    go_wp2
    go_ret
    exact ⟨rfl, hfB⟩
  · have hM1 : (CF == 0) = false := by simpa using hM
    have hM2 : (CF != 0) = true := by simpa using hM
    rw [if_neg hM] at hSH2
    clear hM hSR3
    have C21 := hKf' _ K
    go_wp2_with fail
    refine (hSH2.out _ (hKc _ K) (hKl _ K)).mono ?_; rintro e w21 ⟨A21, c21, S21, rfl, r21, d21, B21⟩
    replace K := hKb _ _ K B21
    clear B21 C21
    clear r21 d21
    go_wp2_with fail
    refine (padded1_c _).mono ?_; rintro e w22 ⟨rfl, B22⟩
    replace K := hKb _ _ K B22
    clear B22
    have hfB := hKB _ K
    go_wp2
    go_ret
    exact ⟨rfl, hfB⟩
end Go.Proofs.YtcdnjehkkbnfbaaGreatDoor
