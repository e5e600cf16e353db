/- VerdictsTold: the walk. -/
import Derived.Test.YtpepdkgkdbnakaaGreatDoorVerY
import Derived.Test.YtpepdkgkdbnakaaGreatDoorRptM
import Derived.Test.YtpepdkgkdbnakaaGreatDoorClmM
import Derived.Test.YtpepdkgkdbnakaaGreatDoorJudged
import Derived.Test.YtpepdkgkdbnakaaGreatDoorDraws
import Derived.Deep.RegionHeld3
namespace Go.Proofs.YtpepdkgkdbnakaaGreatDoor
open Go.RowKit Go.Shelf Go.Lib Go.Sort
set_option linter.unusedVariables false

theorem judgedAt_c (g : Nat) (zs : List Int) (k : Nat) (w : World) (h : St w g zs k) (hk : k + 10 ≤ 1099511627776) :
    Calls Tryz.prog 33 #[.pointer (some ⟨g, 0, none⟩)] w fun e w' => ∃ v : Int, e = .returned (.int .i64 v) ∧ (-1 ≤ v ∧ v ≤ 345686400000) ∧ St w' g zs (k + 1 + 1) ∧ w.grownBy w' (some g) := by
  have hP := pickB_c g zs k [-1, 345686400000, 345686399999] (-1) 345686400000 3 3 w.heap.size #[.int .i64 (-1), .int .i64 345686400000, .int .i64 345686399999] w h (by omega) rfl rfl rfl (by decide) (by decide) (by simp)
  go_enter Tryz.func33, Tryz.ntmps33
  go_wp2_with fail
  refine hP.mono ?_; rintro e w1 ⟨v, rfl, v0, v1, s1, g1⟩
  have hl : ∀ x ∈ [0, 10, 15, 60, 1000015, 1800000, 1800010, 3600000, 9000000, v], -1 ≤ x ∧ x ≤ 345686400000 := by simp; omega
  go_wp2_with fail
  refine (pickB_c g zs (k + 1) [0, 10, 15, 60, 1000015, 1800000, 1800010, 3600000, 9000000, v] (-1) 345686400000 10 10 w1.heap.size #[.int .i64 0, .int .i64 10, .int .i64 15, .int .i64 60, .int .i64 1000015, .int .i64 1800000, .int .i64 1800010, .int .i64 3600000, .int .i64 9000000, .int .i64 v] w1 s1 (by omega) rfl rfl rfl (by decide) (by decide) hl).mono ?_; rintro e w2 ⟨v2, rfl, v20, v21, s2, g2⟩
  have g3 := grown_trans g1 g2
  go_wp2
  go_ret
  exact ⟨v2, rfl, ⟨v20, v21⟩, s2, g3⟩
/-- what is carried -/
structure K35 (w : World) (A : Option Addr) (n : Nat) (l : List Rp) (Ac : Option Addr) (nc : Nat) (cl : List Cm) (wx : World) : Prop where
  rp : RRp wx A n l
  cm : RCm wx Ac nc cl
  bel : Below w.heap.size w wx
theorem K35.below {w : World} {A : Option Addr} {n : Nat} {l : List Rp} {Ac : Option Addr} {nc : Nat} {cl : List Cm} {wx w' : World} (h : K35 w A n l Ac nc cl wx) (hb : Below wx.heap.size wx w') : K35 w A n l Ac nc cl w' := ⟨h.rp.below hb, h.cm.below hb, below_next h.bel hb⟩
def momI (at_ : Int) : Int := if 0 ≤ at_ ∧ at_ ≤ 345686399999 then 0 else 1
theorem momI_val (at_ : Int) : momI at_ = if momB at_ = true then 0 else 1 := by
  unfold momI momB
  by_cases h : 0 ≤ at_ ∧ at_ ≤ 345686399999 <;> simp [h]
theorem vrdE_or (l : List Rp) (at_ : Int) : orV [rpErr l, momI at_] = vrdE l at_ := by
  rw [momI_val]
  unfold vrdE
  simp only [orV]
  by_cases h : rpErr l ≠ 0
  · rw [if_pos h, if_pos h]
  · rw [if_neg h, if_neg h]
    cases momB at_ <;> rfl
theorem clmE_or (l : List Rp) (cl : List Cm) (at_ : Int) : orV [rpErr l, clmErr cl, momI at_] = clmE l cl at_ := by
  rw [momI_val]
  unfold clmE
  simp only [orV]
  by_cases h : rpErr l ≠ 0
  · rw [if_pos h, if_pos h]
  · rw [if_neg h, if_neg h]
    by_cases h2 : clmErr cl ≠ 0
    · rw [if_pos h2, if_pos h2]
    · rw [if_neg h2, if_neg h2]
      cases momB at_ <;> rfl
theorem vrdE_ok {l : List Rp} {at_ : Int} (h : vrdE l at_ = 0) : rpErr l = 0 := by
  unfold vrdE at h
  split at h
  · rename_i h1; exact absurd h h1
  · rename_i h1; exact Decidable.not_not.1 h1
theorem vrdE_clm {l : List Rp} {cl : List Cm} {at_ : Int} (h : clmE l cl at_ = 0) : vrdE l at_ = 0 := by
  obtain ⟨h1, _, h3⟩ := clmE_ok h
  unfold vrdE momB
  rw [if_neg (by simpa using h1), if_pos (by simpa using h3)]
theorem RetVs.nil {w w' : World} {E : Int} {e : Ending} (h : RetVs w E [] e w') : ∃ A c, e = .returned (.tuple #[.slice A 0 c, .int .i64 E]) ∧ Below w.heap.size w w' := by
  obtain ⟨A, n, c, L, rfl, r, hL, B⟩ := h
  have : L = [] := List.map_eq_nil_iff.1 hL
  subst this
  obtain rfl : n = 0 := r.1.len.symm
  exact ⟨A, c, rfl, B⟩
set_option maxHeartbeats 6400000 in
set_option maxRecDepth 100000 in
theorem verdictsTold_walk (a0 : Option Addr) (len0 cap0 : Nat) (z0 : List Int) (w : World) (w0 : IsRow .i64 w a0 len0 cap0 z0) (htab : Tb w) :
    Calls Tryz.prog 4 #[.slice a0 len0 cap0] w fun e w' => e = .returned (.bool true) ∧ Below w.heap.size w w' := by
  have hs := law_start w0
  clear w0
  generalize z0.take len0 = zs at *
  go_enter Tryz.func4, Tryz.ntmps4
  go_wp2_with fail
  have hs' : St (w.alloc (.cells #[.slice a0 len0 cap0, .int .i64 0] 25)) w.heap.size zs 0 := hs
  have hB1 := below_new w (.cells #[.slice a0 len0 cap0, .int .i64 0] 25)
  refine (rangeE_c _ zs 0 0 9 _ hs' (by omega) (by decide) (by decide) (by decide)).mono ?_; rintro e w1 ⟨v, rfl, v0, v1, s1, g1⟩
  obtain ⟨M, rfl⟩ : ∃ M : Nat, v = M := ⟨v.toNat, by omega⟩
  have hB2 := hB1.trans (grown_below g1 (Nat.le_refl _) hB1.size)
  clear hs hs' g1 hB1
  go_wp2_with fail
  refine (reports_c _ zs 1 M _ w s1 (by omega) (by omega) htab hB2 (Nat.le_refl _)).mono ?_; rintro e w2 ⟨A, c, l, k2, rfl, ho2, hl2, s2, hk2, g2⟩
  have hR2 : RRp w2 A M l := RN.of_own rpE_len ho2 hl2 (by omega)
  have hB3 := hB2.trans (grown_below g2 (Nat.le_refl _) hB2.size)
  clear htab hB2 s1 g2 ho2
  go_wp2_with fail
  refine (claims_c _ zs k2 _ s2 (by omega)).mono ?_; rintro e w3 ⟨Ac, nc, cc, cl, k3, rfl, ho3, hlc, hnc, s3, hk3, g3⟩
  have hC3 : RCm w3 Ac nc cl := RN.of_own cmE_len ho3 hlc (by omega)
  have hR3 := hR2.keep (T := 25) (by decide) (s2.keep g3)
  have hB4 := hB3.trans (grown_below g3 (Nat.le_refl _) hB3.size)
  clear hR2 hB3 s2 g3 ho3
  go_wp2_with fail
  refine (judgedAt_c _ zs k3 _ s3 (by omega)).mono ?_; rintro e w4 ⟨at_, rfl, ⟨ha0, ha1⟩, s4, g4⟩
  have K : K35 w A M l Ac nc cl w4 := ⟨hR3.keep (T := 25) (by decide) (s3.keep g4), hC3.keep (T := 25) (by decide) (s3.keep g4), hB4.trans (grown_below g4 (Nat.le_refl _) hB4.size)⟩
  have hMl := Lib.hid hl2
  have hF1 := Lib.hid (fun W (h : K35 w A M l Ac nc cl W) => reportsFault_c A M c l W h.rp)
  have hF2 := Lib.hid (fun W (h : K35 w A M l Ac nc cl W) => claimsFault_c Ac nc cc cl W h.cm)
  have hF3 := Lib.hid (fun W (h : K35 w A M l Ac nc cl W) => checkClaims_c Ac nc cc cl W h.cm)
  have hVd := Lib.hid (fun W (h : K35 w A M l Ac nc cl W) => verdicts_c A M c l at_ W h.rp (by omega))
  have hOp := Lib.hid (fun W (h : K35 w A M l Ac nc cl W) => open_c A M c l Ac nc cc cl at_ W h.rp h.cm (by omega))
  have hFi := Lib.hid (fun W (h : K35 w A M l Ac nc cl W) => final_c A M c l Ac nc cc cl at_ W h.rp h.cm (by omega))
  have hMo := Lib.hid (fun W => show Calls Tryz.prog 38 #[.int .i64 at_] W fun e w' => e = .returned (.int .i64 (momI at_)) ∧ W = w' from momentFault_c at_ W)
  have hVo := Lib.hid (fun W (h0 : vrdE l at_ = 0) (h : K35 w A M l Ac nc cl W) => verdictsOf_c A M c l at_ W h.rp (by omega) (rp_wt (vrdE_ok h0)))
  have hOo := Lib.hid (fun W (h0 : clmE l cl at_ = 0) (h : K35 w A M l Ac nc cl W) => openOf_c A M c l Ac nc cc cl at_ W h.rp h.cm (by omega) (rp_wt (clmE_ok h0).1) (rp_tm (clmE_ok h0).1) (clmE_ok h0).2.2)
  have hFo := Lib.hid (fun W (h0 : clmE l cl at_ = 0) (h : K35 w A M l Ac nc cl W) => finalOf_c A M c l Ac nc cc cl at_ W h.rp h.cm (by omega) (by omega) (rp_wt (clmE_ok h0).1) (rp_tm (clmE_ok h0).1) (clm_ok (clmE_ok h0).2.1).2)
  have hor1 := Lib.hid (vrdE_or l at_)
  have hor2 := Lib.hid (clmE_or l cl at_)
  have hvc := Lib.hid (fun (h : clmE l cl at_ = 0) => vrdE_clm h)
  have hKB := Lib.hid (fun W (h : K35 w A M l Ac nc cl W) => h.bel)
  have hKb := Lib.hid (fun W w' (h : K35 w A M l Ac nc cl W) (B : Below W.heap.size W w') => h.below B)
  clear hR3 hC3 hB4 s3 s4 g4 hl2 hlc
  generalize K35 w A M l Ac nc cl = KK at *
  generalize rpErr l = RE at *
  generalize clmErr cl = CE at *
  generalize momI at_ = MI at *
  generalize vrdE l at_ = E1 at *
  generalize clmE l cl at_ = E2 at *
  go_wp2_with fail
  refine (hF1.out _ K).mono ?_; rintro e w5 ⟨rfl, B5⟩
  replace K := hKb.out _ _ K B5
  clear B5 hF1
  go_wp2_with fail
  refine (hF2.out _ K).mono ?_; rintro e w6 ⟨rfl, B6⟩
  replace K := hKb.out _ _ K B6
  clear B6 hF2
  go_wp2_with fail
  refine (hF3.out _ K).mono ?_; rintro e w7 ⟨rfl, B7⟩
  replace K := hKb.out _ _ K B7
  clear B7 hF3
  have hcc : (CE != CE) = false := by simp
  by_cases h2 : E2 = 0
  · have h1 : E1 = 0 := hvc.out h2
    have hVd1 := Lib.hid (fun W h => show Calls Tryz.prog 37 #[.slice A M c, .int .i64 at_] W (RetVs W 0 (vdsV l at_ (fun _ _ => false))) by have := hVd.out W h; rwa [h1, if_pos rfl] at this)
    have hOp1 := Lib.hid (fun W h => show Calls Tryz.prog 42 #[.slice A M c, .slice Ac nc cc, .int .i64 at_] W (RetOp W 0 (openV l cl at_)) by have := hOp.out W h; rwa [h2, if_pos rfl] at this)
    have hFi1 := Lib.hid (fun W h => show Calls Tryz.prog 43 #[.slice A M c, .slice Ac nc cc, .int .i64 at_] W (RetVs W 0 (vdsV l at_ (fun who => goneV l cl at_ who))) by have := hFi.out W h; rwa [h2, if_pos rfl] at this)
    have hVo1 := Lib.hid (fun W h => hVo.out W h1 h)
    have hOo1 := Lib.hid (fun W h => hOo.out W h2 h)
    have hFo1 := Lib.hid (fun W h => hFo.out W h2 h)
    have ho1 : orV [RE, MI] = 0 := hor1.out.trans h1
    have ho2 : orV [RE, CE, MI] = 0 := hor2.out.trans h2
    have ho1' := Lib.hid ho1
    have ho2' := Lib.hid ho2
    clear hVd hOp hFi hVo hOo hFo hor1 hor2 hvc h1 h2 ho1 ho2
    generalize vdsV l at_ (fun _ _ => false) = D1 at *
    generalize openV l cl at_ = D2 at *
    generalize vdsV l at_ (fun who => goneV l cl at_ who) = D3 at *
    go_wp2_with fail
    refine (hVd1.out _ K).mono ?_; rintro e w8 ⟨A8, n8, c8, L8, rfl, r8, hL8, B8⟩
    replace K := hKb.out _ _ K B8
    clear B8 hVd1
    go_wp2_with fail
    refine (hMo.out _).mono ?_; rintro e wm ⟨rfl, rfl⟩
    go_wp2_with fail
    refine (orE_c _ _ _ [RE, MI] _ (R1.litAt _ _ _ [_, _] (by first | rfl | simp) rfl (by simp))).mono ?_; rintro e wm ⟨rfl, rfl⟩
    rw [ho1'.out]
    have hBm := below_new w8 (.cells #[.int .i64 RE, .int .i64 MI] 32)
    replace K := hKb.out _ _ K hBm
    replace r8 := r8.below hBm
    clear hBm
    go_wp2_with fail
    refine (hVo1.out _ K).mono ?_; rintro e w10 ⟨A10, n10, c10, L10, rfl, r10, hL10, B10⟩
    replace K := hKb.out _ _ K B10
    replace r8 := r8.below B10
    have hEq := Lib.hid (equalV_c A8 A10 n8 c8 n10 c10 L8 L10 _ r8 r10 (hL8.trans hL10.symm))
    have hb8 := r8.1.bd
    clear B10 hVo1 r8 r10 hL8 hL10
    go_wp2_with fail
    refine hEq.out.mono ?_; rintro e w11 ⟨rfl, B11⟩
    replace K := hKb.out _ _ K B11
    clear B11 hEq
    go_wp2_with fail
    refine (hOp1.out _ K).mono ?_; rintro e w12 ⟨A12, c12, rfl, r12, B12⟩
    replace K := hKb.out _ _ K B12
    clear B12 hOp1
    go_wp2_with fail
    refine (hFi1.out _ K).mono ?_; rintro e w13 ⟨A13, n13, c13, L13, rfl, r13, hL13, B13⟩
    replace K := hKb.out _ _ K B13
    replace r12 := r12.below B13
    clear B13 hFi1
    go_wp2_with fail
    refine (hMo.out _).mono ?_; rintro e wm ⟨rfl, rfl⟩
    go_wp2_with fail
    refine (orE_c _ _ _ [RE, CE, MI] _ (R1.litAt _ _ _ [_, _, _] (by first | rfl | simp) rfl (by simp))).mono ?_; rintro e wm ⟨rfl, rfl⟩
    rw [ho2'.out]
    have hBm := below_new w13 (.cells #[.int .i64 RE, .int .i64 CE, .int .i64 MI] 32)
    replace K := hKb.out _ _ K hBm
    replace r12 := r12.below hBm
    replace r13 := r13.below hBm
    clear hBm
    go_wp2_with fail
    refine (hOo1.out _ K).mono ?_; rintro e w14 ⟨A14, c14, rfl, r14, B14⟩
    replace K := hKb.out _ _ K B14
    replace r12 := r12.below B14
    replace r13 := r13.below B14
    have hEq := Lib.hid (equalS2_c A12 A14 _ c12 _ c14 D2 _ r12 r14)
    clear B14 hOo1 r12 r14
    go_wp2_with fail
    refine hEq.out.mono ?_; rintro e w15 ⟨rfl, B15⟩
    replace K := hKb.out _ _ K B15
    replace r13 := r13.below B15
    clear B15 hEq
    go_wp2_with fail
    refine (hFo1.out _ K).mono ?_; rintro e w16 ⟨A16, n16, c16, L16, rfl, r16, hL16, B16⟩
    replace K := hKb.out _ _ K B16
    replace r13 := r13.below B16
    have hEq := Lib.hid (equalV_c A13 A16 n13 c13 n16 c16 L13 L16 _ r13 r16 (hL13.trans hL16.symm))
    clear B16 hFo1 r13 r16 hL13 hL16
    go_wp2_with fail
    refine hEq.out.mono ?_; rintro e w17 ⟨rfl, B17⟩
    replace K := hKb.out _ _ K B17
    clear B17 hEq
    go_wp2_with fail
    refine (judged_c _).mono ?_; rintro e w18 ⟨rfl, B18⟩
    have hfB := below_next (hKB.out _ K) B18
    go_wp2
    go_ret
    exact ⟨rfl, hfB⟩
  · have hOp1 := Lib.hid (fun W h => show Calls Tryz.prog 42 #[.slice A M c, .slice Ac nc cc, .int .i64 at_] W (RetOp W E2 []) by have := hOp.out W h; rwa [if_neg h2] at this)
    have hFi1 := Lib.hid (fun W h => show Calls Tryz.prog 43 #[.slice A M c, .slice Ac nc cc, .int .i64 at_] W (RetVs W E2 []) by have := hFi.out W h; rwa [if_neg h2] at this)
    have ho2' := Lib.hid hor2.out
    have hd2 : (E2 != 0) = true := by simpa using h2
    have hd3 : (E2 == E2) = true := beq_self_eq_true _
    clear hOp hFi hOo hFo hor2 hvc h2
    by_cases h1 : E1 = 0
    · have hVd1 := Lib.hid (fun W h => show Calls Tryz.prog 37 #[.slice A M c, .int .i64 at_] W (RetVs W 0 (vdsV l at_ (fun _ _ => false))) by have := hVd.out W h; rwa [h1, if_pos rfl] at this)
      have hVo1 := Lib.hid (fun W h => hVo.out W h1 h)
      have ho1 : orV [RE, MI] = 0 := hor1.out.trans h1
      have ho1' := Lib.hid ho1
      clear hVd hVo hor1 h1 ho1
      generalize vdsV l at_ (fun _ _ => false) = D1 at *
      go_wp2_with fail
      refine (hVd1.out _ K).mono ?_; rintro e w8 ⟨A8, n8, c8, L8, rfl, r8, hL8, B8⟩
      replace K := hKb.out _ _ K B8
      clear B8 hVd1
      go_wp2_with fail
      refine (hMo.out _).mono ?_; rintro e wm ⟨rfl, rfl⟩
      go_wp2_with fail
      refine (orE_c _ _ _ [RE, MI] _ (R1.litAt _ _ _ [_, _] (by first | rfl | simp) rfl (by simp))).mono ?_; rintro e wm ⟨rfl, rfl⟩
      rw [ho1'.out]
      have hBm := below_new w8 (.cells #[.int .i64 RE, .int .i64 MI] 32)
      replace K := hKb.out _ _ K hBm
      replace r8 := r8.below hBm
      clear hBm
      go_wp2_with fail
      refine (hVo1.out _ K).mono ?_; rintro e w10 ⟨A10, n10, c10, L10, rfl, r10, hL10, B10⟩
      replace K := hKb.out _ _ K B10
      replace r8 := r8.below B10
      have hEq := Lib.hid (equalV_c A8 A10 n8 c8 n10 c10 L8 L10 _ r8 r10 (hL8.trans hL10.symm))
      have hb8 := r8.1.bd
      clear B10 hVo1 r8 r10 hL8 hL10
      go_wp2_with fail
      refine hEq.out.mono ?_; rintro e w11 ⟨rfl, B11⟩
      replace K := hKb.out _ _ K B11
      clear B11 hEq
      go_wp2_with fail
      refine (hOp1.out _ K).mono ?_; rintro e w12 ⟨A12, c12, rfl, r12, B12⟩
      replace K := hKb.out _ _ K B12
      clear B12 hOp1 r12
      go_wp2_with fail
      refine (hFi1.out _ K).mono ?_; rintro e w13 hr13
      obtain ⟨A13, c13, rfl, B13⟩ := hr13.nil
      replace K := hKb.out _ _ K B13
      clear B13 hFi1 hr13
      go_wp2_with fail
      refine (hMo.out _).mono ?_; rintro e wm ⟨rfl, rfl⟩
      go_wp2_with fail
      refine (orE_c _ _ _ [RE, CE, MI] _ (R1.litAt _ _ _ [_, _, _] (by first | rfl | simp) rfl (by simp))).mono ?_; rintro e wm ⟨rfl, rfl⟩
      rw [ho2'.out]
      have hBm := below_new w13 (.cells #[.int .i64 RE, .int .i64 CE, .int .i64 MI] 32)
      replace K := hKb.out _ _ K hBm
      clear hBm
      go_wp2_with fail
      refine (judged_c _).mono ?_; rintro e w18 ⟨rfl, B18⟩
      have hfB := below_next (hKB.out _ K) B18
      go_wp2
      go_ret
      exact ⟨rfl, hfB⟩
    · have hVd1 := Lib.hid (fun W h => show Calls Tryz.prog 37 #[.slice A M c, .int .i64 at_] W (RetVs W E1 []) by have := hVd.out W h; rwa [if_neg h1] at this)
      have ho1' := Lib.hid hor1.out
      have he1 : (E1 != E1) = false := by simp
      have he2 : (E1 == 0) = false := beq_eq_false_iff_ne.2 h1
      have he3 : (E1 != 0) = true := by simpa using h1
      clear hVd hVo hor1 h1
      go_wp2_with fail
      refine (hVd1.out _ K).mono ?_; rintro e w8 hr8
      obtain ⟨A8, c8, rfl, B8⟩ := hr8.nil
      replace K := hKb.out _ _ K B8
      clear B8 hVd1 hr8
      go_wp2_with fail
      refine (hMo.out _).mono ?_; rintro e wm ⟨rfl, rfl⟩
      go_wp2_with fail
      refine (orE_c _ _ _ [RE, MI] _ (R1.litAt _ _ _ [_, _] (by first | rfl | simp) rfl (by simp))).mono ?_; rintro e wm ⟨rfl, rfl⟩
      rw [ho1'.out]
      have hBm := below_new w8 (.cells #[.int .i64 RE, .int .i64 MI] 32)
      replace K := hKb.out _ _ K hBm
      clear hBm
      go_wp2_with fail
      refine (hOp1.out _ K).mono ?_; rintro e w12 ⟨A12, c12, rfl, r12, B12⟩
      replace K := hKb.out _ _ K B12
      clear B12 hOp1 r12
      go_wp2_with fail
      refine (hFi1.out _ K).mono ?_; rintro e w13 hr13
      obtain ⟨A13, c13, rfl, B13⟩ := hr13.nil
      replace K := hKb.out _ _ K B13
      clear B13 hFi1 hr13
      go_wp2_with fail
      refine (hMo.out _).mono ?_; rintro e wm ⟨rfl, rfl⟩
      go_wp2_with fail
      refine (orE_c _ _ _ [RE, CE, MI] _ (R1.litAt _ _ _ [_, _, _] (by first | rfl | simp) rfl (by simp))).mono ?_; rintro e wm ⟨rfl, rfl⟩
      rw [ho2'.out]
      have hBm := below_new w13 (.cells #[.int .i64 RE, .int .i64 CE, .int .i64 MI] 32)
      replace K := hKb.out _ _ K hBm
      clear hBm
      go_wp2_with fail
      refine (judged_c _).mono ?_; rintro e w18 ⟨rfl, B18⟩
      have hfB := below_next (hKB.out _ K) B18
      go_wp2
      go_ret
      exact ⟨rfl, hfB⟩
end Go.Proofs.YtpepdkgkdbnakaaGreatDoor
