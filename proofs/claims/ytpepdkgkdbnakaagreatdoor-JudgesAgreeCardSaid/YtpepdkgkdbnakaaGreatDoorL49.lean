/- JudgesAgree: the walk. -/
import Derived.Test.YtpepdkgkdbnakaaGreatDoorRptE
import Derived.Test.YtpepdkgkdbnakaaGreatDoorRptD
import Derived.Test.YtpepdkgkdbnakaaGreatDoorHalfR
import Derived.Test.YtpepdkgkdbnakaaGreatDoorVerT
import Derived.Test.YtpepdkgkdbnakaaGreatDoorRptM
import Derived.Test.YtpepdkgkdbnakaaGreatDoorDraws
import Derived.Test.YtpepdkgkdbnakaaGreatDoorReady
namespace Go.Proofs.YtpepdkgkdbnakaaGreatDoor
open Go.RowKit Go.Shelf Go.Lib Go.Sort
set_option linter.unusedVariables false

theorem equalRp_same (A1 A2 : Option Addr) (n c m d : Nat) (l : List Rp) {w : World} (h1 : RRp w A1 n l) (h2 : RRp w A2 m l) :
    Calls Tryz.prog 62 #[.slice A1 n c, .slice A2 m d] w fun e w' => e = .returned (.bool true) ∧ Below w.heap.size w w' :=
  (equalRp_c A1 A2 n c m d l l w h1 h2).mono fun e w' ⟨he, q, hB⟩ => ⟨by rw [he]; simp, by rw [hB]; exact below_drewN (Below.refl _ _) _⟩
/-- what is carried -/
structure K49 (w : World) (A : Option Addr) (n : Nat) (l : List Rp) (A1 : Option Addr) (n1 : Nat) (a : List Rp) (A2 : Option Addr) (n2 : Nat) (b : List Rp) (wx : World) : Prop where
  li : RRp wx A n l
  ha : RRp wx A1 n1 a
  hb : RRp wx A2 n2 b
  bel : Below w.heap.size w wx
theorem K49.below {w : World} {A : Option Addr} {n : Nat} {l : List Rp} {A1 : Option Addr} {n1 : Nat} {a : List Rp} {A2 : Option Addr} {n2 : Nat} {b : List Rp} {wx w' : World} (h : K49 w A n l A1 n1 a A2 n2 b wx) (hb : Below wx.heap.size wx w') : K49 w A n l A1 n1 a A2 n2 b w' := ⟨h.li.below hb, h.ha.below hb, h.hb.below hb, below_next h.bel hb⟩
set_option maxHeartbeats 6400000 in
set_option maxRecDepth 100000 in
theorem judgesAgree_walk (a0 : Option Addr) (len0 cap0 : Nat) (z0 : List Int) (w : World) (w0 : IsRow .i64 w a0 len0 cap0 z0) (htab : Tb w) :
    Calls Tryz.prog 9 #[.slice a0 len0 cap0] w fun e w' => e = .returned (.bool true) ∧ Below w.heap.size w w' := by
  have hs := law_start w0
  clear w0
  generalize z0.take len0 = zs at *
  go_enter Tryz.func9, Tryz.ntmps9
  go_wp2_with fail
  have hs' : St (w.alloc (.cells #[.slice a0 len0 cap0, .int .i64 0] 25)) w.heap.size zs 0 := hs
  have hB1 := below_new w (.cells #[.slice a0 len0 cap0, .int .i64 0] 25)
  refine (rangeE_c _ zs 0 0 10 _ hs' (by omega) (by decide) (by decide) (by decide)).mono ?_; rintro e w1 ⟨v, rfl, v0, v1, s1, g1⟩
  obtain ⟨M, rfl⟩ : ∃ M : Nat, v = M := ⟨v.toNat, by omega⟩
  have hB2 := hB1.trans (grown_below g1 (Nat.le_refl _) hB1.size)
  clear hs hs' g1 hB1
  go_wp2_with fail
  refine (rightReports_c _ zs 1 M _ w s1 (by omega) (by omega) htab hB2 (Nat.le_refl _)).mono ?_; rintro e w2 ⟨A, n, c, l, k2, rfl, ho2, hl2, hre, hnM, s2, hk2, g2⟩
  have hR2 : RRp w2 A n l := RN.of_own rpE_len ho2 hl2 (by omega)
  have hB3 := hB2.trans (grown_below g2 (Nat.le_refl _) hB2.size)
  have hre' := Lib.hid hre
  have hl := Lib.hid hl2
  clear htab hB2 s1 g2 ho2 hre hl2
  go_wp2_with fail
  refine (pickB_c _ zs k2 [0, 15, 60, 1800000] 0 1800000 4 4 w2.heap.size #[.int .i64 0, .int .i64 15, .int .i64 60, .int .i64 1800000] w2 s2 (by omega) rfl rfl rfl (by decide) (by decide) (by simp)).mono ?_; rintro e w3 ⟨at_, rfl, ha0, ha1, s3, g3⟩
  have hR3 := hR2.keep (T := 25) (by decide) (s2.keep g3)
  have hB4 := hB3.trans (grown_below g3 (Nat.le_refl _) hB3.size)
  clear hR2 hB3 s2 g3
  have hHC := Lib.hid (halfReports_c A n c l w.heap.size zs (k2 + 1) w3 hR3 s3 (by omega) (by omega))
  go_wp2_with fail
  refine hHC.out.mono ?_; rintro e w5 ⟨ks, A1, c1, A2, c2, rfl, hks, r1, r2, hcp1, hcp2, s5, g5, _, _, _, _, _⟩
  have hlA := (halfA_sub ks).length_le
  have hlB := (halfB_sub ks).length_le
  rw [hks, hl.out] at hlA hlB
  have hAB := Lib.hid (fun E out h => mrgPAB (E := E) (out := out) hre'.out hks h)
  have hBA := Lib.hid (fun E out h => mrgPBA (E := E) (out := out) hre'.out hks h)
  have hmb : momB at_ = true := decide_eq_true ⟨ha0, by omega⟩
  have e1 : vrdE l at_ = 0 := by unfold vrdE; rw [if_neg (by simpa using hre'.out), if_pos hmb]
  have K : K49 w A n l A1 (halfA ks).length (halfA ks) A2 (halfB ks).length (halfB ks) w5 :=
    ⟨hR3.keep (T := 25) (by decide) (s3.keep g5), r1, r2, hB4.trans (grown_below g5 (Nat.le_refl _) hB4.size)⟩
  have hM1 := Lib.hid (fun W h1 h2 => mergeR_c A1 A2 (halfA ks).length c1 (halfB ks).length c2 (halfA ks) (halfB ks) W h1 h2 (by omega) (by omega))
  have hM2 := Lib.hid (fun W h1 h2 => mergeR_c A2 A1 (halfB ks).length c2 (halfA ks).length c1 (halfB ks) (halfA ks) W h1 h2 (by omega) (by omega))
  have hVd := Lib.hid (fun W A' c' h => show Calls Tryz.prog 37 #[.slice A' n c', .int .i64 at_] W (RetVs W 0 (vdsV l at_ (fun _ _ => false))) by have := verdicts_c A' n c' l at_ W h (by omega); rwa [e1, if_pos rfl] at this)
  have hKB := fun wx (h : K49 w A n l A1 (halfA ks).length (halfA ks) A2 (halfB ks).length (halfB ks) wx) => h.bel
  have hKl := fun wx (h : K49 w A n l A1 (halfA ks).length (halfA ks) A2 (halfB ks).length (halfB ks) wx) => h.li
  have hKa := fun wx (h : K49 w A n l A1 (halfA ks).length (halfA ks) A2 (halfB ks).length (halfB ks) wx) => h.ha
  have hKb := fun wx (h : K49 w A n l A1 (halfA ks).length (halfA ks) A2 (halfB ks).length (halfB ks) wx) => h.hb
  have hKd := fun wx w' (h : K49 w A n l A1 (halfA ks).length (halfA ks) A2 (halfB ks).length (halfB ks) wx) (hb : Below wx.heap.size wx w') => h.below hb
  clear hR3 hB4 s3 s5 g5 r1 r2 hcp1 hcp2 hre' hHC hks e1 hmb
  generalize K49 w A n l A1 (halfA ks).length (halfA ks) A2 (halfB ks).length (halfB ks) = KK at *
  generalize halfA ks = a at *
  generalize halfB ks = b at *
  generalize vdsV l at_ (fun _ _ => false) = D1 at *
  go_wp2_with fail
  refine (hM1.out _ (hKa _ K) (hKb _ K)).mono ?_; rintro e w6 ⟨A6, n6, c6, o6, E6, rfl, r6, _, hm6, B6⟩
  obtain ⟨rfl, ho6⟩ := hAB.out _ _ hm6
  rw [ho6] at r6
  obtain rfl : n6 = n := r6.len.symm.trans hl.out
  replace K := hKd _ _ K B6
  clear B6 hm6 ho6 hM1
  go_wp2_with fail
  refine (hM2.out _ (hKb _ K) (hKa _ K)).mono ?_; rintro e w7 ⟨A7, n7, c7, o7, E7, rfl, r7, _, hm7, B7⟩
  obtain ⟨rfl, ho7⟩ := hBA.out _ _ hm7
  rw [ho7] at r7
  obtain rfl : n7 = n6 := r7.len.symm.trans hl.out
  replace K := hKd _ _ K B7
  replace r6 := r6.below B7
  clear B7 hm7 ho7 hM2
  go_wp2_with fail
  refine (equalRp_same A6 A7 n7 c6 n7 c7 l r6 r7).mono ?_; rintro e w9 ⟨rfl, B9⟩
  replace K := hKd _ _ K B9
  replace r6 := r6.below B9
  clear B9 r7
  go_wp2_with fail
  refine (equalRp_same A6 A n7 c6 n7 c l r6 (hKl _ K)).mono ?_; rintro e w10 ⟨rfl, B10⟩
  replace K := hKd _ _ K B10
  replace r6 := r6.below B10
  clear B10
  go_wp2_with fail
  refine (hVd.out _ A6 c6 r6).mono ?_; rintro e w11 ⟨A11, n11, c11, L11, rfl, r11, hL11, B11⟩
  replace K := hKd _ _ K B11
  clear B11 r6
  go_wp2_with fail
  refine (hVd.out _ A c (hKl _ K)).mono ?_; rintro e w12 ⟨A12, n12, c12, L12, rfl, r12, hL12, B12⟩
  replace K := hKd _ _ K B12
  replace r11 := r11.below B12
  have hEq := Lib.hid (equalV_c A11 A12 n11 c11 n12 c12 L11 L12 _ r11 r12 (hL11.trans hL12.symm))
  clear B12 hVd r11 r12 hL11 hL12
  go_wp2_with fail
  refine hEq.out.mono ?_; rintro e w13 ⟨rfl, B13⟩
  replace K := hKd _ _ K B13
  clear B13 hEq
  go_wp2_with fail
  refine (ready_c _).mono ?_; rintro e w17 ⟨rfl, B17⟩
  have hfB := below_next (hKB _ K) B17
  go_wp2
  go_ret
  exact ⟨rfl, hfB⟩
end Go.Proofs.YtpepdkgkdbnakaaGreatDoor
