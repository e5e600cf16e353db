/- FinalsMade: the walk. -/
import Derived.Test.YtjafcnblgeibpaaGreatDoorDecE
import Derived.Test.YtjafcnblgeibpaaGreatDoorP28
import Derived.Test.YtjafcnblgeibpaaGreatDoorOffM
import Derived.Test.YtjafcnblgeibpaaGreatDoorPoolM
import Derived.Deep.DeepCutAuto
namespace Go.Proofs.YtjafcnblgeibpaaGreatDoor
open Go.RowKit Go.Shelf Go.Lib Go.Sort
set_option linter.unusedVariables false

theorem decidedT_c (f : Fl) (hf : FlOk f) (A O : Option Addr) (n c m d : Nat) (l off : List Sd) (w : World) (h : RSd w A n l) (hO : RSd w O m off) (hn : n ≤ 19) (h0 : seedErr l = 0) :
    Calls Tryz.prog 19 #[f.val, .slice A n c, .slice O m d] w (RetDc w (decE (offV f (finL l)).flatten off) (if decE (offV f (finL l)).flatten off = 0 then plc f (refV f off l) 0 (refV f off l) else [])) := by
  by_cases hs : seedErr off = 0
  · have e1 : decE (offV f (finL l)).flatten off = if inAll (offV f (finL l)).flatten off = true then 0 else 8 := if_neg (by simpa using hs)
    have hG := decidedG_c f hf A O n c m d l off w h hO hn h0 hs
    rw [dec_ref f h0 hs] at hG
    rw [e1]
    by_cases hi : inAll (offV f (finL l)).flatten off = true
    · rw [if_pos hi, if_pos hi] at hG
      rw [if_pos hi, if_pos rfl]
      exact hG
    · rw [if_neg hi, if_neg hi] at hG
      rw [if_neg hi, if_neg (by decide)]
      exact hG
  · have e1 : decE (offV f (finL l)).flatten off = seedErr off := if_pos hs
    rw [e1, if_neg hs]
    exact (decidedY_c f hf A O n c m d l off w h hO h0 hs).mono fun e w' ⟨h1, h2⟩ => ⟨none, 0, 0, h1, RN.nil_ _ _ _ _ _, h2⟩
theorem fSE_or (f : Fl) (l : List Sd) : orV [finErr f, seedErr l] = fSE f l := by
  unfold fSE
  simp only [orV]
  by_cases h : finErr f ≠ 0
  · rw [if_pos h, if_pos h]
  · rw [if_neg h, if_neg h]
    by_cases h2 : seedErr l = 0 <;> simp [h2]
structure K28 (w : World) (A O : Option Addr) (n m : Nat) (x off : List Sd) (b4 : Nat) (f : Fl) (wx : World) : Prop where
  sd : RSd wx A n x
  of_ : RSd wx O m off
  fb : FinB b4 f wx
  bel : Below w.heap.size w wx
theorem K28.below {w : World} {A O : Option Addr} {n m : Nat} {x off : List Sd} {b4 : Nat} {f : Fl} {wx w' : World} (h : K28 w A O n m x off b4 f wx) (B : Below wx.heap.size wx w') : K28 w A O n m x off b4 f w' := ⟨h.sd.below B, h.of_.below B, FinB.keep _ _ h.fb B, below_next h.bel B⟩
set_option maxHeartbeats 6400000 in
set_option maxRecDepth 100000 in
theorem finalsMade_walk (a0 : Option Addr) (len0 cap0 : Nat) (z0 : List Int) (w : World) (w0 : IsRow .i64 w a0 len0 cap0 z0) (htab : Tb w) :
    Calls Tryz.prog 3 #[.slice a0 len0 cap0] w fun e w' => e = .returned (.bool true) ∧ Below w.heap.size w w' := by
  have hs := law_start w0
  clear w0
  generalize z0.take len0 = zs at *
  go_enter Tryz.func3, Tryz.ntmps3
  go_wp2_with fail
  have hs' : St (w.alloc (.cells #[.slice a0 len0 cap0, .int .i64 0] 25)) w.heap.size zs 0 := hs
  have hB1 := below_new w (.cells #[.slice a0 len0 cap0, .int .i64 0] 25)
  refine (finalOf_c _ zs 0 _ hs' (by omega)).mono ?_; rintro e w2 ⟨sz, mn, rs, k2, rfl, b0, b1, b2, s2, hk2, g2⟩
  have hB2 := hB1.trans (grown_below g2 (Nat.le_refl _) hB1.size)
  clear hs hs' hB1 g2
  go_wp2_with fail
  refine (seeds_c _ zs k2 12 _ w s2 (by omega) (by omega) htab hB2 (Nat.le_refl _)).mono ?_; rintro e w3 ⟨A, n, c, x, k3, rfl, ho3, hxl, hn, s3, hk3, g3⟩
  have hx : RSd w3 A n x := RN.of_own sdE_len ho3 hxl (by omega)
  have hB3 := hB2.trans (grown_below g3 (Nat.le_refl _) hB2.size)
  clear s2 g3 hB2 htab ho3
  have hf4 : FinB w3.heap.size ⟨sz, mn, rs⟩ (w3.alloc (.cells #[.int .i64 sz, .int .i64 mn, .int .i64 rs] 27)) := heap_alloc_new w3 _
  have hx4 := hx.alloc (.cells #[.int .i64 sz, .int .i64 mn, .int .i64 rs] 27)
  have s4 := s3.alloc (.cells #[.int .i64 sz, .int .i64 mn, .int .i64 rs] 27)
  have hB4 := hB3.alloc hB3.size (.cells #[.int .i64 sz, .int .i64 mn, .int .i64 rs] 27)
  have hg4 := s3.lt
  have hFa := Lib.hid (fun v (h : FinB w3.heap.size ⟨sz, mn, rs⟩ v) => h.at_)
  have hOff := Lib.hid (fun W k h hs hk => offSeeds_c ⟨sz, mn, rs⟩ A n c x w.heap.size zs k W h hs (by omega) hk)
  dsimp only [Fl.val] at *
  obtain ⟨z0, z1, z2⟩ := hFa.out _ hf4
  clear hx s3 hB3
  go_wp2_with fail
  generalize w3.alloc (.cells #[.int .i64 sz, .int .i64 mn, .int .i64 rs] 27) = w4 at *
  generalize w3.heap.size = b4 at *
  refine (hOff.out _ _ hx4 s4 (by omega)).mono ?_; rintro e w6 ⟨O, m, d, off, k6, rfl, ho6, hm6, s6, hk6, g6⟩
  have hlo := own_len sdE_len (by decide) ho6
  have K : K28 w A O n m x off b4 ⟨sz, mn, rs⟩ w6 := ⟨hx4.keep (T := 25) (by decide) (s4.keep g6), RN.of_own sdE_len ho6 hlo (by omega), blk_grown hf4 g6 (fun e => by have := Option.some.inj e; omega), hB4.trans (grown_below g6 (Nat.le_refl _) hB4.size)⟩
  clear z0 z1 z2 hf4 hx4 s4 hB4 ho6 s6 g6 hOff
  have hFF := Lib.hid (fun W => finalFault_c ⟨sz, mn, rs⟩ W)
  have hCF := Lib.hid (fun W => checkFinal_c ⟨sz, mn, rs⟩ W)
  have hSF := Lib.hid (fun W (h : K28 w A O n m x off b4 ⟨sz, mn, rs⟩ W) => seedsFault_c A n c x W h.sd)
  have hor := Lib.hid (fSE_or ⟨sz, mn, rs⟩ x)
  have hE1 := Lib.hid (fun W h1 (h : K28 w A O n m x off b4 ⟨sz, mn, rs⟩ W) => finalsX_c ⟨sz, mn, rs⟩ A none n c 0 0 x W h.sd h1)
  have hE2 := Lib.hid (fun W h1 (h : K28 w A O n m x off b4 ⟨sz, mn, rs⟩ W) => swimOffX_c ⟨sz, mn, rs⟩ A none n c 0 0 x W h.sd h1)
  have hE3 := Lib.hid (fun W h1 (h : K28 w A O n m x off b4 ⟨sz, mn, rs⟩ W) => decidedX_c ⟨sz, mn, rs⟩ A O n c m d x W h.sd h1)
  have hOk := Lib.hid (fun (h : fSE ⟨sz, mn, rs⟩ x = 0) => show FlOk ⟨sz, mn, rs⟩ ∧ seedErr x = 0 by
    unfold fSE at h
    split at h
    · rename_i h1; exact absurd h h1
    · rename_i h1; exact ⟨finErr_ok (by simpa using h1), h⟩)
  have hSw := Lib.hid (fun W h0 hx0 (h : K28 w A O n m x off b4 ⟨sz, mn, rs⟩ W) => swimOff_c ⟨sz, mn, rs⟩ h0 A n c x W h.sd (by omega) hx0)
  have hSr := Lib.hid (fun W h0 hx0 (h : K28 w A O n m x off b4 ⟨sz, mn, rs⟩ W) => swimOffOf_c ⟨sz, mn, rs⟩ h0 A n c x W h.sd (by omega) hx0)
  have hFi := Lib.hid (fun W h0 hx0 (h : K28 w A O n m x off b4 ⟨sz, mn, rs⟩ W) => finals_c ⟨sz, mn, rs⟩ h0 A n c x W h.sd (by omega) hx0)
  have hFr := Lib.hid (fun W h0 hx0 (h : K28 w A O n m x off b4 ⟨sz, mn, rs⟩ W) => finalsOf_c ⟨sz, mn, rs⟩ h0 A n c x W h.sd (by omega) hx0)
  have hDf := Lib.hid (fun W h0 hx0 (h : K28 w A O n m x off b4 ⟨sz, mn, rs⟩ W) => decidedFault_c ⟨sz, mn, rs⟩ h0 A O n c m d x off W h.sd h.of_ (by omega) hx0)
  have hDc := Lib.hid (fun W h0 hx0 (h : K28 w A O n m x off b4 ⟨sz, mn, rs⟩ W) => decidedT_c ⟨sz, mn, rs⟩ h0 A O n c m d x off W h.sd h.of_ (by omega) hx0)
  have hDr := Lib.hid (fun W h0 hx0 (h : K28 w A O n m x off b4 ⟨sz, mn, rs⟩ W) => decidedOf_c ⟨sz, mn, rs⟩ h0 A O n c m d x off W h.sd h.of_ (by omega) (by omega) hx0)
  have hKB := Lib.hid (fun W (h : K28 w A O n m x off b4 ⟨sz, mn, rs⟩ W) => h.bel)
  have hKb := Lib.hid (fun W w' (h : K28 w A O n m x off b4 ⟨sz, mn, rs⟩ W) (B : Below W.heap.size W w') => h.below B)
  have hKf := Lib.hid (fun W (h : K28 w A O n m x off b4 ⟨sz, mn, rs⟩ W) => h.fb.at_)
  dsimp only [Fl.val] at *
  generalize K28 w A O n m x off b4 ⟨sz, mn, rs⟩ = KK at *
  generalize plc ⟨sz, mn, rs⟩ (refV ⟨sz, mn, rs⟩ off x) 0 (refV ⟨sz, mn, rs⟩ off x) = QV at *
  generalize plcV ⟨sz, mn, rs⟩ x = PV at *
  generalize offV ⟨sz, mn, rs⟩ (finL x) = OV at *
  generalize decE OV.flatten off = DE at *
  generalize fSE ⟨sz, mn, rs⟩ x = OR at *
  generalize finErr ⟨sz, mn, rs⟩ = FE at *
  generalize seedErr x = SE at *
  have hcc : (FE != FE) = false := by simp
  obtain ⟨z0, z1, z2⟩ := hKf.out _ K
  go_wp2_with fail
  refine (hFF.out _).mono ?_; rintro e x1 ⟨rfl, B1⟩
  replace K := hKb.out _ _ K B1
  clear z0 z1 z2 B1 hFF
  obtain ⟨z0, z1, z2⟩ := hKf.out _ K
  go_wp2_with fail
  refine (hCF.out _).mono ?_; rintro e x2 ⟨rfl, B2⟩
  replace K := hKb.out _ _ K B2
  clear z0 z1 z2 B2 hCF
  obtain ⟨z0, z1, z2⟩ := hKf.out _ K
  go_wp2_with fail
  refine (hSF.out _ K).mono ?_; rintro e x3 ⟨rfl, B3⟩
  replace K := hKb.out _ _ K B3
  clear z0 z1 z2 B3 hSF
  go_wp2_with fail
  refine (orE_c _ _ _ [FE, SE] _ (R1.litAt _ _ _ [_, _] (by first | rfl | simp) rfl (by simp))).mono ?_; rintro e wm ⟨rfl, rfl⟩
  have hBm := below_new x3 (.cells #[.int .i64 FE, .int .i64 SE] 32)
  replace K := hKb.out _ _ K hBm
  clear hBm hcc
  rw [hor.out]
  obtain ⟨z0, z1, z2⟩ := hKf.out _ K
  by_cases hO0 : OR = 0
  rotate_left
  · have hE1' := Lib.hid (fun W h => hE1.out W hO0 h)
    have hE2' := Lib.hid (fun W h => hE2.out W hO0 h)
    have hE3' := Lib.hid (fun W h => hE3.out W hO0 h)
    have hb0 : (OR != 0) = true := by simpa using hO0
    have hb1 : (OR == OR) = true := by simp
    clear hE1 hE2 hE3 hO0 hOk hSw hSr hFi hFr hDf hDc hDr hor
    go_wp2_with fail
    refine (hE1'.out _ K).mono ?_; rintro e y1 ⟨rfl, C1⟩
    replace K := hKb.out _ _ K C1
    clear z0 z1 z2 C1 hE1'
    obtain ⟨z0, z1, z2⟩ := hKf.out _ K
    go_wp2_with fail
    refine (hE2'.out _ K).mono ?_; rintro e y2 ⟨rfl, C2⟩
    replace K := hKb.out _ _ K C2
    clear z0 z1 z2 C2 hE2'
    obtain ⟨z0, z1, z2⟩ := hKf.out _ K
    go_wp2_with fail
    refine (hE3'.out _ K).mono ?_; rintro e y3 ⟨rfl, C3⟩
    replace K := hKb.out _ _ K C3
    clear z0 z1 z2 C3 hE3'
    go_wp2_with fail
    refine (heated_c _).mono ?_; rintro e wM ⟨rfl, BM⟩
    have hB := below_next (hKB.out _ K) BM
    go_wp2
    go_ret
    exact ⟨rfl, hB⟩
  obtain ⟨h0, hx0⟩ := hOk.out hO0
  have hSw' := Lib.hid (fun W h => hSw.out W h0 hx0 h)
  have hSr' := Lib.hid (fun W h => hSr.out W h0 hx0 h)
  have hFi' := Lib.hid (fun W h => hFi.out W h0 hx0 h)
  have hFr' := Lib.hid (fun W h => hFr.out W h0 hx0 h)
  have hDf' := Lib.hid (fun W h => hDf.out W h0 hx0 h)
  have hDc' := Lib.hid (fun W h => hDc.out W h0 hx0 h)
  have hDr' := Lib.hid (fun W h => hDr.out W h0 hx0 h)
  subst hO0
  clear hE1 hE2 hE3 hOk hSw hSr hFi hFr hDf hDc hDr hor h0 hx0
  go_wp2_with fail
  refine (hFi'.out _ K).mono ?_; rintro e y1 ⟨A1, n1, c1, rfl, r1, hn1, C1⟩
  replace K := hKb.out _ _ K C1
  clear z0 z1 z2 C1 hFi'
  obtain ⟨z0, z1, z2⟩ := hKf.out _ K
  go_wp2_with fail
  refine (hSw'.out _ K).mono ?_; rintro e y2 ⟨u2, rfl, A2, c2, L2, rfl, r2, _, hL2, C2⟩
  replace K := hKb.out _ _ K C2
  replace r1 := r1.below C2
  clear z0 z1 z2 C2 hSw'
  obtain ⟨z0, z1, z2⟩ := hKf.out _ K
  go_wp2_with fail
  refine (hDc'.out _ K).mono ?_; rintro e y3 ⟨A3, n3, c3, rfl, r3, C3⟩
  replace K := hKb.out _ _ K C3
  replace r1 := r1.below C3
  replace r2 := r2.below C3
  clear z0 z1 z2 C3 hDc'
  obtain ⟨z0, z1, z2⟩ := hKf.out _ K
  go_upto_region 13 with (fail)
  go_cut [105] (fun s105 wx => s105 = .bool false ∧ KK wx ∧ RPc wx A3 n3 (if DE = 0 then QV else []))
  case first =>
    go_wp2_with fail
    refine (hFr'.out _ K).mono ?_; rintro e y4 ⟨A4, n4, c4, rfl, r4, hn4, C4⟩
    replace K := hKb.out _ _ K C4
    replace r1 := r1.below C4
    replace r2 := r2.below C4
    replace r3 := r3.below C4
    clear z0 z1 z2 C4 hFr'
    obtain ⟨z0, z1, z2⟩ := hKf.out _ K
    go_wp2_with fail
    refine (equalPc_c A1 A4 n1 c1 n4 c4 PV _ r1 r4).mono ?_; rintro e y5 ⟨rfl, C5⟩
    replace K := hKb.out _ _ K C5
    replace r2 := r2.below C5
    replace r3 := r3.below C5
    clear z0 z1 z2 C5 r1 r4
    obtain ⟨z0, z1, z2⟩ := hKf.out _ K
    go_wp2_with fail
    refine (hSr'.out _ K).mono ?_; rintro e y6 ⟨u6, rfl, A6, c6, L6, rfl, r6, _, hL6, C6⟩
    replace K := hKb.out _ _ K C6
    replace r2 := r2.below C6
    replace r3 := r3.below C6
    clear z0 z1 z2 C6 hSr'
    obtain ⟨z0, z1, z2⟩ := hKf.out _ K
    go_wp2_with fail
    refine (equalNx_c A2 A6 L2.length c2 L6.length c6 L2 L6 _ r2 r6 (hL2.trans hL6.symm)).mono ?_; rintro e y7 ⟨rfl, C7⟩
    replace K := hKb.out _ _ K C7
    replace r3 := r3.below C7
    clear z0 z1 z2 C7 r2 r6
    go_wp2
    go_meet
    case rel => exact ⟨rfl, K, r3⟩
  case rest =>
    clear K r1 r2 r3 z0 z1 z2 hFr' hSr' hL2
    obtain ⟨rfl, K, r3⟩ := hcut
    rename World => v1
    obtain ⟨z0, z1, z2⟩ := hKf.out _ K
    go_wp2_with fail
    refine (hDf'.out _ K).mono ?_; rintro e v2 ⟨rfl, C2⟩
    replace K := hKb.out _ _ K C2
    replace r3 := r3.below C2
    clear z0 z1 z2 C2 hDf'
    by_cases hD : DE = 0
    · subst hD
      rw [if_pos rfl] at r3
      obtain ⟨z0, z1, z2⟩ := hKf.out _ K
      go_wp2_with fail
      refine (hDr'.out _ K).mono ?_; rintro e v3 ⟨A8, n8, c8, rfl, r8, C3⟩
      replace K := hKb.out _ _ K C3
      replace r3 := r3.below C3
      clear z0 z1 z2 C3 hDr'
      go_wp2_with fail
      refine (equalPc_c A3 A8 n3 c3 n8 c8 QV _ r3 r8).mono ?_; rintro e v4 ⟨rfl, C4⟩
      replace K := hKb.out _ _ K C4
      clear C4 r3 r8
      go_wp2_with fail
      refine (heated_c _).mono ?_; rintro e wM ⟨rfl, BM⟩
      have hB := below_next (hKB.out _ K) BM
      go_wp2
      go_ret
      exact ⟨rfl, hB⟩
    · rw [if_neg hD] at r3
      have hn3 : n3 = 0 := r3.len.symm
      subst hn3
      have hb0 : (DE != 0) = true := by simpa using hD
      have hb1 : (DE == DE) = true := by simp
      clear hD hDr' r3
      go_wp2_with fail
      refine (heated_c _).mono ?_; rintro e wM ⟨rfl, BM⟩
      have hB := below_next (hKB.out _ K) BM
      go_wp2
      go_ret
      exact ⟨rfl, hB⟩
end Go.Proofs.YtjafcnblgeibpaaGreatDoor
