/- TouchesAreLapsOrGhosts: the walk. Printed by wip/gen41.py. -/
import Derived.Test.YtcdnjehkkbnfbaaGreatDoorPadK
import Derived.Test.YtcdnjehkkbnfbaaGreatDoorClkM
import Derived.Test.YtcdnjehkkbnfbaaGreatDoorDraws
import Derived.Test.YtcdnjehkkbnfbaaGreatDoorLapQ
import Derived.Test.YtcdnjehkkbnfbaaGreatDoorSgR
import Derived.Test.YtcdnjehkkbnfbaaGreatDoorPlainR
import Derived.Test.YtcdnjehkkbnfbaaGreatDoorReady
namespace Go.Proofs.YtcdnjehkkbnfbaaGreatDoor
open Go.RowKit Go.Shelf Go.Lib Go.Sort
set_option linter.unusedVariables false

theorem bothErr_of {cl : List Ck} {l : List Sg} (h1 : clkErr cl = 0) (h2 : sigErr l = 0) : bothErr cl l = 0 := by unfold bothErr; rw [if_neg (by simpa using h1)]; exact h2
theorem filt_at {l : List LP.Lp} {k : Nat} {x : LP.Lp} (h : l[k]? = some x) : ((l.drop k).filter (fun l => !l.filled)).map (fun l => l.time) = (if x.filled then [] else [x.time]) ++ ((l.drop (k + 1)).filter (fun l => !l.filled)).map (fun l => l.time) := by
  rw [drop_at h, List.filter_cons]
  cases x.filled <;> simp
theorem lapsV_bd {N : Nat} {l : List Int} (hb : ∀ x ∈ l, 0 ≤ x ∧ x ≤ 1000000000) (hN1 : 1 ≤ N) (hN : N ≤ 16) : ∀ x ∈ lapsV N l, 0 ≤ x.length ∧ x.length ≤ 16 := by
  intro x hx
  rcases lapsV_ends N l hb hN1 hN with h | h
  · rw [h] at hx; cases hx
  · have : x.length ∈ endsV N := h ▸ List.mem_map_of_mem hx
    exact endsV_bd hN _ this
set_option maxHeartbeats 6400000 in
set_option maxRecDepth 100000 in
theorem touchesAreLapsOrGhosts_walk (a0 : Option Addr) (len0 cap0 : Nat) (z0 : List Int) (w : World) (w0 : IsRow .i64 w a0 len0 cap0 z0) :
    Calls Tryz.prog 10 #[.slice a0 len0 cap0] w fun e w' => e = .returned (.bool true) ∧ Below w.heap.size w w' := by
  have hs := law_start w0
  clear w0
  generalize z0.take len0 = zs at *
  go_enter Tryz.func10, Tryz.ntmps10
  go_wp2_with fail
  have hs' : St (w.alloc (.cells #[.slice a0 len0 cap0, .int .i64 0] 25)) w.heap.size zs 0 := hs
  refine (plainRace_c w.heap.size zs 0 _ hs' (by omega)).mono ?_; rintro e w1 ⟨rfl, s1, g1⟩
  rw [plainRace_2] at s1
  have hok0 := plainRace_ok zs 0
  have hl16 := plain_len zs 0
  have hB1 : Below w.heap.size w w1 := (below_new w _).trans (grown_below g1 (Nat.le_refl _) (by simp))
  generalize (plainRace zs 0).1 = r at *
  clear hs hs' g1
  go_wp2_with fail
  refine (rightSignals_c _ zs _ _ s1 (by omega)).mono ?_; rintro e w2 ⟨A, n, c, l, k2, rfl, hL2, hsg, hn18, s2, hk2, g2, hcpA⟩
  have hB2 := hB1.trans (grown_below g2 (Nat.le_refl _) hB1.size)
  clear hB1 s1 g2 hcpA
  go_wp2_with fail
  refine (clocks_c _ zs k2 _ s2 (by omega)).mono ?_; rintro e w3 ⟨Ac, nc, cc, cl, k3, rfl, hC3, hnc, s3, hk3, g3⟩
  have hL3 := hL2.keep (T := 25) (by decide) (s2.keep g3)
  have hB3 := hB2.trans (grown_below g3 (Nat.le_refl _) hB2.size)
  clear hL2 hB2 s2 g3 s3
  have hbx := below_new w3 (.cells r.cells 27)
  have K : K25 w w3.heap.size r A n l Ac nc cl (w3.alloc (.cells r.cells 27)) := ⟨hL3.below hbx, hC3.below hbx, heap_alloc_new w3 _, below_next hB3 hbx⟩
  clear hL3 hC3 hB3 hbx
  have hl := K.li.len
  obtain ⟨hv1, hv2⟩ := lenNat hok0
  obtain ⟨N, hN⟩ : ∃ N : Nat, (lenV r).toNat = N := ⟨_, rfl⟩
  rw [hN] at hv1 hv2
  have hN16 : N ≤ 16 := by omega
  have hF1 := Lib.hid (fun W h => clocksFault_c Ac nc cc cl W h)
  have hbo := Lib.hid (fun h => bothErr_of (cl := cl) h hsg)
  have hok := Lib.hid (fun h => both_ok (cl := cl) (l := l) h)
  have hLF := Lib.hid (fun W h1 h2 h3 h4 => laneFault_c Ac nc cc cl A n c l 1 1 W h1 h2 h3 h4 (by omega))
  have hTC := Lib.hid (fun W h1 h2 => touches26_c Ac nc cc cl A n c l 1 1 W h1 h2 (by omega))
  have hLA := Lib.hid (fun W h1 h2 => padLaps39_c r N (fun _ => ⟨hv1, hv2, hN16⟩) Ac nc cc cl A n c l 1 1 W h1 h2 (by omega))
  have hGH := Lib.hid (fun W h1 h2 => padGhosts_c r N (fun _ => ⟨hv1, hv2, hN16⟩) Ac nc cc cl A n c l 1 1 W h1 h2 (by omega))
  have hLn := Lib.hid (fun W => show Calls Tryz.prog 91 #[r.val] W fun e w' => e = .returned (.tuple #[.int .i64 (N : Int), .int .i64 0]) ∧ Below W.heap.size W w' by have := Lengths_ok r W hok0; rwa [hv1] at this)
  have hcE : clkErr cl = 0 → laneErr cl l 1 1 = 0 → clE r cl l 1 1 = 0 := fun h1 h2 => by
    unfold clE ttE
    rw [if_neg (by simpa using hok0), if_neg (by simpa using bothErr_of h1 hsg)]; exact h2
  have hcE' := Lib.hid hcE
  have htE : clkErr cl = 0 → laneErr cl l 1 1 = 0 → ttE cl l 1 1 = 0 := fun h1 h2 => by
    unfold ttE
    rw [if_neg (by simpa using bothErr_of h1 hsg)]; exact h2
  have htE' := Lib.hid htE
  have hlo := Lib.hid (fun h => ttE_ok (cl := cl) (l := l) (heat := 1) (lane := 1) h)
  have htl := touV_len cl l 1 1
  rw [hl] at htl
  have htb := Lib.hid (fun (h : 1 ≤ (startsV cl l).length) => show ∀ x ∈ touV cl l 1 1, 0 ≤ x ∧ x ≤ 1000000000 from fun x hx => ⟨touV_ge cl l 1 1 (Nat.le_refl _) h x hx, by have := touV_le cl l 1 1 x hx; omega⟩)
  have hsort := Lib.hid (fun L h => sort_ghost N cl l 1 1 (L := L) h)
  have hperm := Lib.hid (ghost_good N (touV cl l 1 1))
  have hKc := fun wx (h : K25 w w3.heap.size r A n l Ac nc cl wx) => h.cl_
  have hKl := fun wx (h : K25 w w3.heap.size r A n l Ac nc cl wx) => h.li
  have hKB := fun wx (h : K25 w w3.heap.size r A n l Ac nc cl wx) => h.bel
  have hKb := fun wx w' (h : K25 w w3.heap.size r A n l Ac nc cl wx) (hb : Below wx.heap.size wx w') => h.below hb
  have hKf' := fun wx (h : K25 w w3.heap.size r A n l Ac nc cl wx) => show ∀ i, wx.cell? ⟨w3.heap.size, i, none⟩ = r.cells[i]? from (blk_facts h.blk).1
  rw [show (1 : Int).toNat = 1 from rfl] at hTC hLA hGH
  generalize K25 w w3.heap.size r A n l Ac nc cl = KK at *
  generalize clE r cl l 1 1 = CE at *
  generalize ttE cl l 1 1 = TE at *
  generalize laneErr cl l 1 1 = LE at *
  generalize clkErr cl = CKE at *
  generalize touV cl l 1 1 = TV at *
  clear hcE htE hok0 hl16 hN
  obtain ⟨key, metres, stroke, course, legs, sex, young, old⟩ := r
  dsimp only [Race.val, Race.cells] at *
  go_wp2_with fail
  generalize w3.heap.size = b4 at *
  refine (hF1.out _ (hKc _ K)).mono ?_; rintro e w4 ⟨rfl, B4⟩
  replace K := hKb _ _ K B4
  clear B4 hF1
  by_cases hC : CKE = 0
  rotate_left
  · have hd : (CKE != 0) = true := by simpa using hC
    clear hC hLF hTC hLA hGH hLn hcE' htE'
    go_wp2_with fail
    refine (ready_c _).mono ?_; rintro e w5 ⟨rfl, B5⟩
    replace K := hKb _ _ K B5
    have hfB := hKB _ K
    go_wp2
    go_ret
    exact ⟨rfl, hfB⟩
  have hBo := hbo.out hC
  obtain ⟨m1, m2, _, _⟩ := hok.out hBo
  have hLF2 := Lib.hid (fun W h1 h2 => hLF.out W h1 h2 m1 m2)
  have hcE2 := Lib.hid (hcE'.out hC)
  have htE2 := Lib.hid (htE'.out hC)
  subst hC
  clear hLF m1 m2 hok hbo hBo hcE' htE'
  go_wp2_with fail
  refine (hLF2.out _ (hKc _ K) (hKl _ K)).mono ?_; rintro e w5 ⟨rfl, B5⟩
  replace K := hKb _ _ K B5
  clear B5 hLF2
  by_cases hL : LE = 0
  rotate_left
  · have hd : (LE != 0) = true := by simpa using hL
    clear hL hTC hLA hGH hLn hcE2 htE2
    go_wp2_with fail
    refine (ready_c _).mono ?_; rintro e w6 ⟨rfl, B6⟩
    replace K := hKb _ _ K B6
    have hfB := hKB _ K
    go_wp2
    go_ret
    exact ⟨rfl, hfB⟩
  obtain rfl := hcE2.out hL
  obtain rfl := htE2.out hL
  have hst := (hlo.out rfl).2.2
  have htb2 := htb.out (by omega)
  have hbl := Lib.hid (lapsV_bd htb2 hv2 hN16)
  have hstep := Lib.hid (fun i x y h1 h2 => lapsV_step N TV htb2 hv2 hN16 (i := i) (x := x) (y := y) h1 h2)
  have hgood := Lib.hid (lapsV_good N TV htb2 hv2 hN16)
  have hlast := Lib.hid (lapsV_last N TV htb2 hv2 hN16)
  have hLl := lapsV_len N TV htb2 hv2 hN16
  have hGl : (ghostV N TV).length ≤ TV.length := by have := hperm.out.length_eq; rw [List.length_append] at this; omega
  subst hL
  rw [if_pos rfl] at hLA hGH hTC
  clear hcE2 htE2 hlo htb htb2 hst hsg
  generalize lapsV N TV = LX at *
  generalize ghostV N TV = GX at *
  generalize goodV N TV = GD at *
  go_wp2_with fail
  refine (hTC.out _ (hKc _ K) (hKl _ K)).mono ?_; rintro e w6 ⟨A6, c6, rfl, r6, B6⟩
  replace K := hKb _ _ K B6
  clear B6 hTC
  have C7 := hKf' _ K
  go_wp2_with fail
  refine (hLA.out _ (hKc _ K) (hKl _ K)).mono ?_; rintro e w7 ⟨A7, c7, rfl, r7, B7⟩
  replace K := hKb _ _ K B7
  replace r6 := r6.below B7
  clear B7 hLA C7
  have C8 := hKf' _ K
  go_wp2_with fail
  refine (hGH.out _ (hKc _ K) (hKl _ K)).mono ?_; rintro e w8 ⟨A8, c8, rfl, r8, B8⟩
  replace K := hKb _ _ K B8
  replace r6 := r6.below B8
  replace r7 := r7.below B8
  clear B8 hGH C8
  go_wp2_with fail
  refine (clone_c A8 _ c8 GX _ r8 (by omega)).mono ?_; rintro e w9 ⟨A9, c9, rfl, o9, B9⟩
  have I0 : IL w8 (.slice A9 GX.length c9) GX w9 := ⟨o9, B9⟩
  have hR7 := Lib.hid (fun W (B : Below w8.heap.size w8 W) => r7.below B)
  have hR6 := Lib.hid (fun W (B : Below w8.heap.size w8 W) => r6.below B)
  have hKW := Lib.hid (fun W (B : Below w8.heap.size w8 W) => hKb _ W K B)
  clear r6 r7 r8 K o9 B9 hKb
  go_wp2_with fail
  go_loopw [13, 70] (fun u iv wx => ∃ (k : Nat) (acc : List Int), k ≤ LX.length ∧ iv = .int .i64 k ∧ IL w8 u acc wx ∧ acc.length ≤ GX.length + k ∧ Hid (acc ++ ((LX.drop k).filter (fun l => !l.filled)).map (fun l => l.time) = GX ++ GD)) (fun _ iv _ => LX.length - (intOf iv).toNat)
  case atStart => exact ⟨0, GX, Nat.zero_le _, rfl, I0, by omega, Lib.hid (by rw [List.drop_zero, hgood.out])⟩
  case round =>
    clear I0
    obtain ⟨k, acc, hk, rfl, I, hac, hF⟩ := hrel
    by_cases hlt : k < LX.length
    · obtain ⟨b, off, x, rfl, hb, hx, c0, c1, c2⟩ := RLp.atN (hR7.out _ I.bel) hlt
      have hS := Lib.hid ((congrArg (acc ++ ·) (filt_at hx)).symm.trans hF.out)
      have hxb := hbl.out x (List.mem_of_getElem? hx)
      have hpv : k = 0 ∨ (1 ≤ k ∧ ∃ y : LP.Lp, LX[k - 1]? = some y ∧ x.length = y.length + 2 ∧ 0 ≤ y.length ∧ y.length ≤ 16) := by
        rcases Nat.eq_zero_or_pos k with h | h
        · exact .inl h
        · obtain ⟨y, hy⟩ := at_of_lt (l := LX) (k := k - 1) (by omega)
          have hyb := hbl.out y (List.mem_of_getElem? hy)
          exact .inr ⟨h, y, hy, hstep.out (k - 1) y x hy (by rw [show k - 1 + 1 = k by omega]; exact hx), hyb⟩
      have hprev := Lib.hid (fun W (B : Below w8.heap.size w8 W) (y : LP.Lp) (hy : LX[k - 1]? = some y) (hk1 : 1 ≤ k) => show W.cell? ⟨b, off + (k - 1) * 3, none⟩ = some (.int .i64 y.length) from by
        obtain ⟨b', off', y', hA', _, hy', d0, _, _⟩ := RLp.atN (hR7.out _ B) (k := k - 1) (by omega)
        injection hA' with hA'; injection hA' with q1 q2; subst q1 q2
        rw [hy] at hy'; injection hy' with hy'; subst hy'
        exact d0)
      clear hF hx
      obtain ⟨xl, xt, xf⟩ := x
      dsimp only at *
      obtain ⟨Ao, co, rfl⟩ := own_shape I.own
      have I5 := I.below (below_new wr (.cells #[.int .i64 xl, .int .i64 xt, .bool xf] 75))
      have hb5 := heap_alloc_new wr (.cells #[.int .i64 xl, .int .i64 xt, .bool xf] 75)
      have hnr : some wr.heap.size ≠ (Value.slice Ao acc.length co).ownBlock := fun e => by have := (I.own.lt _ e.symm).2; omega
      have hq1 : ((k : Int) - 1).toNat = k - 1 := by omega
      cases xf
      · have hS2 := Lib.hid (show acc ++ [xt] ++ ((LX.drop (k + 1)).filter (fun l => !l.filled)).map (fun l => l.time) = GX ++ GD by rw [← hS.out, List.append_assoc]; rfl)
        have hown := Lib.hid I5.own
        have hz := I5.bel.size
        clear I hS
        go_wp2_with (at_builtin; refine wpList_app rfl (.tmp 78) (.tmp 81) 22 rfl Tryz.underlying22 info_int rfl (by omega) (by omega) hown.out rfl rfl (by first | rfl | (simp; done)) (by rfl) (by simp [Value.oneCell']) (by omega) (by omega) ?_; intro v6 w6' hown6 hg6; have I6 := I5.app hown6 hg6; have hb6 := blk_grown hb5 hg6 hnr; have z0 := (blk_facts hb6).1 0; clear hown6 hg6 hown)
        rcases hpv with rfl | ⟨hk1, y, hy, hxy, hy0, hy1⟩
        · go_quiet (fail)
          go_wp2
          go_roundw
          case rel => exact ⟨0 + 1, _, by omega, by go_num, ⟨I6.own, below_drewN I6.bel _⟩, by rw [List.length_append]; simp; omega, hS2⟩
          case measure => simp [intOf]; omega
        · have d0 := hprev.out _ I6.bel y hy hk1
          obtain ⟨yl, yt, yf⟩ := y
          dsimp only at *
          subst hxy
          have g1 : decide ((0 : Int) < (k : Int)) = true := decide_eq_true (by omega)
          have g2 : decide (0 < k) = true := decide_eq_true (by omega)
          have v1 : IntKind.i64.wrap (yl + 2) = yl + 2 := IntWalk.i64_in _ (by omega)
          have v2 : (1 : Int) ≤ (k : Int) := by omega
          clear hy
          go_quiet (fail)
          go_wp2
          go_roundw
          case rel => exact ⟨k + 1, _, by omega, by go_num, ⟨I6.own, below_drewN I6.bel _⟩, by rw [List.length_append]; simp; omega, hS2⟩
          case measure => simp [intOf]; omega
      · have hS2 := Lib.hid (show acc ++ ((LX.drop (k + 1)).filter (fun l => !l.filled)).map (fun l => l.time) = GX ++ GD by rw [← hS.out]; rfl)
        have z0 := (blk_facts hb5).1 0
        clear I hS
        go_wp2_with fail
        clear c0 c1 c2
        rcases hpv with rfl | ⟨hk1, y, hy, hxy, hy0, hy1⟩
        · go_quiet (fail)
          go_wp2
          go_roundw
          case rel => exact ⟨0 + 1, _, by omega, by go_num, ⟨I5.own, below_drewN I5.bel _⟩, by omega, hS2⟩
          case measure => simp [intOf]; omega
        · have d0 := hprev.out _ I5.bel y hy hk1
          obtain ⟨yl, yt, yf⟩ := y
          dsimp only at *
          subst hxy
          have g1 : decide ((0 : Int) < (k : Int)) = true := decide_eq_true (by omega)
          have g2 : decide (0 < k) = true := decide_eq_true (by omega)
          have v1 : IntKind.i64.wrap (yl + 2) = yl + 2 := IntWalk.i64_in _ (by omega)
          have v2 : (1 : Int) ≤ (k : Int) := by omega
          clear hy
          go_quiet (fail)
          go_wp2
          go_roundw
          case rel => exact ⟨k + 1, _, by omega, by go_num, ⟨I5.own, below_drewN I5.bel _⟩, by omega, hS2⟩
          case measure => simp [intOf]; omega
    · obtain rfl : k = LX.length := by omega
      have hacc : acc = GX ++ GD := by
        have := hF.out
        rwa [drop_end (Nat.le_refl _), List.filter_nil, List.map_nil, List.append_nil] at this
      obtain ⟨Ao, co, rfl⟩ := own_shape I.own
      have hso := hsort.out acc (hacc ▸ hperm.out)
      have hbel := I.bel
      have hsC := Lib.hid (sortAny_c w8.heap.size Ao acc.length co acc wr I.own (by omega))
      rw [hso] at hsC
      have hown := Lib.hid I.own
      have hal : acc.length = TV.length := by rw [hacc]; exact hperm.out.length_eq
      rw [hal] at hsC hown ⊢
      clear hF hso hacc hsort hperm I hac
      go_wp2_with fail
      refine hsC.out.mono ?_; rintro e w10 ⟨rfl, o10, g10⟩
      have hB10 := below_own hbel hown.out g10 hbel.size (Nat.le_refl _)
      have r10 : RI 3 w10 Ao TV.length TV := R1.of_own o10 (by omega)
      have r6 := hR6.out _ hB10
      clear hsC hown o10 g10 hbel
      go_wp2_with fail
      refine (equalI_same _ _ _ _ _ _ _ r10 r6).mono ?_; rintro e w11 ⟨rfl, B11⟩
      have hB11 := below_next hB10 B11
      have K := hKW.out _ hB11
      have C12 := hKf' _ K
      clear r10 r6 B11 hB10
      go_wp2_with fail
      refine (hLn.out _).mono ?_; rintro e w12 ⟨rfl, B12⟩
      have hB12 := below_next hB11 B12
      have hfB0 := below_next (hKB _ K) B12
      clear hLn hKf' hKB hR6 hKW C12 K
      by_cases hz : LX.length = 0
      · have hz1 : ((LX.length : Int) == 0) = true := by rw [hz]; rfl
        have g1 : decide ((LX.length : Int) = 0) = true := decide_eq_true (by omega)
        clear hR7
        go_wp2_with fail
        refine (ready_c _).mono ?_; rintro e w13 ⟨rfl, B13⟩
        have hfB := below_next hfB0 B13
        go_wp2
        go_ret
        exact ⟨rfl, hfB⟩
      · have r7 := hR7.out _ hB12
        obtain ⟨b, off, rfl, hb, hcs⟩ := RN.last r7 (by omega)
        have c0 : w12.cell? ⟨b, off + (LX.length - 1) * 3, none⟩ = some (.int .i64 (LX.getD (LX.length - 1) default).length) := hcs 0 _ rfl
        have c2 := hcs 2 _ rfl
        have hlx := hlast.out
        have hgl : LX.getLast? = some (LX.getD (LX.length - 1) default) := by
          rw [List.getLast?_eq_getElem?, List.getD_eq_getElem?_getD, List.getElem?_eq_getElem (by omega)]; rfl
        rw [hgl] at hlx
        generalize LX.getD (LX.length - 1) default = la at *
        have hla : la.length = (N : Int) ∧ la.filled = false := by
          cases h : GD.getLast? with
          | none => rw [h] at hlx; cases hlx
          | some y =>
            rw [h] at hlx
            injection hlx with hlx
            rw [hlx]; exact ⟨rfl, rfl⟩
        rw [hla.1] at c0
        rw [hla.2] at c2
        have hz1 : ((LX.length : Int) == 0) = false := by rw [beq_eq_false_iff_ne]; omega
        have hq1 : ((LX.length : Int) - 1).toNat = LX.length - 1 := by omega
        have hq2 : (1 : Int) ≤ (LX.length : Int) := by omega
        have hq3 : ¬ (LX.length : Int) = 0 := by omega
        clear hcs hlx hgl hla hR7 r7
        generalize LX.length = m at *
        go_wp2_with fail
        refine (ready_c _).mono ?_; rintro e w13 ⟨rfl, B13⟩
        have hfB := below_next hfB0 B13
        go_wp2
        go_ret
        exact ⟨rfl, hfB⟩
end Go.Proofs.YtcdnjehkkbnfbaaGreatDoor
