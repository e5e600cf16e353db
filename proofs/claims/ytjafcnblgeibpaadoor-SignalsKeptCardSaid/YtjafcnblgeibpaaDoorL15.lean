/- SignalsKept: the walk. -/
import Derived.Test.YtjafcnblgeibpaaDoorMrgS
import Derived.Test.YtjafcnblgeibpaaDoorHalfC
import Derived.Test.YtjafcnblgeibpaaDoorClkM
import Derived.Test.YtjafcnblgeibpaaDoorL18
import Derived.Test.YtjafcnblgeibpaaDoorDraws
import Derived.Deep.DeepCutAuto
namespace Go.Proofs.YtjafcnblgeibpaaDoor
open Go.RowKit Go.Shelf Go.Lib Go.Sort
set_option linter.unusedVariables false

theorem HK.setG {α : Type} {enc : α → List Value} {sz : Nat} {T : TypeId} {w wx w' : World} {g : Nat} {zs : List Int} {u1 u2 : Value} {l1 l2 l3 : List α} {kk : Nat} (h : HK enc sz T w g zs u1 u2 l1 l2 kk wx) (ho : w'.ownsRow w.heap.size T sz u2 l3.length (l3.flatMap enc)) (hg : wx.grownBy w' u2.ownBlock) : HK enc sz T w g zs u1 u2 l1 l3 kk w' := by
  have hb : ∀ i, u2.ownBlock = some i → w.heap.size ≤ i := own_row_lt h.o2
  have hgl := h.gl
  exact ⟨h.o1.kept hg h.dis.symm.ne, ho, h.dis, h.st.grown hg (fun i hi => by have := hb i hi; omega), grown_own h.gr hg (fun i hi => hb i hi), hgl⟩
theorem rgtE_or (l : List Ck) (dev : ByteArray) (at_ : Int) : orV [clkErr l, if keyB dev = true then 0 else 5, momK at_] = rgtE l dev at_ := by
  unfold rgtE
  simp only [orV]
  by_cases h : clkErr l ≠ 0
  · rw [if_pos h, if_pos h]
  · rw [if_neg h, if_neg h]
    cases keyB dev
    · simp
    · by_cases h2 : momK at_ = 0 <;> simp [h2]
theorem rgtE_ok {l : List Ck} {dev : ByteArray} {at_ : Int} (h : rgtE l dev at_ = 0) : clkErr l = 0 ∧ (0 ≤ at_ ∧ at_ ≤ 345686399999) := by
  unfold rgtE at h
  split at h
  · rename_i h1; exact absurd h h1
  · rename_i h1
    split at h
    · cases h
    · unfold momK at h
      split at h
      · rename_i h2; exact ⟨by simpa using h1, h2⟩
      · cases h
theorem lkE_or (a b : List Sg) : (if sigErr a ≠ 0 then sigErr a else sigErr b) = orV [sigErr a, sigErr b] := by
  simp only [orV]
  by_cases h : sigErr a ≠ 0
  · rw [if_pos h, if_pos h]
  · rw [if_neg h, if_neg h]
    by_cases h2 : sigErr b = 0 <;> simp [h2]
theorem keyFaultX_c (s : ByteArray) (w : World) : Calls Tryd.prog 22 #[.string s] w fun e w' => e = .returned (.int .i64 (if keyB s = true then 0 else 5)) ∧ Below w.heap.size w w' := by
  have hK := Lib.hid (key_c s w)
  generalize keyB s = kb at *
  go_enter Tryd.func22, Tryd.ntmps22
  go_wp2_with fail
  refine hK.out.mono ?_; rintro e w1 ⟨rfl, B1⟩
  cases kb
  all_goals
    go_wp2
    go_ret
    exact ⟨rfl, B1⟩
structure K15 (w : World) (A : Option Addr) (a : List Sg) (B : Option Addr) (b : List Sg) (C : Option Addr) (nc : Nat) (cl : List Ck) (wx : World) : Prop where
  la : RSg wx A a.length a
  lb : RSg wx B b.length b
  lc : RCk wx C nc cl
  bel : Below w.heap.size w wx
theorem K15.below {w : World} {A : Option Addr} {a : List Sg} {B : Option Addr} {b : List Sg} {C : Option Addr} {nc : Nat} {cl : List Ck} {wx w' : World} (h : K15 w A a B b C nc cl wx) (hb : Below wx.heap.size wx w') : K15 w A a B b C nc cl w' := ⟨h.la.below hb, h.lb.below hb, h.lc.below hb, below_next h.bel hb⟩
theorem equalSg_same (A1 A2 : Option Addr) (n c m d : Nat) (l l' : List Sg) {w : World} (h1 : RSg w A1 n l) (h2 : RSg w A2 m l') (he : l = l') :
    Calls Tryd.prog 18 #[.slice A1 n c, .slice A2 m d] w fun e w' => e = .returned (.bool true) ∧ Below w.heap.size w w' :=
  (equalSg_c A1 A2 n c m d l l' w h1 h2).mono fun e w' ⟨hr, q, hB⟩ => ⟨by rw [hr, decide_eq_true he], by rw [hB]; exact below_drewN (Below.refl _ _) _⟩
set_option maxHeartbeats 6400000 in
set_option maxRecDepth 100000 in
theorem signalsKept_walk (a0 : Option Addr) (len0 cap0 : Nat) (z0 : List Int) (w : World) (w0 : IsRow .i64 w a0 len0 cap0 z0) :
    Calls Tryd.prog 3 #[.slice a0 len0 cap0] w fun e w' => e = .returned (.bool true) ∧ Below w.heap.size w w' := by
  have hs := law_start w0
  clear w0
  generalize z0.take len0 = zs at *
  go_enter Tryd.func3, Tryd.ntmps3
  go_wp2_with fail
  have hs' : St (w.alloc (.cells #[.slice a0 len0 cap0, .int .i64 0] 25)) w.heap.size zs 0 := hs
  have hB1 := below_new w (.cells #[.slice a0 len0 cap0, .int .i64 0] 25)
  have hSz : (w.alloc (.cells #[.slice a0 len0 cap0, .int .i64 0] 25)).heap.size = w.heap.size + 1 := by simp
  clear hs
  generalize w.alloc (.cells #[.slice a0 len0 cap0, .int .i64 0] 25) = wS at *
  refine (signals_c _ zs 0 _ hs' (by omega)).mono ?_; rintro e w1 ⟨A, n, c, a, k1, rfl, ho1, hl1, hn0, hn1, s1, hk1, g1⟩
  subst hl1
  clear hs'
  go_wp2_with fail
  refine (clocks_c _ zs k1 _ s1 (by omega)).mono ?_; rintro e w2 ⟨Ac, nc, cc, cl, k2, rfl, rc2, hnc, s2, hk2, g2⟩
  have ho2 := own_keep ho1 (g := w.heap.size) (by omega) g2
  have gr2 := grown_trans g1 g2
  have hz1 := gr2.size
  have hR2 : RSg w2 A a.length a := RN.of_own sgE_len ho2 rfl (by omega)
  have hB3 := hB1.trans (grown_below gr2 (Nat.le_refl _) hB1.size)
  clear s1 g2 g1 ho1
  go_wp2_with fail
  refine (cloneSg_c A a.length c a w2 hR2 (by omega)).mono ?_; rintro e w3 ⟨A3, c3, rfl, _, B3⟩
  have ho3 := own_below ho2 B3
  have s3 := s2.below B3
  have rc3 := rc2.below B3
  have gr3 := grown_trans gr2 (grown_of_below B3)
  have hB4 := below_next hB3 B3
  clear ho2 hR2 hB3 B3 s2 gr2 rc2
  go_wp2_with fail
  refine (flipE_c _ zs k2 3 _ s3 (by omega) (by omega) (by omega)).mono ?_; rintro e w4 ⟨fl, rfl, s4, g4⟩
  have ho4 := own_keep ho3 (g := w.heap.size) (by omega) g4
  have gr4 := grown_trans gr3 g4
  have hB5 := hB4.trans (grown_below g4 (Nat.le_refl _) hB4.size)
  have hz4 := gr4.size
  have rc4 := rc3.keep (T := 25) (by decide) (s3.keep g4)
  clear ho3 s3 gr3 hB4 g4 rc3
  go_upto_if 28 with (fail)
  go_cut [4, 6] (fun s4 s5 wx => ∃ (A1 : Option Addr) (c1 : Nat) (A2 : Option Addr) (c2 : Nat) (a1 b1 : List Sg) (kk : Nat), s4 = .slice A1 a1.length c1 ∧ s5 = .slice A2 b1.length c2 ∧ a1.length ≤ 18 ∧ b1.length ≤ 18 ∧ kk ≤ 2000 ∧ HK sgE 6 32 wS w.heap.size zs (.slice A1 a1.length c1) (.slice A2 b1.length c2) a1 b1 kk wx ∧ RCk wx Ac nc cl)
  case first =>
    cases fl
    · have hR4 : RSg w4 A a.length a := RN.of_own sgE_len ho4 rfl (by omega)
      have hHC := Lib.hid (halfSignals_c A a.length c a w.heap.size zs (k2 + 1) w4 hR4 s4 (by omega) (by omega))
      go_wp2_with fail
      refine hHC.out.mono ?_; rintro e w5 ⟨ks, A1, c1, A2, c2, rfl, hks, _, _, _, _, s5, g5, hdis, _, _, own1, own2⟩
      have hlA := (halfA_sub ks).length_le
      have hlB := (halfB_sub ks).length_le
      rw [hks] at hlA hlB
      have K : HK sgE 6 32 wS w.heap.size zs (.slice A1 (hfA ks).length c1) (.slice A2 (hfB ks).length c2) (hfA ks) (hfB ks) (k2 + 1 + a.length) w5 := ⟨own_mono own1 hz4, own_mono own2 hz4, fun i h1 h2 => hdis i i h1 h2 rfl, s5, grown_trans gr4 g5, by omega⟩
      have hla1 : (hfA ks).length ≤ 18 := by omega
      have hlb1 : (hfB ks).length ≤ 18 := by omega
      have hkk : k2 + 1 + a.length ≤ 2000 := by omega
      have rc5 := rc4.keep (T := 25) (by decide) (s4.keep g5)
      clear rc4 ho4 s4 gr4 hB5 hHC g5 own1 own2 hdis s5 hks hR4 hlA hlB
      go_wp2
      go_meet
      case rel => exact ⟨_, _, _, _, _, _, _, rfl, rfl, hla1, hlb1, hkk, K, rc5⟩
    · go_wp2_with fail
      refine (signals_c _ zs (k2 + 1) w4 s4 (by omega)).mono ?_; rintro e w6 ⟨A2, n2, c2, b1, k6, rfl, ho6, hl6, _, hn6, s6, hk6, g6⟩
      subst hl6
      have ho7 := own_keep ho4 (g := w.heap.size) (by omega) g6
      have K : HK sgE 6 32 wS w.heap.size zs (.slice A a.length c) (.slice A2 b1.length c2) a b1 k6 w6 := ⟨ho7, own_mono ho6 hz4, fun i h1 h2 => by have q1 := (ho4.lt i h1).2; have q2 := own_row_lt ho6 i h2; omega, s6, grown_trans gr4 g6, by omega⟩
      have hkk : k6 ≤ 2000 := by omega
      have hla1 : a.length ≤ 18 := by omega
      have hlb1 : b1.length ≤ 18 := by omega
      have rc6 := rc4.keep (T := 25) (by decide) (s4.keep g6)
      clear rc4 ho4 ho6 ho7 s4 s6 gr4 g6 hB5
      go_wp2
      go_meet
      case rel => exact ⟨_, _, _, _, _, _, _, rfl, rfl, hla1, hlb1, hkk, K, rc6⟩
  case rest =>
    clear ho4 s4 gr4 hB5 rc4
    obtain ⟨A1, c1, A2, c2, a1, b1, kk, rfl, rfl, hla1, hlb1, hkk, K, RC⟩ := hcut
    rename World => wK
    go_upto_region 7 with (fail)
    go_cut [43] (fun s41 wx => ∃ (q : Bool) (k2 : Nat), s41 = .bool q ∧ (q = true → 0 < b1.length) ∧ k2 ≤ 2001 ∧ RCk wx Ac nc cl ∧ HK sgE 6 32 wS w.heap.size zs (.slice A1 a1.length c1) (.slice A2 b1.length c2) a1 b1 k2 wx)
    case first =>
      by_cases hb0 : b1.length = 0
      · have hbi : ¬ (0 : Int) < (b1.length : Nat) := by omega
        clear hb0
        go_wp2
        go_meet
        case rel => exact ⟨false, kk, rfl, (fun h => by cases h), by omega, RC, K⟩
      · have hbi : (0 : Int) < (b1.length : Nat) := by omega
        have hbp : 0 < b1.length := by omega
        go_wp2_with fail
        refine (flipE_c _ zs _ 5 _ K.st (by omega) (by omega) (by omega)).mono ?_; rintro e x0 ⟨fl, rfl, t0, q0⟩
        replace RC := RC.keep (T := 25) (by decide) (K.st.keep q0)
        replace K := K.stream t0 q0
        clear t0 q0
        go_wp2
        go_meet
        case rel => exact ⟨fl, kk + 1, rfl, (fun _ => hbp), by omega, RC, K⟩
    case rest =>
      clear K RC
      obtain ⟨q, k3, rfl, hq, hk3, RC, K⟩ := hcut
      rename World => x0
      go_upto_if 43 with (fail)
      go_cut [6] (fun s5 wx => ∃ (b9 : List Sg), s5 = .slice A2 b9.length c2 ∧ b9.length ≤ 18 ∧ RCk wx Ac nc cl ∧ HK sgE 6 32 wS w.heap.size zs (.slice A1 a1.length c1) (.slice A2 b9.length c2) a1 b9 k3 wx)
      case first =>
        cases q
        · clear hq
          go_wp2
          go_meet
          case rel => exact ⟨b1, rfl, hlb1, RC, K⟩
        · have hbp := hq rfl
          clear hq
          obtain ⟨bb, rfl, hbb⟩ := own_someN K.o2 (by omega)
          have hRB : RSg x0 (some ⟨bb, 0, none⟩) b1.length b1 := RN.of_own sgE_len K.o2 rfl (by omega)
          obtain ⟨b', off', y, hA, hbl, hy, _, _, _, y3, _, _⟩ := RSg_at6 hRB (show 0 < b1.length by omega)
          injection hA with hA
          injection hA with e1 e2
          subst e1 e2
          have y3' : x0.cell? ⟨bb, 3, none⟩ = some (.int .i64 y.tm) := y3
          have f3 := K.o2.frozenAt 3
          have hst := K.o2.stored 3 (.int .i64 (wrap64 (y.tm + 1)))
          have hfs : (b1.flatMap sgE).set 3 (.int .i64 (wrap64 (y.tm + 1))) = (b1.set 0 ⟨y.dev, y.no, y.kind, wrap64 (y.tm + 1), y.lane, y.time⟩).flatMap sgE := flat_set sgE_len b1 0 y ⟨y.dev, y.no, y.kind, wrap64 (y.tm + 1), y.lane, y.time⟩ 3 (.int .i64 (wrap64 (y.tm + 1))) hy (by decide) rfl
          rw [hfs] at hst
          have hl9 : (b1.set 0 ⟨y.dev, y.no, y.kind, wrap64 (y.tm + 1), y.lane, y.time⟩).length = b1.length := List.length_set ..
          rw [← hl9] at hst
          have K' := K
          rw [← hl9] at K'
          have K9 := Lib.hid (K'.setG hst.1 hst.2)
          have RC9 := Lib.hid (RC.keep (T := 32) (by decide) (keep_ownSx K'.o2 hst.2))
          clear K'
          have hl9' := Lib.hid hl9
          clear hst hfs hl9 hRB y3 hy hbb
          go_wp2
          go_meet
          case rel => exact ⟨_, by rw [hl9'.out], by rw [hl9'.out]; exact hlb1, RC9.out, K9.out⟩
      case rest =>
        clear K RC
        obtain ⟨b9, rfl, hlb9, RC, K⟩ := hcut
        rename World => xs
        clear hlb1 hq
        go_wp2_with fail
        refine (someE_c _ zs _ [⟨#[100, 97]⟩, ⟨#[100, 98]⟩, ⟨#[100, 122]⟩, ⟨#[]⟩] 4 4 xs.heap.size #[.string ⟨#[100, 97]⟩, .string ⟨#[100, 98]⟩, .string ⟨#[100, 122]⟩, .string ⟨#[]⟩] xs K.st (by omega) rfl rfl rfl (by decide) (by decide)).mono ?_; rintro e x1 ⟨dev, rfl, hwm, t1, q1⟩
        replace RC := RC.keep (T := 25) (by decide) (K.st.keep q1)
        replace K := K.stream t1 q1
        clear t1 q1 hwm
        go_wp2_with fail
        refine (pickB_c _ zs _ [0, 5, 10, 20000, 20005, 500000, 345686399999, -1] (-1) 345686399999 8 8 x1.heap.size #[.int .i64 0, .int .i64 5, .int .i64 10, .int .i64 20000, .int .i64 20005, .int .i64 500000, .int .i64 345686399999, .int .i64 (-1)] x1 K.st (by omega) rfl rfl rfl (by decide) (by decide) (by simp)).mono ?_; rintro e x2 ⟨at_, rfl, v0, v1, t2, q2⟩
        replace RC := RC.keep (T := 25) (by decide) (K.st.keep q2)
        replace K := K.stream t2 q2
        have KQ : K15 w A1 a1 A2 b9 Ac nc cl x2 := ⟨RN.of_own sgE_len K.o1 rfl (by omega), RN.of_own sgE_len K.o2 rfl (by omega), RC, hB1.trans (grown_below K.gr (Nat.le_refl _) hB1.size)⟩
        clear K t2 q2 RC
        have hF1 := Lib.hid (fun W (h : K15 w A1 a1 A2 b9 Ac nc cl W) => signalsFault_c A1 a1.length c1 a1 W h.la)
        have hF2 := Lib.hid (fun W (h : K15 w A1 a1 A2 b9 Ac nc cl W) => checkSignals_c A1 a1.length c1 a1 W h.la)
        have hF3 := Lib.hid (fun W (h : K15 w A1 a1 A2 b9 Ac nc cl W) => signalsFault_c A2 b9.length c2 b9 W h.lb)
        have hC1 := Lib.hid (fun W (h : K15 w A1 a1 A2 b9 Ac nc cl W) => clocksFault_c Ac nc cc cl W h.lc)
        have hC2 := Lib.hid (fun W (h : K15 w A1 a1 A2 b9 Ac nc cl W) => checkClocks_c Ac nc cc cl W h.lc)
        have hMg := Lib.hid (fun W (h : K15 w A1 a1 A2 b9 Ac nc cl W) => merge_c A1 A2 a1.length c1 b9.length c2 a1 b9 W h.la h.lb (by omega) (by omega))
        have hMr := Lib.hid (fun W hn (h : K15 w A1 a1 A2 b9 Ac nc cl W) => signalsMerged_c A1 A2 a1.length c1 b9.length c2 a1 b9 W h.la h.lb (by omega) (by omega) (Lib.hid hn))
        have hLk := Lib.hid (fun W (h : K15 w A1 a1 A2 b9 Ac nc cl W) => lacks_c A1 A2 a1.length c1 b9.length c2 a1 b9 W h.la h.lb (by omega) (by omega))
        have hLg := Lib.hid (fun W (h : K15 w A1 a1 A2 b9 Ac nc cl W) => signalsLacking_c A1 A2 a1.length c1 b9.length c2 a1 b9 W h.la h.lb (by omega) (by omega))
        have hRt := Lib.hid (fun W (h : K15 w A1 a1 A2 b9 Ac nc cl W) => padRightX_c Ac nc cc cl dev at_ W h.lc)
        have hRa := Lib.hid (fun W h0 (h : K15 w A1 a1 A2 b9 Ac nc cl W) => rightAt_c Ac nc cc cl dev at_ W h.lc (ckBd_ok (rgtE_ok (dev := dev) (at_ := at_) h0).1) (rgtE_ok (dev := dev) h0).2)
        have hKf := Lib.hid (fun W => keyFaultX_c dev W)
        have hMf := Lib.hid (fun W => show Calls Tryd.prog 23 #[.int .i64 at_] W fun e w' => e = .returned (.int .i64 (momK at_)) ∧ W = w' from momentFault_c at_ W)
        have hmo := Lib.hid (fun E o h => mrgT_or a1 b9 (E := E) (o := o) h)
        have hdt := Lib.hid (fun E E' o o' h1 h2 h3 h4 => mrgT_det (a := a1) (b := b9) (E := E) (E' := E') (o := o) (o' := o') h1 h2 h3 h4)
        have hnd := Lib.hid (fun h => (sigErr_sorted (l := a1) h).2)
        have hlk := Lib.hid (lkE_or a1 b9)
        have hrt := Lib.hid (rgtE_or cl dev at_)
        have hKB := Lib.hid (fun W (h : K15 w A1 a1 A2 b9 Ac nc cl W) => h.bel)
        have hKb := Lib.hid (fun W w' (h : K15 w A1 a1 A2 b9 Ac nc cl W) (B : Below W.heap.size W w') => h.below B)
        unfold RetLk at hLk
        generalize K15 w A1 a1 A2 b9 Ac nc cl = KK at *
        generalize hRE : sigErr a1 = RE at *
        generalize sigErr b9 = RB at *
        generalize rgtE cl dev at_ = RT at *
        generalize clkErr cl = CE at *
        generalize (if keyB dev = true then (0 : Int) else 5) = KF at *
        generalize momK at_ = MF at *
        generalize rightV cl dev at_ = RV at *
        generalize restB a1 b9 = LK at *
        clear hRE
        go_wp2_with fail
        refine (hF1.out _ KQ).mono ?_; rintro e x3 ⟨rfl, B3⟩
        replace KQ := hKb.out _ _ KQ B3
        clear B3 hF1
        go_wp2_with fail
        refine (hC1.out _ KQ).mono ?_; rintro e x4 ⟨rfl, B4⟩
        replace KQ := hKb.out _ _ KQ B4
        clear B4 hC1
        go_wp2_with fail
        refine (hF3.out _ KQ).mono ?_; rintro e x6 ⟨rfl, B6⟩
        replace KQ := hKb.out _ _ KQ B6
        clear B6 hF3
        go_wp2_with fail
        refine (orE_c _ _ _ [RE, RB] _ (R1.litAt _ _ _ [_, _] (by first | rfl | simp) rfl (by simp))).mono ?_; rintro e wm ⟨rfl, rfl⟩
        have hBm := below_new x6 (.cells #[.int .i64 RE, .int .i64 RB] 38)
        replace KQ := hKb.out _ _ KQ hBm
        clear hBm
        generalize orV [RE, RB] = OR at *
        have hcc : (RE != RE) = false := by simp
        have hcd : (CE != CE) = false := by simp
        go_wp2_with fail
        refine (hF2.out _ KQ).mono ?_; rintro e x7 ⟨rfl, B7⟩
        replace KQ := hKb.out _ _ KQ B7
        clear B7 hF2
        go_wp2_with fail
        refine (hC2.out _ KQ).mono ?_; rintro e x8 ⟨rfl, B8⟩
        replace KQ := hKb.out _ _ KQ B8
        clear B8 hC2
        go_wp2_with fail
        refine (hMg.out _ KQ).mono ?_; rintro e x5 ⟨A5, n5, c5, o5, E5, rfl, r5, _, hm5, B5⟩
        replace KQ := hKb.out _ _ KQ B5
        clear B5 hMg
        have hm := hmo.out _ _ hm5
        clear hm5 hmo hcc hcd
        go_upto_if 84 with (fail)
        have hmH := Lib.hid hm
        clear hm
        go_cut [14, 15] (fun s11 s12 wx => s12 = .int .i64 E5 ∧ (∃ A n c, s11 = .slice A n c ∧ RSg wx A n o5) ∧ RSg wx A5 n5 o5 ∧ KK wx)
        case first =>
          have r5' := Lib.hid (fun W B => r5.below (w' := W) B)
          rcases hmH.out with ⟨h0, h1, h2, hq⟩ | ⟨h0, h1, h2⟩
          · have hN := Lib.hid (hnd.out h1)
            have hdq := Lib.hid (fun E' o' h => hdt.out E5 E' o5 o' h1 h2 hq h)
            have ht : (OR == 0) = true := by simpa using h0
            clear h0 h1 h2 hq hmH hdt hnd r5
            go_wp2_with fail
            refine (hMr.out _ hN.out KQ).mono ?_; rintro e y1 ⟨A6, n6, c6, o6, E6, rfl, r6, _, hq6, B6⟩
            obtain ⟨rfl, rfl⟩ := hdq.out _ _ hq6
            replace KQ := hKb.out _ _ KQ B6
            have r5'' := r5'.out _ B6
            clear B6 hMr hq6
            go_wp2
            go_meet
            case rel => exact ⟨rfl, ⟨_, _, _, rfl, r6⟩, r5'', KQ⟩
          · have ht : (OR == 0) = false := by simpa using h0
            have hn6 : RSg x5 none 0 o5 := by rw [h2]; exact RN.nil_ ..
            have h1' := h1.symm
            subst h1'
            clear h0 h2 hmH hdt hnd r5'
            go_wp2
            go_meet
            case rel => exact ⟨rfl, ⟨_, _, _, rfl, hn6⟩, r5, KQ⟩
        case rest =>
          clear hmH KQ r5 hMr hdt hnd
          obtain ⟨rfl, ⟨A6, n6, c6, rfl, r6⟩, r5, KQ⟩ := hcut
          rename World => y2
          have hcc : (E5 != E5) = false := by simp
          go_wp2_with fail
          refine (equalSg_same A5 A6 n5 c5 n6 c6 o5 o5 r5 r6 rfl).mono ?_; rintro e y3 ⟨rfl, B9⟩
          replace KQ := hKb.out _ _ KQ B9
          clear r5 r6 B9 hcc
          rw [hlk.out] at hLk
          go_wp2_with fail
          refine (hLk.out _ KQ).mono ?_; rintro e y4 ⟨A7, n7, c7, o7, E7, rfl, r7, _, hE7, ho7, C4⟩
          obtain rfl := hE7.symm
          replace KQ := hKb.out _ _ KQ C4
          clear C4 hLk
          have hce : (OR != OR) = false := by simp
          go_upto_region 22 with (fail)
          go_cut [129] (fun s129 wx => s129 = .bool false ∧ KK wx)
          case first =>
            by_cases h0 : OR = 0
            · rw [if_pos h0] at ho7
              subst h0
              subst ho7
              go_wp2_with fail
              refine (hLg.out _ KQ).mono ?_; rintro e y5 ⟨A8, n8, c8, rfl, r8, C5⟩
              replace KQ := hKb.out _ _ KQ C5
              replace r7 := r7.below C5
              clear C5 hLg
              go_wp2_with fail
              refine (equalSg_same A7 A8 n7 c7 n8 c8 _ _ r7 r8 rfl).mono ?_; rintro e y6 ⟨rfl, C6⟩
              replace KQ := hKb.out _ _ KQ C6
              clear C6 r7 r8
              go_wp2
              go_meet
              case rel => exact ⟨rfl, KQ⟩
            · rw [if_neg h0] at ho7
              subst ho7
              have hn7 : n7 = 0 := r7.len.symm
              subst hn7
              have hb0 : (OR != 0) = true := by simpa using h0
              have hb1 : (OR == 0) = false := by simpa using h0
              clear h0 r7
              go_wp2
              go_meet
              case rel => exact ⟨rfl, KQ⟩
          case rest =>
            clear KQ r7 hLg hce ho7
            obtain ⟨rfl, KQ⟩ := hcut
            rename World => y7
            by_cases hs0 : RT = 0
            · have hRa' := Lib.hid (fun W h => hRa.out W hs0 h)
              subst hs0
              rw [if_pos rfl] at hRt
              clear hRa
              go_wp2_with fail
              refine (hRt.out _ KQ).mono ?_; rintro e u1 ⟨rfl, C1⟩
              replace KQ := hKb.out _ _ KQ C1
              clear C1 hRt
              go_wp2_with fail
              refine (hKf.out _).mono ?_; rintro e u2 ⟨rfl, C2⟩
              replace KQ := hKb.out _ _ KQ C2
              clear C2 hKf
              go_wp2_with fail
              refine (hMf.out _).mono ?_; rintro e u3 ⟨rfl, rfl⟩
              go_wp2_with fail
              refine (orE_c _ _ _ [CE, KF, MF] _ (R1.litAt _ _ _ [_, _, _] (by first | rfl | simp) rfl (by simp))).mono ?_; rintro e wm ⟨rfl, rfl⟩
              have hBm := below_new u2 (.cells #[.int .i64 CE, .int .i64 KF, .int .i64 MF] 38)
              replace KQ := hKb.out _ _ KQ hBm
              clear hBm
              rw [hrt.out]
              have hvv : (RV == RV) = true := by simp
              go_wp2_with fail
              refine (hRa'.out _ KQ).mono ?_; rintro e u5 ⟨rfl, C5⟩
              replace KQ := hKb.out _ _ KQ C5
              clear C5 hRa'
              go_wp2_with fail
              refine (padded1_c _).mono ?_; rintro e u7 ⟨rfl, C7⟩
              have hfB := below_next (hKB.out _ KQ) C7
              clear C7 KQ
              go_wp2
              go_ret
              exact ⟨rfl, hfB⟩
            · rw [if_neg hs0] at hRt
              have hb0 : (RT != 0) = true := by simpa using hs0
              have hb1 : (RT == RT) = true := by simp
              clear hRa
              go_wp2_with fail
              refine (hRt.out _ KQ).mono ?_; rintro e u1 ⟨rfl, C1⟩
              replace KQ := hKb.out _ _ KQ C1
              clear C1 hRt
              go_wp2_with fail
              refine (hKf.out _).mono ?_; rintro e u2 ⟨rfl, C2⟩
              replace KQ := hKb.out _ _ KQ C2
              clear C2 hKf
              go_wp2_with fail
              refine (hMf.out _).mono ?_; rintro e u3 ⟨rfl, rfl⟩
              go_wp2_with fail
              refine (orE_c _ _ _ [CE, KF, MF] _ (R1.litAt _ _ _ [_, _, _] (by first | rfl | simp) rfl (by simp))).mono ?_; rintro e wm ⟨rfl, rfl⟩
              have hBm := below_new u2 (.cells #[.int .i64 CE, .int .i64 KF, .int .i64 MF] 38)
              replace KQ := hKb.out _ _ KQ hBm
              clear hBm
              rw [hrt.out]
              clear hs0
              go_wp2_with fail
              refine (padded1_c _).mono ?_; rintro e u7 ⟨rfl, C7⟩
              have hfB := below_next (hKB.out _ KQ) C7
              clear C7 KQ
              go_wp2
              go_ret
              exact ⟨rfl, hfB⟩
end Go.Proofs.YtjafcnblgeibpaaDoor
