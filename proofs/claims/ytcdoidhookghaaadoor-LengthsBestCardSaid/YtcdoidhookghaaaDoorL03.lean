/- LengthsBest: Fastest, Ideal and Hold answer as the reference says: the walk. -/
import Derived.Test.YtcdoidhookghaaaDoorTwo
import Derived.Test.YtcdoidhookghaaaDoorKept
import Derived.Test.YtcdoidhookghaaaDoorFastQ
import Derived.Test.YtcdoidhookghaaaDoorHoldC
import Derived.Test.YtcdoidhookghaaaDoorBestR
import Derived.Test.YtcdoidhookghaaaDoorFielded
import Derived.Test.YtcdoidhookghaaaDoorL02A
import Derived.Test.YtcdoidhookghaaaDoorDraws
import Derived.Test.YtcdoidhookghaaaDoorLawBase
import Derived.Test.YtcdoidhookghaaaDoorRegInv2
import Derived.Deep.DeepCutAuto
import Derived.Deep.RegionHeld3
namespace Go.Proofs.YtcdoidhookghaaaDoor
open Go.RowKit
set_option linter.unusedVariables false

theorem bestS_c (r : Race) (A : Option Addr) (n c : Nat) (l : List Sw) (w : World) (h : RSw w A n l) (h0 : someErr r l = 0) :
    Calls Tryd.prog 14 #[.slice A n c] w fun e w' => ∃ A' c', e = .returned (.slice A' (fastN r l) c') ∧ RGp w' A' (fastN r l) (fastL r l) ∧ Below w.heap.size w w' := by
  obtain ⟨f1, f2, f3, f4, f5, f6, f7⟩ := some_field h h0
  unfold fastN fastL
  rw [if_pos h0, if_pos h0]
  exact bestLaps_c A n c _ l w h f1 (by omega) (by omega) f5 f7
theorem fast_bd {r : Race} {A : Option Addr} {n : Nat} {l : List Sw} {w : World} (h : RSw w A n l) : fastN r l ≤ 240 ∧ (∀ g ∈ fastL r l, -360000 ≤ g.behind ∧ g.behind ≤ 360001) ∧ (∀ k, -90000000 ≤ sumG ((fastL r l).take k) ∧ sumG ((fastL r l).take k) ≤ 90000000) := by
  have hL : ∀ L : List Gp, L.length ≤ 240 → (∀ g ∈ L, -360000 ≤ g.behind ∧ g.behind ≤ 360001) → ∀ k, -90000000 ≤ sumG (L.take k) ∧ sumG (L.take k) ≤ 90000000 := by
    intro L hl hg k
    have := sumG_bd (l := L.take k) (fun g h => hg g (List.mem_of_mem_take h))
    have h2 : (L.take k).length ≤ 240 := by rw [List.length_take]; omega
    omega
  by_cases h0 : someErr r l = 0
  · obtain ⟨f1, f2, f3, f4, f5, f6, f7⟩ := some_field h h0
    unfold fastN fastL
    rw [if_pos h0, if_pos h0]
    exact ⟨f4, bestL_bd f7, hL _ (by rw [bestL_len]; exact f4) (bestL_bd f7)⟩
  · unfold fastN fastL
    rw [if_neg h0, if_neg h0]
    exact ⟨by omega, by simp, by simp [sumG]⟩
theorem fast_err {r : Race} {l : List Sw} (h : someErr r l ≠ 0) : fastN r l = 0 ∧ fastL r l = [] ∧ idealV r l = 0 := by
  have h1 : fastL r l = [] := by unfold fastL; rw [if_neg h]
  exact ⟨by unfold fastN; rw [if_neg h], h1, by unfold idealV; rw [h1]; rfl⟩
theorem none_way {r : Race} {l : List Sw} {n : Nat} (h : l.length = n) : orV [fieldErr r l, noneErr ((n : Int) == 0)] = someErr r l := by
  rw [← some_way, h]
  have : ((n : Int) == 0) = decide (n = 0) := by
    by_cases h0 : n = 0
    · subst h0; rfl
    · rw [decide_eq_false h0]; exact beq_eq_false_iff_ne.2 (by omega)
  rw [this]
theorem holdOfS_c (A1 A2 : Option Addr) (n c1 c2 : Nat) (best most : List Int) (w : World) (h1 : RI 3 w A1 n best) (h2 : RI 3 w A2 n most) (hn1 : 1 ≤ n) (hn : n ≤ 240) (hbd : ∀ (k : Nat) (b m : Int), best[k]? = some b → most[k]? = some m → 1 ≤ b ∧ b ≤ m ∧ m ≤ 360000) :
    Calls Tryd.prog 25 #[.slice A1 n c1, .slice A2 n c2] w fun e w' => ∃ A' c', e = .returned (.tuple #[.int .i64 (sumL (holdLs best most)), .slice A' n c']) ∧ RI 3 w' A' n (runL 0 (holdLs best most)) ∧ Below w.heap.size w w' := holdOf_c A1 A2 n c1 c2 best most w h1 h2 hn1 hn hbd
theorem eqB_self (l : List Int) : eqB l l = true := by unfold eqB; simp
theorem hold_zero {r : Race} {la lb : List Int} (h : holdE r la lb = 0) : la.length ≤ 240 ∧ ∀ (k : Nat) (b m : Int), la[k]? = some b → lb[k]? = some m → 1 ≤ b ∧ b ≤ m ∧ m ≤ 360000 := by
  unfold holdE at h
  split at h
  · rename_i h0; exact absurd h h0
  · rename_i h0
    have hb := lenV_bd (r := r) (by omega)
    unfold holdErr at h
    split at h
    · cases h
    · exact ⟨by omega, hGo_ok la lb 0 h⟩
def C29 (g b1 b2 m cc1 cc2 : Nat) (j : Nat) (w : World) (v : Value) : Prop :=
  match j with
  | 0 | 3 => v = .slice (some ⟨b1, 0, none⟩) m cc1
  | 1 | 9 => v = .slice (some ⟨b2, 0, none⟩) m cc2
  | 2 | 8 => v = .pointer (some ⟨g, 0, none⟩)
  | 4 | 14 => v = .pointer (some ⟨b1, 0, none⟩)
  | 10 | 16 => v = .pointer (some ⟨b2, 0, none⟩)
  | 5 | 7 | 11 | 13 => ∃ x : Int, v = .int .i64 x
  | 6 | 12 => ∃ z x0 x1 x2, v = .slice (some ⟨z, 0, none⟩) 3 3 ∧ z ≠ b1 ∧ z ≠ b2 ∧ w.heap[z]? = some (.cells #[.int .i64 x0, .int .i64 x1, .int .i64 x2] 3 (0, 0))
  | _ => True
theorem C29.mono {g b1 b2 m cc1 cc2 : Nat} {w w1 : World} (hR : ∀ (z : Nat) (cs : Array Value), z ≠ b1 → z ≠ b2 → w.heap[z]? = some (.cells cs 3 (0, 0)) → w1.heap[z]? = some (.cells cs 3 (0, 0))) (j : Nat) (v : Value) (h : C29 g b1 b2 m cc1 cc2 j w v) : C29 g b1 b2 m cc1 cc2 j w1 v := by
  unfold C29 at h ⊢
  split at h <;> first | exact h | (obtain ⟨z, x0, x1, x2, h1, h2, h3, h4⟩ := h; exact ⟨z, x0, x1, x2, h1, h2, h3, hR _ _ h2 h3 h4⟩)
def W29 (w : World) (b4 base : Nat) (cs : Array Value) (zs : List Int) (b1 b2 m cc1 cc2 K : Nat) (listed : Array Bool) (wx : World) : Prop :=
  ∃ (la lb : List Int) (k : Nat), k + remL [7, 13] listed ≤ K ∧ D3 w b4 base cs zs (.slice (some ⟨b1, 0, none⟩) m cc1) (.slice (some ⟨b2, 0, none⟩) m cc2) m m la lb k wx
theorem W29.keep {w : World} {b4 base : Nat} {cs : Array Value} {zs : List Int} {b1 b2 m cc1 cc2 K : Nat} {listed : Array Bool} {wx : World} {i : Nat} (h : W29 w b4 base cs zs b1 b2 m cc1 cc2 K listed wx) (hi : i ∉ [7, 13]) : W29 w b4 base cs zs b1 b2 m cc1 cc2 K (listed.setIfInBounds i true) wx := by
  unfold W29 at h ⊢; rw [remL_set hi]; exact h
set_option maxHeartbeats 6400000 in
set_option maxRecDepth 100000 in
theorem lengthsBest_walk (a0 : Option Addr) (len0 cap0 : Nat) (z0 : List Int) (w : World) (w0 : IsRow .i64 w a0 len0 cap0 z0) :
    Calls Tryd.prog 3 #[.slice a0 len0 cap0] w fun e w' => e = .returned (.bool true) ∧ Below w.heap.size w w' := by
  have hs := law_start w0
  clear w0
  generalize z0.take len0 = zs at *
  go_enter Tryd.func3, Tryd.ntmps3
  go_wp2_with fail
  have hs' : St (w.alloc (.cells #[.slice a0 len0 cap0, .int .i64 0] 25)) w.heap.size zs 0 := hs
  refine (fielded_c _ zs 0 _ hs' (by omega)).mono ?_; rintro e w1 ⟨r, A, n, c, l, k1, rfl, hF, hn4, s1, hk1, g1⟩
  have hB : Below w.heap.size w w1 := (below_new w _).trans (grown_below g1 (Nat.le_refl _) (by simp))
  clear hs hs' g1
  have hFW := Lib.hid (none_way (r := r) hF.len)
  have hFB := Lib.hid (fast_bd (r := r) hF)
  have K : KF w w1.heap.size r A n l zs k1 (w1.alloc (.cells r.cells 27)) := ⟨heap_alloc_new w1 _, hF.alloc _, s1.alloc _, hB.alloc hB.size _⟩
  have hlt : w.heap.size < w1.heap.size := s1.lt
  generalize hb4 : w1.heap.size = b4 at *
  clear s1 hB hF
  have hRf := Lib.hid (fun W => raceFault_c r W)
  have hLo := Lib.hid (fun W h => lengthsOf_c r W h)
  have hLv := Lib.hid (fun (h : raceErr r = 0) => lenV_bd h)
  have hFa := Lib.hid (fun W h => fastestA_c r A n c l W h)
  have hId := Lib.hid (fun W h => idealA_c r A n c l W h)
  have hBe := Lib.hid (fun W h h0 => bestS_c r A n c l W h h0)
  have hIV : idealV r l = sumG (fastL r l) := rfl
  have hFE := Lib.hid (fun h => fast_err (r := r) (l := l) h)
  have hHo := Lib.hid (fun A1 A2 n1 n2 c1 c2 best most W h1 h2 => hold_c r A1 A2 n1 n2 c1 c2 best most W h1 h2)
  have hHf := Lib.hid (fun A1 A2 n1 n2 c1 c2 best most W h1 h2 h0 => holdFault_c r A1 A2 n1 n2 c1 c2 best most W h1 h2 h0)
  have hIV' := Lib.hid hIV
  have hHE0 := Lib.hid (fun (h : raceErr r = 0) la lb => show holdE r la lb = holdErr r la lb by unfold holdE; rw [if_neg (by simp [h])])
  have hHE1 := Lib.hid (fun (h : raceErr r ≠ 0) la lb => show holdE r la lb = raceErr r by unfold holdE; rw [if_pos h])
  have hHE2 := Lib.hid (fun la lb (h : holdE r la lb = 0) => hold_zero h)
  clear hIV
  have hKr : ∀ k wx, KF w b4 r A n l zs k wx → wx.heap[b4]? = some (.cells r.cells 27 (0, 0)) := fun k wx h => h.rc
  have hKF : ∀ k wx, KF w b4 r A n l zs k wx → RSw wx A n l := fun k wx h => h.fd
  have hKs : ∀ k wx, KF w b4 r A n l zs k wx → St wx w.heap.size zs k := fun k wx h => h.st
  have hKB : ∀ k wx, KF w b4 r A n l zs k wx → Below w.heap.size w wx := fun k wx h => h.bel
  have hKb : ∀ k wx w', KF w b4 r A n l zs k wx → Below wx.heap.size wx w' → KF w b4 r A n l zs k w' := fun _ _ _ h hb => h.below hb
  have hKst : ∀ k k' wx w', KF w b4 r A n l zs k wx → St w' w.heap.size zs k' → wx.grownBy w' (some w.heap.size) → KF w b4 r A n l zs k' w' := fun _ _ _ _ h hs hg => h.stream hs hg
  generalize KF w b4 r A n l zs = KK at *
  generalize raceErr r = RE at *
  generalize someErr r l = SE at *
  generalize fieldErr r l = FE at *
  generalize fastN r l = FN at *
  generalize fastL r l = FL at *
  generalize idealV r l = IV at *
  generalize lenV r = LV at *
  generalize holdErr r = HR at *
  generalize holdE r = HE at *
  obtain ⟨key, metres, stroke, course, legs, sex, young, old⟩ := r
  dsimp only [Race.val, Race.cells] at *
  have zc := (blk_facts (hKr _ _ K)).1
  go_wp2_with fail
  refine (hFa.out _ (hKF _ _ K)).mono ?_; rintro e w2 ⟨A2, c2, rfl, hG, B2⟩
  replace K := hKb _ _ _ K B2
  clear zc B2 hFa
  have zc := (blk_facts (hKr _ _ K)).1
  go_wp2_with fail
  refine (hId.out _ (hKF _ _ K)).mono ?_; rintro e w3 ⟨rfl, B3⟩
  replace K := hKb _ _ _ K B3
  replace hG := hG.below B3
  clear zc B3 hId
  go_wp2_with fail
  refine (noneFault_c _ _).mono ?_; rintro e w' ⟨rfl, rfl⟩
  go_wp2_with fail
  refine (orE_c _ _ _ [FE, noneErr ((n : Int) == 0)] _ (R1.litAt _ _ _ _ (by first | rfl | simp) rfl (by simp))).mono ?_; rintro e w' ⟨rfl, rfl⟩
  rw [hFW.out]
  clear hFW
  replace K := hKb _ _ _ K (below_new _ (.cells #[.int .i64 FE, .int .i64 (noneErr ((n : Int) == 0))] 29))
  replace hG := hG.below (below_new _ (.cells #[.int .i64 FE, .int .i64 (noneErr ((n : Int) == 0))] 29))
  generalize noneErr ((n : Int) == 0) = nE at *
  go_upto_if 52 with (fail)
  go_cut [] (fun wx => KK k1 wx)
  case first =>
    as_aux_lemma =>
    clear hRf hLo hLv hHo hHf
    by_cases h0 : SE = 0
    · subst h0
      clear hFE
      go_wp2_with fail
      refine (hBe.out _ (hKF _ _ K) (by first | rfl | trivial)).mono ?_; rintro e w4 ⟨A4, c4, rfl, hG4, B4⟩
      have K4 := hKb _ _ _ K B4
      have hG5 := hG.below B4
      clear K hG B4 hBe
      have hgl := Lib.hid hG4.len
      have hFN := hFB.out.1
      go_wp2
      go_loopw [13, 74] (fun s i wr => ∃ (k : Nat) (v : Int), k ≤ FN ∧ i = .int .i64 k ∧ s = .int .i64 v ∧ -90000000 ≤ v ∧ v ≤ 90000000 ∧ Hid (v = sumG (FL.take k)) ∧ KK k1 wr ∧ RGp wr A4 FN FL ∧ RGp wr A2 FN FL) (fun _ i _ => FN - (intOf i).toNat)
      case atStart => exact ⟨0, 0, Nat.zero_le _, rfl, rfl, by decide, by decide, Lib.hid rfl, K4, hG4, hG5⟩
      case round =>
        obtain ⟨k, v, hk, rfl, rfl, hv0, hv1, hv, K, hGa, hGb⟩ := hrel
        by_cases hlt : k < FN
        · obtain ⟨b, off, x, hA, hbl2, hx, c0, c1, c2'⟩ := hGa.atN hlt
          subst hA
          have hs := Lib.hid (sumG_take hx)
          have hsb := hFB.out.2.2 (k + 1)
          rw [hs.out, ← hv.out] at hsb
          have hR1 := hGa.alloc (.cells #[.string x.who, .int .i64 x.length, .int .i64 x.behind] 41)
          have hR2 := hGb.alloc (.cells #[.string x.who, .int .i64 x.length, .int .i64 x.behind] 41)
          have K1 := hKb _ _ _ K (below_new _ (.cells #[.string x.who, .int .i64 x.length, .int .i64 x.behind] 41))
          obtain ⟨gw, gl, gb⟩ := x
          dsimp only at *
          clear hGa hGb K hx
          obtain ⟨hsb0, hsb1⟩ := hsb
          go_wp2_with fail
          go_roundw
          case rel => exact ⟨k + 1, v + gb, by omega, by go_num, rfl, hsb0, hsb1, Lib.hid (by rw [hs.out, ← hv.out]), K1, hR1, hR2⟩
          case measure => simp [intOf]; omega
        · obtain rfl : k = FN := by omega
          have hve := hv.out
          rw [List.take_of_length_le (by rw [hgl.out]; exact Nat.le_refl _), ← hIV'.out] at hve
          subst hve
          clear hv
          go_wp2_with fail
          refine (equalGp_c _ _ _ _ _ _ _ _ _ hGb hGa).mono ?_; rintro e w' ⟨rfl, q, rfl⟩
          have K1 := hKb _ _ _ K (below_drewN (Below.refl _ _) q)
          clear K hGa hGb
          go_wp2
          go_meet
          case rel => exact K1
    · obtain ⟨rfl, _, rfl⟩ := hFE.out h0
      have hne : (SE != 0) = true := by simpa using h0
      clear h0
      go_wp2
      go_meet
      case rel => exact K
  case rest =>
    clear K hG hBe hFE hFB hIV'
    rename World => wx
    have K := hcut
    clear hcut
    go_wp2_with fail
    refine (rangeE_c _ zs k1 1 5 _ (hKs _ _ K) (by omega) (by decide) (by decide) (by decide)).mono ?_; rintro e w2 ⟨v, rfl, hv1, hv5, s2, g2⟩
    have K2 := hKst _ _ _ _ K s2 g2
    obtain ⟨N, rfl⟩ : ∃ N : Nat, v = N := ⟨v.toNat, by omega⟩
    have hD := D3.fresh (hKr _ _ K2) s2 (hKB _ _ K2)
    clear K K2 s2 g2 hKr hKs hKB hKb hKst hKF
    generalize hbase : w2.heap.size = base at *
    go_wp2_with fail
    go_loopw [16, 17, 102] (fun u1 u2 i wr => ∃ (p : Nat) (la lb : List Int) (k : Nat), p ≤ N ∧ i = .int .i64 p ∧ k ≤ k1 + 1 + 2 * p ∧ D3 w b4 base #[.string key, .int .i64 metres, .int .i64 stroke, .int .i64 course, .int .i64 legs, .int .i64 sex, .int .i64 young, .int .i64 old] zs u1 u2 p p la lb k wr) (fun _ _ i _ => N - (intOf i).toNat)
    case atStart => exact ⟨0, [], [], k1 + 1, Nat.zero_le _, rfl, by omega, hD⟩
    case round =>
      obtain ⟨p, la, lb, k, hp, rfl, hk, hD⟩ := hrel
      by_cases hlt : p < N
      · go_wp2_with fail
        refine (pickB_c _ zs _ [1400, 1500, 1] 1 1500 3 _ _ _ _ hD.st (by omega) (by first | rfl | (simp; done)) rfl rfl (by decide) (by decide) (by decide)).mono ?_; rintro e w3 ⟨x, rfl, hx0, hx1, s3, g3⟩
        have hD3 := hD.stream s3 g3
        clear hD s3 g3
        have hz3 := hD3.bs
        go_wp2_with (at_builtin; refine wpList_appAt rfl (.tmp 107) (.tmp 109) 22 rfl Tryd.underlying22 info_int rfl (by omega) (by omega) hD3.o1 rfl rfl (by first | rfl | (simp; done)) rfl (by simp [Value.oneCell']) (by omega) hz3 ?_; intro v5 w5 ho5 hg5 hat5)
        have hD5 := hD3.app1 (l' := la ++ [x]) (by rw [ints_app]; exact ho5) hg5 hat5
        clear hD3 ho5 hg5 hat5 hz3
        refine (pickB_c _ zs _ [0, 1, 50, 200] 0 200 4 _ _ _ _ hD5.st (by omega) (by first | rfl | (simp; done)) rfl rfl (by decide) (by decide) (by decide)).mono ?_; rintro e w6 ⟨y, rfl, hy0, hy1, s6, g6⟩
        have hD6 := hD5.stream s6 g6
        clear hD5 s6 g6
        have hz6 := hD6.bs
        go_wp2_with (at_builtin; refine wpList_appAt rfl (.tmp 111) (.tmp 117) 22 rfl Tryd.underlying22 info_int rfl (by omega) (by omega) hD6.o2 rfl rfl (by first | rfl | (simp; done)) rfl (by simp [Value.oneCell']) (by omega) hz6 ?_; intro v7 w7 ho7 hg7 hat7)
        have hD7 := hD6.app2 (l' := lb ++ [x + y]) (by rw [ints_app]; exact ho7) hg7 hat7
        clear hD6 ho7 hg7 hat7 hz6
        go_roundw
        case rel => exact ⟨p + 1, _, _, _, by omega, by go_num, by omega, hD7⟩
        case measure => simp [intOf]; omega
      · obtain rfl : p = N := by omega
        go_upto_region 24 with (fail)
        go_cut [16, 17, 132] (fun s16 s17 s132 wx => ∃ (q : Bool) (kk : Nat), s132 = .bool q ∧ (q = true → RE = 0 ∧ LV ≤ 8) ∧ kk ≤ k1 + 20 ∧ D3 w b4 base #[.string key, .int .i64 metres, .int .i64 stroke, .int .i64 course, .int .i64 legs, .int .i64 sex, .int .i64 young, .int .i64 old] zs s16 s17 p p la lb kk wx)
        case first =>
          as_aux_lemma =>
          have zc := (blk_facts hD.rc).1
          by_cases h0 : RE = 0
          · have ht : (RE == 0) = true := by rw [h0]; rfl
            have h0' := Lib.hid h0
            clear h0
            go_wp2_with fail
            refine (hRf.out _).mono ?_; rintro e w3 ⟨rfl, B3⟩
            have hD3 := hD.below B3
            clear hD B3 zc
            have zc := (blk_facts hD3.rc).1
            go_wp2_with fail
            refine (hLo.out _ h0'.out).mono ?_; rintro e w4 ⟨rfl, B4⟩
            have hD4 := hD3.below B4
            clear hD3 B4 zc
            by_cases h8 : LV ≤ 8
            · have hd8 : decide (LV ≤ 8) = true := decide_eq_true h8
              go_wp2_with fail
              refine (flipE_c _ zs _ _ _ hD4.st (by omega) (by omega) (by omega)).mono ?_; rintro e w5 ⟨fl, rfl, s5, g5⟩
              have hD5 := hD4.stream s5 g5
              clear hD4 s5 g5
              cases fl
              · go_wp2
                go_meet
                case rel => exact ⟨true, _, rfl, fun _ => ⟨h0'.out, h8⟩, by omega, hD5⟩
              · go_wp2
                go_meet
                case rel => exact ⟨false, _, rfl, (fun h => by cases h), by omega, hD5⟩
            · have hd8 : decide (LV ≤ 8) = false := decide_eq_false h8
              go_wp2
              go_meet
              case rel => exact ⟨false, _, rfl, (fun h => by cases h), by omega, hD4⟩
          · have ht : (RE == 0) = false := beq_eq_false_iff_ne.2 h0
            clear h0
            go_wp2_with fail
            refine (hRf.out _).mono ?_; rintro e w3 ⟨rfl, B3⟩
            have hD3 := hD.below B3
            clear hD B3 zc
            go_wp2
            go_meet
            case rel => exact ⟨false, _, rfl, (fun h => by cases h), by omega, hD3⟩
        case rest =>
          clear hD
          rename World => wx
          obtain ⟨q, kk, rfl, hq, hkk, hD⟩ := hcut
          go_upto_if 132 with (fail)
          go_cut [16, 17] (fun s16 s17 wy => ∃ (m k2 : Nat) (la lb : List Int), 1 ≤ m ∧ m ≤ 8 ∧ k2 ≤ k1 + 40 ∧ D3 w b4 base #[.string key, .int .i64 metres, .int .i64 stroke, .int .i64 course, .int .i64 legs, .int .i64 sex, .int .i64 young, .int .i64 old] zs s16 s17 m m la lb k2 wy)
          case first =>
            as_aux_lemma =>
            cases q
            · go_wp2
              go_meet
              case rel => exact ⟨p, _, _, _, by omega, by omega, by omega, hD⟩
            · obtain ⟨hR0, h8⟩ := hq rfl
              subst hR0
              obtain ⟨hl1, hl2⟩ := hLv.out (by first | rfl | trivial)
              obtain ⟨M, hM⟩ : ∃ M : Nat, LV = M := ⟨LV.toNat, by omega⟩
              subst hM
              go_wp2_with fail
              go_loopw [16, 17] (fun u1 u2 wr => ∃ (m k2 : Nat) (la lb : List Int), p ≤ m ∧ m ≤ 8 ∧ k2 ≤ k1 + 20 + m ∧ D3 w b4 base #[.string key, .int .i64 metres, .int .i64 stroke, .int .i64 course, .int .i64 legs, .int .i64 sex, .int .i64 young, .int .i64 old] zs u1 u2 m m la lb k2 wr) (fun u1 _ _ => M - slLen u1)
              case atStart => exact ⟨p, kk, la, lb, by omega, by omega, by omega, hD⟩
              case round =>
                clear hD
                obtain ⟨m, k2, la2, lb2, hm, hm8, hk2, hD⟩ := hrel
                obtain ⟨b1, cc1, rfl, hbl1, hc1, hcm1⟩ := hD.shape1 (by omega)
                have zc := (blk_facts hD.rc).1
                go_wp2_with fail
                refine (hLo.out _ (by first | rfl | trivial)).mono ?_; rintro e w3 ⟨rfl, B3⟩
                have hD3 := hD.below B3
                clear hD B3 zc
                by_cases hlt : m < M
                · have hz3 := hD3.bs
                  go_wp2_with (at_builtin; refine wpList_appAt rfl (.tmp 138) (.tmp 139) 22 rfl Tryd.underlying22 info_int rfl (by omega) (by omega) hD3.o1 rfl rfl (by first | rfl | (simp; done)) rfl (by simp [Value.oneCell']) (by omega) hz3 ?_; intro v5 w5 ho5 hg5 hat5)
                  obtain ⟨A5, c5, rfl⟩ := own_shape ho5
                  have hD5 := hD3.app1 (l' := la2 ++ [1450]) (by rw [ints_app]; exact ho5) hg5 hat5
                  clear hD3 ho5 hg5 hat5 hz3
                  refine (nextE_c _ zs _ 100 _ hD5.st (by omega) (by decide) (by decide)).mono ?_; rintro e w6 ⟨y, rfl, hy0, hy1, s6, g6⟩
                  have hD6 := hD5.stream s6 g6
                  clear hD5 s6 g6
                  have hz6 := hD6.bs
                  go_wp2_with (at_builtin; refine wpList_appAt rfl (.tmp 141) (.tmp 145) 22 rfl Tryd.underlying22 info_int rfl (by omega) (by omega) hD6.o2 rfl rfl (by first | rfl | (simp; done)) rfl (by simp [Value.oneCell']) (by omega) hz6 ?_; intro v7 w7 ho7 hg7 hat7)
                  have hD7 := hD6.app2 (l' := lb2 ++ [1451 + y]) (by rw [ints_app]; exact ho7) hg7 hat7
                  clear hD6 ho7 hg7 hat7 hz6
                  go_roundw
                  case rel => exact ⟨m + 1, _, _, _, by omega, by omega, by omega, hD7⟩
                  case measure => simp [slLen]; omega
                · obtain ⟨b2, cc2, rfl, hbl2, hc2, hcm2⟩ := hD3.shape2 (by omega)
                  have hb13 := hD3.rc
                  have zk := (blk_facts hb13).1
                  have z0 := zk 0
                  have z1 := zk 1
                  have z2 := zk 2
                  have z3 := zk 3
                  have z4 := zk 4
                  have z5 := zk 5
                  have z6 := zk 6
                  have z7 := zk 7
                  have lb13 := lt_of_heap hb13
                  have hq0 : (0 : Int) ≤ (M : Int) := by omega
                  have hq1 : (M : Int) ≤ (cc1 : Int) := by omega
                  have hq2 : (M : Int) ≤ (cc2 : Int) := by omega
                  have hLo' := Lib.hid (fun W => hLo.out W (by first | rfl | trivial))
                  have hD3' := Lib.hid hD3
                  clear hD3 zk
                  go_wp2_with fail
                  go_region_held3 (fun w' => w'.cell? ⟨b4, 0, none⟩ = some (.string key) ∧ w'.cell? ⟨b4, 1, none⟩ = some (.int .i64 metres) ∧ w'.cell? ⟨b4, 2, none⟩ = some (.int .i64 stroke) ∧ w'.cell? ⟨b4, 3, none⟩ = some (.int .i64 course) ∧ w'.cell? ⟨b4, 4, none⟩ = some (.int .i64 legs) ∧ w'.cell? ⟨b4, 5, none⟩ = some (.int .i64 sex) ∧ w'.cell? ⟨b4, 6, none⟩ = some (.int .i64 young) ∧ w'.cell? ⟨b4, 7, none⟩ = some (.int .i64 old)) (first | go_keep | exact ⟨(blk_facts hb14).1 0, (blk_facts hb14).1 1, (blk_facts hb14).1 2, (blk_facts hb14).1 3, (blk_facts hb14).1 4, (blk_facts hb14).1 5, (blk_facts hb14).1 6, (blk_facts hb14).1 7⟩ | exact ⟨(blk_facts hb15).1 0, (blk_facts hb15).1 1, (blk_facts hb15).1 2, (blk_facts hb15).1 3, (blk_facts hb15).1 4, (blk_facts hb15).1 5, (blk_facts hb15).1 6, (blk_facts hb15).1 7⟩)
                    (first
                      | (go_at_call 19; with_reducible refine (hLo'.out _).mono ?_; rintro e w14 ⟨rfl, B14⟩; have hb14 := blk_below (w := World.drew _) hb13 B14; have lb14 := lt_of_heap hb14)
                      | (go_at_call 19; with_reducible refine (hLo'.out _).mono ?_; rintro e w15 ⟨rfl, B15⟩; have hb15 := blk_below hb14 B15; have lb15 := lt_of_heap hb15))
                  have hD4 := ((hD3'.out.drewN 1).below B14).below B15
                  go_wp2
                  go_meet
                  case rel => exact ⟨M, k2, _, _, by omega, by omega, by omega, hD4.cut (by omega) (by omega)⟩
          case rest =>
            clear hD hq
            rename World => wy
            obtain ⟨m, k2, la2, lb2, hm1, hm8, hk2, hD⟩ := hcut
            go_wp2_with fail
            refine (flipE_c _ zs _ _ _ hD.st (by omega) (by omega) (by omega)).mono ?_; rintro e w3 ⟨fl, rfl, s3, g3⟩
            have hD3 := hD.stream s3 g3
            clear hD s3 g3
            obtain ⟨b1, cc1, rfl, hbl1, hc1, hcm1⟩ := hD3.shape1 hm1
            obtain ⟨b2, cc2, rfl, hbl2, hc2, hcm2⟩ := hD3.shape2 hm1
            go_upto_if 156 with (fail)
            go_cut [] (fun wz => ∃ (k2 : Nat) (la lb : List Int), D3 w b4 base #[.string key, .int .i64 metres, .int .i64 stroke, .int .i64 course, .int .i64 legs, .int .i64 sex, .int .i64 young, .int .i64 old] zs (.slice (some ⟨b1, 0, none⟩) m cc1) (.slice (some ⟨b2, 0, none⟩) m cc2) m m la lb k2 wz)
            case first =>
              as_aux_lemma =>
              cases fl
              · go_wp2
                go_meet
                case rel => exact ⟨_, _, _, hD3⟩
              · go_wp2_with fail
                --R29
                refine wp_region_inv (by kernel_rfl) (fun listed a w' => ∃ xs : Nat → Value, a = { tmps := #[Value.slice a0 len0 cap0, undef, u2, Value.pointer (some { block := w.heap.size, off := 0 }), Value.pointer (some { block := b4, off := 0 }), Value.slice A n c, Value.int IntKind.i64 FE, Value.slice A2 FN c2, Value.int IntKind.i64 SE, Value.int IntKind.i64 IV, Value.int IntKind.i64 SE, Value.int IntKind.i64 SE, u12, u13, undef, u15, Value.slice (some { block := b1, off := 0 }) m cc1, Value.slice (some { block := b2, off := 0 }) m cc2, u18, undef, undef, undef, undef, u23, u24, u25, u26, u27, u28, u29, u30, u31, u32, u33, u34, u35, u36, u37, u38, u39, u40, u41, u42, u43, u44, u45, u46, u47, u48, u49, u50, u51, u52, u53, u54, u55, u56, u57, u58, u59, u60, u61, u62, u63, u64, u65, u66, u67, u68, u69, u70, u71, u72, u73, u74, u75, u76, u77, u78, u79, u80, u81, u82, u83, u84, u85, u86, u87, u88, u89, u90, u91, u92, u93, u94, u95, u96, u97, u98, u99, u100, Value.int IntKind.i64 ↑p, Value.int IntKind.i64 ↑p, u103, u104, u105, u106, u107, u108, u109, u110, u111, u112, u113, u114, u115, u116, u117, u118, u119, u120, u121, u122, u123, u124, u125, u126, u127, u128, u129, u130, u131, Value.bool q, u133, u134, u135, u136, u137, u138, u139, u140, u141, u142, u143, u144, u145, u146, u147, u148, u149, u150, u151, u152, u153, u154, Value.pointer (some { block := w.heap.size, off := 0 }), Value.bool true, xs 0, xs 1, xs 2, xs 3, xs 4, xs 5, xs 6, xs 7, xs 8, xs 9, xs 10, xs 11, xs 12, xs 13, xs 14, xs 16, u173, u174, u175, u176, u177, u178, u179, u180, u181, u182, u183, u184, u185, u186, u187, u188, u189, u190, u191, u192, u193, u194, u195, u196, u197, u198, u199, u200, u201, u202, u203, u204, u205, u206, u207, u208, u209, u210, u211, u212, u213, u214, u215, u216, u217, u218, u219, u220, u221, u222, u223, u224, u225, u226], defers := [] } ∧ (∀ j, listed.getD j false = true → C29 w.heap.size b1 b2 m cc1 cc2 j w' (xs j)) ∧ W29 w b4 base #[.string key, .int .i64 metres, .int .i64 stroke, .int .i64 course, .int .i64 legs, .int .i64 sex, .int .i64 young, .int .i64 old] zs b1 b2 m cc1 cc2 (k2 + 3) listed w') ?h0 (AllOps.of ?hs) ?he
                case h0 => exact ⟨fun j => match j with | 0 => u157 | 1 => u158 | 2 => u159 | 3 => u160 | 4 => u161 | 5 => u162 | 6 => u163 | 7 => u164 | 8 => u165 | 9 => u166 | 10 => u167 | 11 => u168 | 12 => u169 | 13 => u170 | 14 => u171 | 16 => u172 | _ => undef, rfl, (fun j hj => by rw [rep_false] at hj; cases hj), la2, lb2, k2 + 1, by simp [remL], hD3.drew⟩
                case hs =>
                  refine ⟨?_, ?_, ?_, ?_, ?_, ?_, ?_, ?_, ?_, ?_, ?_, ?_, ?_, ?_, ?_, ?_, ?_, ?_, trivial⟩
                  · intro listed a w' hs hI h0 hd K' hK
                    obtain ⟨xs, rfl, hC, hW⟩ := hI
                    have hK2 := Lib.hid hK
                    have hC2 := Lib.hid hC
                    clear hd hK hC h0
                    go_simp
                    exact hK2.out _ _ ⟨updV xs 0 (.slice (some ⟨b1, 0, none⟩) m cc1), by simp [updV], cond_set hC2.out (fun _ _ h => h) rfl, W29.keep hW (by decide)⟩
                  · intro listed a w' hs hI h0 hd K' hK
                    obtain ⟨xs, rfl, hC, hW⟩ := hI
                    have hK2 := Lib.hid hK
                    have hC2 := Lib.hid hC
                    clear hd hK hC h0
                    go_simp
                    exact hK2.out _ _ ⟨updV xs 1 (.slice (some ⟨b2, 0, none⟩) m cc2), by simp [updV], cond_set hC2.out (fun _ _ h => h) rfl, W29.keep hW (by decide)⟩
                  · intro listed a w' hs hI h0 hd K' hK
                    obtain ⟨xs, rfl, hC, hW⟩ := hI
                    have hK2 := Lib.hid hK
                    have hC2 := Lib.hid hC
                    clear hd hK hC h0
                    go_simp
                    exact hK2.out _ _ ⟨updV xs 2 (.pointer (some ⟨w.heap.size, 0, none⟩)), by simp [updV], cond_set hC2.out (fun _ _ h => h) rfl, W29.keep hW (by decide)⟩
                  · intro listed a w' hs hI h0 hd K' hK
                    obtain ⟨xs, rfl, hC, hW⟩ := hI
                    have hK2 := Lib.hid hK
                    have hC2 := Lib.hid hC
                    clear hd hK hC h0
                    go_simp
                    exact hK2.out _ _ ⟨updV xs 3 (.slice (some ⟨b1, 0, none⟩) m cc1), by simp [updV], cond_set hC2.out (fun _ _ h => h) rfl, W29.keep hW (by decide)⟩
                  · intro listed a w' hs hI h0 hd K' hK
                    obtain ⟨xs, rfl, hC, hW⟩ := hI
                    have e3 : xs 3 = (.slice (some ⟨b1, 0, none⟩) m cc1) := hC 3 (hd ⟨3, .data⟩ (by simp) rfl)
                    have hK2 := Lib.hid hK
                    have hC2 := Lib.hid hC
                    have hm0 : 0 < m := by omega
                    clear hd hK hC h0
                    go_simp
                    exact hK2.out _ _ ⟨updV xs 4 (.pointer (some ⟨b1, 0, none⟩)), by simp [updV, e3], cond_set hC2.out (fun _ _ h => h) rfl, W29.keep hW (by decide)⟩
                  · intro listed a w' hs hI h0 hd K' hK
                    obtain ⟨xs, rfl, hC, hW⟩ := hI
                    have e4 : xs 4 = (.pointer (some ⟨b1, 0, none⟩)) := hC 4 (hd ⟨4, .data⟩ (by simp) rfl)
                    have hK2 := Lib.hid hK
                    have hC2 := Lib.hid hC
                    obtain ⟨la9, lb9, k9, hk9, hD9⟩ := hW
                    obtain ⟨x9, _, c9⟩ := hD9.cell1 (j := 0) (by omega)
                    clear hd hK hC h0
                    go_simp
                    exact hK2.out _ _ ⟨updV xs 5 (.int .i64 x9), by simp [updV, e4], cond_set hC2.out (fun _ _ h => h) ⟨_, rfl⟩, W29.keep ⟨la9, lb9, k9, hk9, hD9⟩ (by decide)⟩
                  · intro listed a w' hs hI h0 hd K' hK
                    obtain ⟨xs, rfl, hC, hW⟩ := hI
                    obtain ⟨v5, e5⟩ : ∃ v : Int, xs 5 = .int .i64 v := hC 5 (hd ⟨5, .data⟩ (by simp) rfl)
                    have hK2 := Lib.hid hK
                    have hC2 := Lib.hid hC
                    obtain ⟨la9, lb9, k9, hk9, hD9⟩ := hW
                    have hb9 := hD9.lt1
                    have hb9x := hD9.lt2
                    clear hd hK hC h0
                    go_simp
                    exact hK2.out _ _ ⟨updV xs 6 (.slice (some ⟨w'.heap.size, 0, none⟩) 3 3), by simp [updV, e5], cond_set hC2.out (C29.mono (fun z cs _ _ h => blk_alloc h _)) ⟨w'.heap.size, _, _, _, rfl, by omega, by omega, heap_alloc_new w' _⟩, W29.keep ⟨la9, lb9, k9, hk9, hD9.alloc _⟩ (by decide)⟩
                  · intro listed a w' hs hI h0 hd K' hK
                    obtain ⟨xs, rfl, hC, hW⟩ := hI
                    have e2 : xs 2 = (.pointer (some ⟨w.heap.size, 0, none⟩)) := hC 2 (hd ⟨2, .data⟩ (by simp) rfl)
                    obtain ⟨z6, p6, q6, r6, e6, ne6, nf6, hz6⟩ : ∃ z x0 x1 x2, xs 6 = .slice (some ⟨z, 0, none⟩) 3 3 ∧ z ≠ b1 ∧ z ≠ b2 ∧ w'.heap[z]? = some (.cells #[.int .i64 x0, .int .i64 x1, .int .i64 x2] 3 (0, 0)) := hC 6 (hd ⟨6, .data⟩ (by simp) rfl)
                    have hK2 := Lib.hid hK
                    have hC2 := Lib.hid hC
                    obtain ⟨la9, lb9, k9, hk9, hD9⟩ := hW
                    have hrem := remL_call (i := 7) (cs := [7, 13]) h0 (by decide) (by decide)
                    have r9 : RI 3 w' (some ⟨z6, 0, none⟩) 3 [p6, q6, r6] := R1.of_lit hz6 rfl rfl (by decide)
                    clear h0
                    clear hd hK hC
                    go_simp
                    refine (pickE_c _ zs _ _ _ _ _ _ hD9.st (by omega) r9 (by decide)).mono ?_; rintro e w1 ⟨v, rfl, _, s10, g10⟩
                    exact hK2.out _ _ ⟨updV xs 7 (.int .i64 v), by simp [updV, e2, e6], cond_set hC2.out (C29.mono (fun z cs _ _ h => hD9.st.keep g10 z cs _ (0, 0) (by decide) h)) ⟨_, rfl⟩, la9, lb9, k9 + 1, (show k9 + 1 + remL [7, 13] (listed.setIfInBounds 7 true) ≤ k2 + 3 by omega), hD9.stream s10 g10⟩
                  · intro listed a w' hs hI h0 hd K' hK
                    obtain ⟨xs, rfl, hC, hW⟩ := hI
                    have hK2 := Lib.hid hK
                    have hC2 := Lib.hid hC
                    clear hd hK hC h0
                    go_simp
                    exact hK2.out _ _ ⟨updV xs 8 (.pointer (some ⟨w.heap.size, 0, none⟩)), by simp [updV], cond_set hC2.out (fun _ _ h => h) rfl, W29.keep hW (by decide)⟩
                  · intro listed a w' hs hI h0 hd K' hK
                    obtain ⟨xs, rfl, hC, hW⟩ := hI
                    have hK2 := Lib.hid hK
                    have hC2 := Lib.hid hC
                    clear hd hK hC h0
                    go_simp
                    exact hK2.out _ _ ⟨updV xs 9 (.slice (some ⟨b2, 0, none⟩) m cc2), by simp [updV], cond_set hC2.out (fun _ _ h => h) rfl, W29.keep hW (by decide)⟩
                  · intro listed a w' hs hI h0 hd K' hK
                    obtain ⟨xs, rfl, hC, hW⟩ := hI
                    have e9 : xs 9 = (.slice (some ⟨b2, 0, none⟩) m cc2) := hC 9 (hd ⟨9, .data⟩ (by simp) rfl)
                    have hK2 := Lib.hid hK
                    have hC2 := Lib.hid hC
                    have hm0 : 0 < m := by omega
                    clear hd hK hC h0
                    go_simp
                    exact hK2.out _ _ ⟨updV xs 10 (.pointer (some ⟨b2, 0, none⟩)), by simp [updV, e9], cond_set hC2.out (fun _ _ h => h) rfl, W29.keep hW (by decide)⟩
                  · intro listed a w' hs hI h0 hd K' hK
                    obtain ⟨xs, rfl, hC, hW⟩ := hI
                    have e10 : xs 10 = (.pointer (some ⟨b2, 0, none⟩)) := hC 10 (hd ⟨10, .data⟩ (by simp) rfl)
                    have hK2 := Lib.hid hK
                    have hC2 := Lib.hid hC
                    obtain ⟨la9, lb9, k9, hk9, hD9⟩ := hW
                    obtain ⟨x9, _, c9⟩ := hD9.cell2 (j := 0) (by omega)
                    clear hd hK hC h0
                    go_simp
                    exact hK2.out _ _ ⟨updV xs 11 (.int .i64 x9), by simp [updV, e10], cond_set hC2.out (fun _ _ h => h) ⟨_, rfl⟩, W29.keep ⟨la9, lb9, k9, hk9, hD9⟩ (by decide)⟩
                  · intro listed a w' hs hI h0 hd K' hK
                    obtain ⟨xs, rfl, hC, hW⟩ := hI
                    obtain ⟨v11, e11⟩ : ∃ v : Int, xs 11 = .int .i64 v := hC 11 (hd ⟨11, .data⟩ (by simp) rfl)
                    have hK2 := Lib.hid hK
                    have hC2 := Lib.hid hC
                    obtain ⟨la9, lb9, k9, hk9, hD9⟩ := hW
                    have hb9 := hD9.lt1
                    have hb9x := hD9.lt2
                    clear hd hK hC h0
                    go_simp
                    exact hK2.out _ _ ⟨updV xs 12 (.slice (some ⟨w'.heap.size, 0, none⟩) 3 3), by simp [updV, e11], cond_set hC2.out (C29.mono (fun z cs _ _ h => blk_alloc h _)) ⟨w'.heap.size, _, _, _, rfl, by omega, by omega, heap_alloc_new w' _⟩, W29.keep ⟨la9, lb9, k9, hk9, hD9.alloc _⟩ (by decide)⟩
                  · intro listed a w' hs hI h0 hd K' hK
                    obtain ⟨xs, rfl, hC, hW⟩ := hI
                    have e8 : xs 8 = (.pointer (some ⟨w.heap.size, 0, none⟩)) := hC 8 (hd ⟨8, .data⟩ (by simp) rfl)
                    obtain ⟨z12, p12, q12, r12, e12, ne12, nf12, hz12⟩ : ∃ z x0 x1 x2, xs 12 = .slice (some ⟨z, 0, none⟩) 3 3 ∧ z ≠ b1 ∧ z ≠ b2 ∧ w'.heap[z]? = some (.cells #[.int .i64 x0, .int .i64 x1, .int .i64 x2] 3 (0, 0)) := hC 12 (hd ⟨12, .data⟩ (by simp) rfl)
                    have hK2 := Lib.hid hK
                    have hC2 := Lib.hid hC
                    obtain ⟨la9, lb9, k9, hk9, hD9⟩ := hW
                    have hrem := remL_call (i := 13) (cs := [7, 13]) h0 (by decide) (by decide)
                    have r9 : RI 3 w' (some ⟨z12, 0, none⟩) 3 [p12, q12, r12] := R1.of_lit hz12 rfl rfl (by decide)
                    clear h0
                    clear hd hK hC
                    go_simp
                    refine (pickE_c _ zs _ _ _ _ _ _ hD9.st (by omega) r9 (by decide)).mono ?_; rintro e w1 ⟨v, rfl, _, s10, g10⟩
                    exact hK2.out _ _ ⟨updV xs 13 (.int .i64 v), by simp [updV, e8, e12], cond_set hC2.out (C29.mono (fun z cs _ _ h => hD9.st.keep g10 z cs _ (0, 0) (by decide) h)) ⟨_, rfl⟩, la9, lb9, k9 + 1, (show k9 + 1 + remL [7, 13] (listed.setIfInBounds 13 true) ≤ k2 + 3 by omega), hD9.stream s10 g10⟩
                  · intro listed a w' hs hI h0 hd K' hK
                    obtain ⟨xs, rfl, hC, hW⟩ := hI
                    have e0 : xs 0 = (.slice (some ⟨b1, 0, none⟩) m cc1) := hC 0 (hd ⟨0, .data⟩ (by simp) rfl)
                    have hK2 := Lib.hid hK
                    have hC2 := Lib.hid hC
                    have hm0 : 0 < m := by omega
                    clear hd hK hC h0
                    go_simp
                    exact hK2.out _ _ ⟨updV xs 14 (.pointer (some ⟨b1, 0, none⟩)), by simp [updV, e0], cond_set hC2.out (fun _ _ h => h) rfl, W29.keep hW (by decide)⟩
                  · intro listed a w' hs hI h0 hd K' hK
                    obtain ⟨xs, rfl, hC, hW⟩ := hI
                    obtain ⟨v7, e7⟩ : ∃ v : Int, xs 7 = .int .i64 v := hC 7 (hd ⟨7, .data⟩ (by simp) rfl)
                    have e14 : xs 14 = (.pointer (some ⟨b1, 0, none⟩)) := hC 14 (hd ⟨14, .data⟩ (by simp) rfl)
                    have hK2 := Lib.hid hK
                    have hC2 := Lib.hid hC
                    obtain ⟨la9, lb9, k9, hk9, hD9⟩ := hW
                    have f9 := hD9.o1.frozenAt 0
                    have hS9 := Lib.hid (hD9.set1 (j := 0) v7)
                    obtain ⟨x9, _, c9⟩ := hD9.cell1 (j := 0) (by omega)
                    clear hd hK hC h0
                    go_simp
                    exact hK2.out _ _ ⟨updV xs 15 (undef), by simp [updV, e7, e14], cond_set hC2.out (C29.mono (fun z cs h1 h2 h => blk_other h (p := ⟨b1, 0, none⟩) h1 _)) trivial, W29.keep ⟨_, _, k9, hk9, hS9.out⟩ (by decide)⟩
                  · intro listed a w' hs hI h0 hd K' hK
                    obtain ⟨xs, rfl, hC, hW⟩ := hI
                    have e1 : xs 1 = (.slice (some ⟨b2, 0, none⟩) m cc2) := hC 1 (hd ⟨1, .data⟩ (by simp) rfl)
                    have hK2 := Lib.hid hK
                    have hC2 := Lib.hid hC
                    have hm0 : 0 < m := by omega
                    clear hd hK hC h0
                    go_simp
                    exact hK2.out _ _ ⟨updV xs 16 (.pointer (some ⟨b2, 0, none⟩)), by simp [updV, e1], cond_set hC2.out (fun _ _ h => h) rfl, W29.keep hW (by decide)⟩
                  · intro listed a w' hs hI h0 hd K' hK
                    obtain ⟨xs, rfl, hC, hW⟩ := hI
                    obtain ⟨v13, e13⟩ : ∃ v : Int, xs 13 = .int .i64 v := hC 13 (hd ⟨13, .data⟩ (by simp) rfl)
                    have e16 : xs 16 = (.pointer (some ⟨b2, 0, none⟩)) := hC 16 (hd ⟨16, .data⟩ (by simp) rfl)
                    have hK2 := Lib.hid hK
                    have hC2 := Lib.hid hC
                    obtain ⟨la9, lb9, k9, hk9, hD9⟩ := hW
                    have f9 := hD9.o2.frozenAt 0
                    have hS9 := Lib.hid (hD9.set2 (j := 0) v13)
                    obtain ⟨x9, _, c9⟩ := hD9.cell2 (j := 0) (by omega)
                    clear hd hK hC h0
                    go_simp
                    exact hK2.out _ _ ⟨updV xs 17 (undef), by simp [updV, e13, e16], cond_set hC2.out (C29.mono (fun z cs h1 h2 h => blk_other h (p := ⟨b2, 0, none⟩) h2 _)) trivial, W29.keep ⟨_, _, k9, hk9, hS9.out⟩ (by decide)⟩
                case he =>
                  intro listed a w' hs hI hr
                  obtain ⟨xs, rfl, hC, hW⟩ := hI
                  clear hC hs hr
                  obtain ⟨la9, lb9, k9, hk9, hD9⟩ := hW
                  go_wp2
                  go_meet
                  case rel => exact ⟨_, _, _, hD9⟩
                --R29 end
            case rest =>
              clear hD3
              rename World => wz
              obtain ⟨k3, la3, lb3, hD⟩ := hcut
              have zc := (blk_facts hD.rc).1
              go_wp2_with fail
              refine (hHo.out _ _ _ _ _ _ _ _ _ (hD.r1 (by omega)) (hD.r2 (by omega))).mono ?_; rintro e w4 ⟨A5, n5, c5, rfl, hO, B4⟩
              have hD4 := hD.below B4
              clear hD B4 zc
              generalize hT : (if HE la3 lb3 = 0 then sumL (holdLs la3 lb3) else 0) = T at *
              generalize hL : (if HE la3 lb3 = 0 then runL 0 (holdLs la3 lb3) else []) = Ls at *
              have hT' := Lib.hid hT
              have hL' := Lib.hid hL
              clear hT hL
              have zc := (blk_facts hD4.rc).1
              go_wp2_with fail
              refine (hRf.out _).mono ?_; rintro e w5 ⟨rfl, B5⟩
              have hD5 := hD4.below B5
              replace hO := hO.below B5
              clear hD4 B5 zc hRf
              have hH0 := Lib.hid (fun h => hHE0.out h la3 lb3)
              have hH1 := Lib.hid (fun h => hHE1.out h la3 lb3)
              have hH2 := Lib.hid (fun h => hHE2.out la3 lb3 h)
              have hHf' := Lib.hid (fun A1 A2 n1 n2 c1 c2 W h1 h2 h0 => hHf.out A1 A2 n1 n2 c1 c2 la3 lb3 W h1 h2 h0)
              clear hHE0 hHE1 hHE2 hHf hHo
              generalize HE la3 lb3 = E at *
              generalize HR la3 lb3 = R0 at *
              go_upto_if 184 with (fail)
              go_cut [6] (fun s6 wa => s6 = .int .i64 E ∧ RI 3 wa A5 n5 Ls ∧ ∃ k, D3 w b4 base #[.string key, .int .i64 metres, .int .i64 stroke, .int .i64 course, .int .i64 legs, .int .i64 sex, .int .i64 young, .int .i64 old] zs (.slice (some ⟨b1, 0, none⟩) m cc1) (.slice (some ⟨b2, 0, none⟩) m cc2) m m la3 lb3 k wa)
              case first =>
                as_aux_lemma =>
                by_cases h0 : RE = 0
                · have hER := Lib.hid (hH0.out h0)
                  subst h0
                  have zc := (blk_facts hD5.rc).1
                  go_wp2_with fail
                  refine (hHf'.out _ _ _ _ _ _ _ (hD5.r1 (by omega)) (hD5.r2 (by omega)) (by first | rfl | trivial)).mono ?_; rintro e w6 ⟨rfl, B6⟩
                  have hD6 := hD5.below B6
                  have hO6 := hO.below B6
                  clear hD5 hO B6 zc
                  go_wp2
                  go_meet
                  case rel => exact ⟨by rw [hER.out], hO6, _, hD6⟩
                · have hER := Lib.hid (hH1.out h0)
                  have ht : (RE == 0) = false := beq_eq_false_iff_ne.2 h0
                  clear h0
                  go_wp2
                  go_meet
                  case rel => exact ⟨by rw [hER.out], hO, _, hD5⟩
              case rest =>
                clear hD5 hO hH0 hH1 hHf'
                rename World => wa
                obtain ⟨rfl, hO, k4, hD⟩ := hcut
                by_cases h0 : E = 0
                · as_aux_lemma =>
                  subst h0
                  obtain ⟨hm, hbd⟩ := hH2.out (by first | rfl | trivial)
                  have hT := hT'.out
                  have hL := hL'.out
                  rw [if_pos rfl] at hT hL
                  subst hT
                  subst hL
                  clear hT' hL'
                  have hbd' := Lib.hid hbd
                  clear hbd hH2
                  go_wp2_with fail
                  refine (holdOfS_c _ _ _ _ _ _ _ _ (hD.r1 (by omega)) (hD.r2 (by omega)) hm1 (by omega) hbd'.out).mono ?_; rintro e w7 ⟨A7, c7, rfl, hO7, B7⟩
                  have hD7 := hD.below B7
                  replace hO := hO.below B7
                  clear hD B7
                  go_wp2_with fail
                  refine (equal_c _ _ _ _ _ _ _ _ _ hO hO7).mono ?_; rintro e w8 ⟨rfl, B8⟩
                  rw [eqB_self]
                  have hD8 := hD7.below B8
                  clear hD7 B8
                  go_wp2_with fail
                  refine (raced_c _).mono ?_; rintro e w9 ⟨rfl, B9⟩
                  have hBB := (hD8.below B9).bel
                  go_wp2
                  go_ret
                  exact ⟨rfl, hBB⟩
                · as_aux_lemma =>
                  have ht : (E == 0) = false := beq_eq_false_iff_ne.2 h0
                  have ht2 : (E != 0) = true := by simpa using h0
                  have hT := hT'.out
                  have hL := hL'.out
                  rw [if_neg h0] at hT hL
                  subst hT
                  subst hL
                  clear hT' hL' h0
                  obtain rfl : n5 = 0 := by have := hO.len; simpa using this.symm
                  clear hH2
                  go_wp2_with fail
                  refine (raced_c _).mono ?_; rintro e w9 ⟨rfl, B9⟩
                  have hBB := (hD.below B9).bel
                  go_wp2
                  go_ret
                  exact ⟨rfl, hBB⟩
end Go.Proofs.YtcdoidhookghaaaDoor
