/- TouchesOfficial: CheckTouch, Watched, Official, Shift and Heat answer as the reference says: the walk. -/
import Derived.Test.YtcdoidhookghaaaDoorTouch8
import Derived.Test.YtcdoidhookghaaaDoorTouchL
import Derived.Test.YtcdoidhookghaaaDoorClock
import Derived.Test.YtcdoidhookghaaaDoorLawBase
import Derived.Test.YtcdoidhookghaaaDoorRows2
import Derived.Deep.DeepCutAuto
import Derived.Deep.RegionHeld3
import Derived.Deep.QuietTactic
import Derived.BigQuiet
namespace Go.Proofs.YtcdoidhookghaaaDoor
open Go.RowKit
set_option linter.unusedVariables false

structure KT (w : World) (b : Nat) (x : Tc) (A : Option Addr) (n : Nat) (l : List Tc) (wx : World) : Prop where
  rc : wx.heap[b]? = some (.cells x.cells 58 (0, 0))
  ws : RI 3 wx x.A x.n x.ws
  li : RTc wx A n l
  bel : Below w.heap.size w wx
theorem KT.below {w : World} {b : Nat} {x : Tc} {A : Option Addr} {n : Nat} {l : List Tc} {wx w' : World} (h : KT w b x A n l wx) (B : Below wx.heap.size wx w') : KT w b x A n l w' := ⟨blk_below h.rc B, h.ws.below B, h.li.below B, below_next h.bel B⟩
theorem equalSm_same (A1 A2 : Option Addr) (n c m d : Nat) (l : List Sm) (w : World) (h1 : RSm w A1 n l) (h2 : RSm w A2 m l) :
    Calls Tryd.prog 41 #[.slice A1 n c, .slice A2 m d] w fun e w' => e = .returned (.bool true) ∧ Below w.heap.size w w' := by
  refine (equalSm_c A1 A2 n c m d l l w h1 h2).mono ?_
  rintro e w' ⟨rfl, q, rfl⟩
  exact ⟨by simp, below_drewN (Below.refl _ _) q⟩
theorem watch_sign {l : List Int} (h : watchErr l = 0) {n : Nat} (hn : l.length = n) : watchQ l = decide (0 < watchA l) := by
  obtain ⟨_, hb⟩ := watchErr_ok h
  unfold watchQ watchA
  rw [if_pos h, if_pos h, decide_eq_decide]
  constructor
  · intro hl; have := watch_pos hb hl; omega
  · intro hv
    rcases Nat.eq_zero_or_pos l.length with h0 | h0
    · have : watchV l = 0 := by unfold watchV; rw [if_pos h0]
      omega
    · exact h0
set_option maxHeartbeats 6400000 in
set_option maxRecDepth 100000 in
theorem touchesOfficial_walk (a0 : Option Addr) (len0 cap0 : Nat) (z0 : List Int) (w : World) (w0 : IsRow .i64 w a0 len0 cap0 z0) :
    Calls Tryd.prog 4 #[.slice a0 len0 cap0] w fun e w' => e = .returned (.bool true) ∧ Below w.heap.size w w' := by
  have hs := law_start w0
  clear w0
  generalize z0.take len0 = zs at *
  go_enter Tryd.func4, Tryd.ntmps4
  go_wp2_with fail
  have hs' : St (w.alloc (.cells #[.slice a0 len0 cap0, .int .i64 0] 25)) w.heap.size zs 0 := hs
  refine (touchOf_c _ zs 0 _ hs' (by omega)).mono ?_; rintro e w1 ⟨x, k1, rfl, hr, hxn, s1, hk1, g1⟩
  have hB : Below w.heap.size w w1 := (below_new w _).trans (grown_below g1 (Nat.le_refl _) (by simp))
  clear hs hs' g1
  go_wp2_with fail
  refine (touchList_c _ zs k1 _ s1 (by omega)).mono ?_; rintro e w2 ⟨A, n, c, l, k2, rfl, hL, hn, s2, hk2, g2⟩
  have hr2 := hr.keep (T := 25) (by decide) (s1.keep g2)
  have hB2 := hB.trans (grown_below g2 (Nat.le_refl _) hB.size)
  have K : KT w w2.heap.size x A n l (w2.alloc (.cells x.cells 58)) := ⟨heap_alloc_new w2 _, hr2.alloc _, hL.alloc _, hB2.alloc hB2.size _⟩
  clear s1 s2 g2 hr hr2 hB hB2 hL
  generalize hb4 : w2.heap.size = b4 at *
  have hTf := Lib.hid (fun W h => touchFault_c x W h)
  have hCt := Lib.hid (fun W h => checkTouch_c x W h)
  have hWa := Lib.hid (fun W h => watchedE_c x.A x.n x.c x.ws W h)
  have hWf := Lib.hid (fun W h => watchesFault_c x.A x.n x.c x.ws W h)
  have hWo := Lib.hid (fun W h (h0 : watchErr x.ws = 0) => watchedOf_c x.A x.n x.c x.ws W h (by have := h.len; have := (watchErr_ok h0).1; omega) (watchErr_ok h0).2)
  have hOf := Lib.hid (fun W h => officialE_c x W h)
  have hOo := Lib.hid (fun W h (h0 : touchErr x = 0) => officialOf_c x W h h0)
  have hSh := Lib.hid (fun W h => shiftE_c A n c l W h)
  have hHe := Lib.hid (fun W h => heat_c A n c l W h)
  have hTs := Lib.hid (fun W h => touchesFault_c A n c l W h)
  have hSo := Lib.hid (fun W h h0 => shiftOf_c A n c l W h h0)
  have hHt := Lib.hid (fun W h h0 => heatTimes_c A n c l W h h0)
  have hW1 := Lib.hid (fun (h : watchErr x.ws = 0) => show watchA x.ws = watchV x.ws by unfold watchA; rw [if_pos h])
  have hW2 := Lib.hid (fun (h : watchErr x.ws ≠ 0) => And.intro (show watchA x.ws = 0 by unfold watchA; rw [if_neg h]) (show watchQ x.ws = false by unfold watchQ; rw [if_neg h]))
  have hW3 := Lib.hid (fun (h : watchErr x.ws = 0) => watch_sign h rfl)
  have hO1 := Lib.hid (fun (h : touchErr x = 0) => show offA x = offV x by unfold offA; rw [if_pos h])
  have hO2 := Lib.hid (fun (h : touchErr x ≠ 0) => show offA x = ⟨0, 0⟩ by unfold offA; rw [if_neg h])
  have hS1 := Lib.hid (fun (h : heatErr l = 0) => And.intro (show shiftA l = shiftV l by unfold shiftA; rw [if_pos h]) (And.intro (show shiftQ l = shiftB l by unfold shiftQ; rw [if_pos h]) (And.intro (show heatA l = heatL l by unfold heatA; rw [if_pos h]) (show heatN l = l.length by unfold heatN; rw [if_pos h]))))
  have hS2 := Lib.hid (fun (h : heatErr l ≠ 0) => And.intro (show shiftA l = 0 by unfold shiftA; rw [if_neg h]) (And.intro (show shiftQ l = false by unfold shiftQ; rw [if_neg h]) (show heatN l = 0 by unfold heatN; rw [if_neg h])))
  have hKr : ∀ wx, KT w b4 x A n l wx → wx.heap[b4]? = some (.cells x.cells 58 (0, 0)) := fun wx h => h.rc
  have hKw : ∀ wx, KT w b4 x A n l wx → RI 3 wx x.A x.n x.ws := fun wx h => h.ws
  have hKl : ∀ wx, KT w b4 x A n l wx → RTc wx A n l := fun wx h => h.li
  have hKB : ∀ wx, KT w b4 x A n l wx → Below w.heap.size w wx := fun wx h => h.bel
  have hKb : ∀ wx w', KT w b4 x A n l wx → Below wx.heap.size wx w' → KT w b4 x A n l w' := fun _ _ h hb => h.below hb
  generalize KT w b4 x A n l = KK at *
  generalize offA x = OA at *
  generalize offV x = OV at *
  generalize touchErr x = E at *
  generalize watchA x.ws = WA at *
  generalize watchQ x.ws = WQ at *
  generalize watchErr x.ws = WE at *
  generalize watchV x.ws = WV at *
  generalize shiftA l = SA at *
  generalize shiftQ l = SQ at *
  generalize shiftV l = SV at *
  generalize shiftB l = SB at *
  generalize heatA l = HA at *
  generalize heatN l = HN at *
  generalize heatL l = HL at *
  generalize heatErr l = HE at *
  obtain ⟨pad, btn, xA, xn, xc, ws⟩ := x
  dsimp only [Tc.val, Tc.cells] at *
  have zc := (blk_facts (hKr _ K)).1
  go_wp2_with fail
  refine (hTf.out _ (hKw _ K)).mono ?_; rintro e w3 ⟨rfl, B3⟩
  replace K := hKb _ _ K B3
  clear zc B3 hTf
  have zc := (blk_facts (hKr _ K)).1
  go_wp2_with fail
  refine (hCt.out _ (hKw _ K)).mono ?_; rintro e w4 ⟨rfl, B4⟩
  replace K := hKb _ _ K B4
  clear zc B4 hCt
  have zc := (blk_facts (hKr _ K)).1
  go_wp2_with fail
  refine (hWa.out _ (hKw _ K)).mono ?_; rintro e w5 ⟨rfl, B5⟩
  replace K := hKb _ _ K B5
  clear zc B5 hWa
  have zc := (blk_facts (hKr _ K)).1
  go_wp2_with fail
  refine (hWf.out _ (hKw _ K)).mono ?_; rintro e w' ⟨rfl, rfl⟩
  clear hWf
  go_upto_if 43 with (fail)
  go_cut [] (fun wx => KK wx)
  case first =>
    clear hOf hOo hSh hHe hTs hSo hHt hO1 hO2 hS1 hS2
    by_cases h0 : WE = 0
    · have h0' := Lib.hid h0
      have hd : (WE != 0) = false := by simp [h0]
      obtain rfl := hW1.out h0
      have hq := hW3.out h0
      clear h0 hW1 hW2 hW3
      subst hq
      go_wp2_with fail
      refine (hWo.out _ (hKw _ K) h0'.out).mono ?_; rintro e w6 ⟨rfl, B6⟩
      have K6 := hKb _ _ K B6
      clear zc K B6
      go_wp2
      go_meet
      case rel => exact K6
    · obtain ⟨rfl, rfl⟩ := hW2.out h0
      have hd : (WE != 0) = true := by simpa using h0
      clear h0
      go_wp2
      go_meet
      case rel => exact K
  case rest =>
    clear K zc hWo hW1 hW2 hW3
    rename World => wx
    have K := hcut
    clear hcut
    have zc := (blk_facts (hKr _ K)).1
    go_wp2_with fail
    refine (hOf.out _ (hKw _ K)).mono ?_; rintro e w6 ⟨rfl, B6⟩
    replace K := hKb _ _ K B6
    clear zc B6 hOf
    obtain ⟨tm, by_⟩ := OA
    dsimp only [Sm.val] at *
    have hb7 := heap_alloc_new w6 (.cells #[.int .i64 tm, .int .i64 by_] 68)
    replace K := hKb _ _ K (below_new w6 (.cells #[.int .i64 tm, .int .i64 by_] 68))
    go_upto_region 14 with (fail)
    go_cut [95] (fun s95 wx => s95 = .bool false ∧ KK wx)
    case first =>
      have hbr := hKr _ K
      have hw := hKw _ K
      have zb := (blk_facts hb7).1
      have y0 := zb 0
      have y1 := zb 1
      have zc := (blk_facts hbr).1
      have z0 := zc 0
      have z1 := zc 1
      have z2 := zc 2
      have lb4 := lt_of_heap hbr
      have lb7 := lt_of_heap hb7
      clear zb zc hSh hHe hTs hSo hHt hS1 hS2
      generalize w6.heap.size = b7 at *
      by_cases h0 : E = 0
      · have hov := hO1.out h0
        subst hov
        have hOo' := Lib.hid (fun W h => hOo.out W h h0)
        clear hO1 hO2 hOo
        subst h0
        dsimp only [Sm.val] at *
        have K' := Lib.hid K
        clear K
        go_wp2_with fail
        --R14
        refine wp_region_inv (by kernel_rfl) (fun listed a w' => ∃ xs : Nat → Value, a = { tmps := #[Value.slice a0 len0 cap0, undef, u2, Value.pointer (some { block := w.heap.size, off := 0 }), Value.pointer (some { block := b4, off := 0 }), Value.slice A n c, Value.int IntKind.i64 0, Value.int IntKind.i64 WA, Value.bool WQ, Value.int IntKind.i64 0, Value.int IntKind.i64 WE, Value.pointer (some { block := b7, off := 0 }), undef, undef, undef, undef, undef, undef, undef, u19, u20, u21, u22, u23, u24, u25, u26, u27, u28, u29, u30, u31, u32, u33, u34, u35, u36, u37, u38, u39, u40, u41, u42, u43, u44, u45, u46, u47, u48, u49, u50, u51, u52, u53, u54, u55, u56, u57, u58, u59, u60, u61, u62, u63, u64, u65, u66, u67, u68, Value.tuple #[Value.agg #[Value.int IntKind.i64 tm, Value.int IntKind.i64 by_], Value.int IntKind.i64 0], Value.agg #[Value.int IntKind.i64 pad, Value.int IntKind.i64 btn, Value.slice xA xn xc], Value.tuple #[Value.agg #[Value.int IntKind.i64 tm, Value.int IntKind.i64 by_], Value.int IntKind.i64 0], Value.agg #[Value.int IntKind.i64 tm, Value.int IntKind.i64 by_], Value.int IntKind.i64 0, xs 0, xs 1, xs 2, xs 3, xs 4, xs 5, xs 6, xs 7, xs 8, xs 9, xs 10, xs 11, xs 12, xs 13, xs 14, xs 15, xs 16, xs 17, xs 18, xs 19, xs 20, xs 21, u96, u97, u98, u99, u100, u101, u102, u103, u104, u105, u106, u107, u108, u109, u110, u111, u112, u113, u114, u115, u116, u117, u118, u119, u120, u121, u122, u123, u124, u125, u126, u127, u128, u129, u130, u131, u132, u133, u134, u135, u136, u137, u138, u139, u140, u141, u142, u143, u144, u145, u146, u147, u148, u149, u150, u151, u152, u153, u154, u155, u156, u157, u158, u159, u160, u161, u162, u163, u164], defers := [] } ∧ (∀ j, listed.getD j false = true → CV [some (.int .i64 0), some (.int .i64 0), some (.bool false), some (.bool false), some (.int .i64 0), some (.bool true), some (.bool true), some (.agg #[.int .i64 tm, .int .i64 by_]), some (.agg #[.int .i64 pad, .int .i64 btn, .slice xA xn xc]), some (.agg #[.int .i64 tm, .int .i64 by_]), some (.bool false), some (.bool false), some (.bool false), some (.bool false), some (.int .i64 0), some (.bool false), some (.bool false), none, none, none, some (.bool false), some (.bool false)] j w' (xs j)) ∧ KK w' ∧ w'.heap[b7]? = some (.cells #[.int .i64 tm, .int .i64 by_] 68 (0, 0))) ?h0 (AllOps.of ?hs) ?he
        case h0 => exact ⟨fun j => match j with | 0 => u74 | 1 => u75 | 2 => u76 | 3 => u77 | 4 => u78 | 5 => u79 | 6 => u80 | 7 => u81 | 8 => u82 | 9 => u83 | 10 => u84 | 11 => u85 | 12 => u86 | 13 => u87 | 14 => u88 | 15 => u89 | 16 => u90 | 17 => u91 | 18 => u92 | 19 => u93 | 20 => u94 | 21 => u95 | _ => undef, rfl, (fun j hj => by rw [rep_false] at hj; cases hj), hKb _ _ K'.out (below_drewN (Below.refl _ _) 1), hb7⟩
        case hs =>
          refine ⟨?_, ?_, ?_, ?_, ?_, ?_, ?_, ?_, ?_, ?_, ?_, ?_, ?_, ?_, ?_, ?_, ?_, ?_, ?_, ?_, ?_, ?_, trivial⟩
          · intro listed a w' hs hI h0 hd K2 hK
            obtain ⟨xs, rfl, hC, hK0, hb0⟩ := hI
            have hK2 := Lib.hid hK
            have hC2 := Lib.hid hC
            clear hd hK hC h0
            go_simp
            exact hK2.out _ _ ⟨updV xs 0 (.int .i64 0), by simp [updV], cond_set hC2.out (fun _ _ h => h) (CV.of rfl rfl), hK0, hb0⟩
          · intro listed a w' hs hI h0 hd K2 hK
            obtain ⟨xs, rfl, hC, hK0, hb0⟩ := hI
            have hK2 := Lib.hid hK
            have hC2 := Lib.hid hC
            clear hd hK hC h0
            go_simp
            exact hK2.out _ _ ⟨updV xs 1 (.int .i64 0), by simp [updV], cond_set hC2.out (fun _ _ h => h) (CV.of rfl rfl), hK0, hb0⟩
          · intro listed a w' hs hI h0 hd K2 hK
            obtain ⟨xs, rfl, hC, hK0, hb0⟩ := hI
            have e0 : xs 0 = .int .i64 0 := (hC 0 (hd ⟨0, .data⟩ (by simp) rfl)) _ rfl
            have e1 : xs 1 = .int .i64 0 := (hC 1 (hd ⟨1, .data⟩ (by simp) rfl)) _ rfl
            have hK2 := Lib.hid hK
            have hC2 := Lib.hid hC
            clear hd hK hC h0
            go_simp
            exact hK2.out _ _ ⟨updV xs 2 (.bool false), by simp [updV, e0, e1], cond_set hC2.out (fun _ _ h => h) (CV.of rfl rfl), hK0, hb0⟩
          · intro listed a w' hs hI h0 hd K2 hK
            obtain ⟨xs, rfl, hC, hK0, hb0⟩ := hI
            have e2 : xs 2 = .bool false := (hC 2 (hd ⟨2, .data⟩ (by simp) rfl)) _ rfl
            have hK2 := Lib.hid hK
            have hC2 := Lib.hid hC
            clear hd hK hC h0
            go_simp
            exact hK2.out _ _ ⟨updV xs 3 (.bool false), by simp [updV, e2], cond_set hC2.out (fun _ _ h => h) (CV.of rfl rfl), hK0, hb0⟩
          · intro listed a w' hs hI h0 hd K2 hK
            obtain ⟨xs, rfl, hC, hK0, hb0⟩ := hI
            have e3 : xs 3 = .bool false := (hC 3 (hd ⟨3, .guard⟩ (by simp) rfl)) _ rfl
            have hK2 := Lib.hid hK
            have hC2 := Lib.hid hC
            clear hd hK hC h0
            go_simp
            exact hK2.out _ _ ⟨updV xs 4 (.int .i64 0), by simp [updV, e3], cond_set hC2.out (fun _ _ h => h) (CV.of rfl rfl), hK0, hb0⟩
          · intro listed a w' hs hI h0 hd K2 hK
            obtain ⟨xs, rfl, hC, hK0, hb0⟩ := hI
            have e3 : xs 3 = .bool false := (hC 3 (hd ⟨3, .guard⟩ (by simp) rfl)) _ rfl
            have e4 : xs 4 = .int .i64 0 := (hC 4 (hd ⟨4, .data⟩ (by simp) rfl)) _ rfl
            have hK2 := Lib.hid hK
            have hC2 := Lib.hid hC
            clear hd hK hC h0
            go_simp
            exact hK2.out _ _ ⟨updV xs 5 (.bool true), by simp [updV, e3, e4], cond_set hC2.out (fun _ _ h => h) (CV.of rfl rfl), hK0, hb0⟩
          · intro listed a w' hs hI h0 hd K2 hK
            obtain ⟨xs, rfl, hC, hK0, hb0⟩ := hI
            have e3 : xs 3 = .bool false := (hC 3 (hd ⟨3, .guard⟩ (by simp) rfl)) _ rfl
            have e5 : xs 5 = .bool true := (hC 5 (hd ⟨5, .data⟩ (by simp) rfl)) _ rfl
            have hK2 := Lib.hid hK
            have hC2 := Lib.hid hC
            clear hd hK hC h0
            go_simp
            exact hK2.out _ _ ⟨updV xs 6 (.bool true), by simp [updV, e3, e5], cond_set hC2.out (fun _ _ h => h) (CV.of rfl rfl), hK0, hb0⟩
          · intro listed a w' hs hI h0 hd K2 hK
            obtain ⟨xs, rfl, hC, hK0, hb0⟩ := hI
            have e6 : xs 6 = .bool true := (hC 6 (hd ⟨6, .guard⟩ (by simp) rfl)) _ rfl
            have hK2 := Lib.hid hK
            have hC2 := Lib.hid hC
            have y0 := (blk_facts hb0).1 0
            have y1 := (blk_facts hb0).1 1
            clear hd hK hC h0
            go_simp
            exact hK2.out _ _ ⟨updV xs 7 (.agg #[.int .i64 tm, .int .i64 by_]), by simp [updV, e6], cond_set hC2.out (fun _ _ h => h) (CV.of rfl rfl), hK0, hb0⟩
          · intro listed a w' hs hI h0 hd K2 hK
            obtain ⟨xs, rfl, hC, hK0, hb0⟩ := hI
            have e6 : xs 6 = .bool true := (hC 6 (hd ⟨6, .guard⟩ (by simp) rfl)) _ rfl
            have hK2 := Lib.hid hK
            have hC2 := Lib.hid hC
            have hbr0 := hKr _ hK0
            have y0 := (blk_facts hbr0).1 0
            have y1 := (blk_facts hbr0).1 1
            have y2 := (blk_facts hbr0).1 2
            clear hd hK hC h0
            go_simp
            exact hK2.out _ _ ⟨updV xs 8 (.agg #[.int .i64 pad, .int .i64 btn, .slice xA xn xc]), by simp [updV, e6], cond_set hC2.out (fun _ _ h => h) (CV.of rfl rfl), hK0, hb0⟩
          · intro listed a w' hs hI h0 hd K2 hK
            obtain ⟨xs, rfl, hC, hK0, hb0⟩ := hI
            have e6 : xs 6 = .bool true := (hC 6 (hd ⟨6, .guard⟩ (by simp) rfl)) _ rfl
            have e8 : xs 8 = .agg #[.int .i64 pad, .int .i64 btn, .slice xA xn xc] := (hC 8 (hd ⟨8, .data⟩ (by simp) rfl)) _ rfl
            have hK2 := Lib.hid hK
            have hC2 := Lib.hid hC
            clear hd hK hC h0
            go_simp
            refine (hOo'.out _ (hKw _ hK0)).mono ?_; rintro e w14 ⟨rfl, B14⟩
            exact hK2.out _ _ ⟨updV xs 9 (.agg #[.int .i64 tm, .int .i64 by_]), by simp [updV, e6, e8], cond_set hC2.out (fun _ _ h => h) (CV.of rfl rfl), hKb _ _ hK0 B14, blk_below hb0 B14⟩
          · intro listed a w' hs hI h0 hd K2 hK
            obtain ⟨xs, rfl, hC, hK0, hb0⟩ := hI
            have e6 : xs 6 = .bool true := (hC 6 (hd ⟨6, .guard⟩ (by simp) rfl)) _ rfl
            have e7 : xs 7 = .agg #[.int .i64 tm, .int .i64 by_] := (hC 7 (hd ⟨7, .data⟩ (by simp) rfl)) _ rfl
            have e9 : xs 9 = .agg #[.int .i64 tm, .int .i64 by_] := (hC 9 (hd ⟨9, .data⟩ (by simp) rfl)) _ rfl
            have hK2 := Lib.hid hK
            have hC2 := Lib.hid hC
            clear hd hK hC h0
            go_simp
            exact hK2.out _ _ ⟨updV xs 10 (.bool false), by simp [updV, e6, e7, e9], cond_set hC2.out (fun _ _ h => h) (CV.of rfl rfl), hK0, hb0⟩
          · intro listed a w' hs hI h0 hd K2 hK
            obtain ⟨xs, rfl, hC, hK0, hb0⟩ := hI
            have e3 : xs 3 = .bool false := (hC 3 (hd ⟨3, .guard⟩ (by simp) rfl)) _ rfl
            have e6 : xs 6 = .bool true := (hC 6 (hd ⟨6, .data⟩ (by simp) rfl)) _ rfl
            have e10 : xs 10 = .bool false := (hC 10 (hd ⟨10, .data⟩ (by simp) rfl)) _ rfl
            have hK2 := Lib.hid hK
            have hC2 := Lib.hid hC
            clear hd hK hC h0
            go_simp
            exact hK2.out _ _ ⟨updV xs 11 (.bool false), by simp [updV, e3, e6, e10], cond_set hC2.out (fun _ _ h => h) (CV.of rfl rfl), hK0, hb0⟩
          · intro listed a w' hs hI h0 hd K2 hK
            obtain ⟨xs, rfl, hC, hK0, hb0⟩ := hI
            have e3 : xs 3 = .bool false := (hC 3 (hd ⟨3, .data⟩ (by simp) rfl)) _ rfl
            have e11 : xs 11 = .bool false := (hC 11 (hd ⟨11, .data⟩ (by simp) rfl)) _ rfl
            have hK2 := Lib.hid hK
            have hC2 := Lib.hid hC
            clear hd hK hC h0
            go_simp
            exact hK2.out _ _ ⟨updV xs 12 (.bool false), by simp [updV, e3, e11], cond_set hC2.out (fun _ _ h => h) (CV.of rfl rfl), hK0, hb0⟩
          · intro listed a w' hs hI h0 hd K2 hK
            obtain ⟨xs, rfl, hC, hK0, hb0⟩ := hI
            have e12 : xs 12 = .bool false := (hC 12 (hd ⟨12, .data⟩ (by simp) rfl)) _ rfl
            have hK2 := Lib.hid hK
            have hC2 := Lib.hid hC
            clear hd hK hC h0
            go_simp
            exact hK2.out _ _ ⟨updV xs 13 (.bool false), by simp [updV, e12], cond_set hC2.out (fun _ _ h => h) (CV.of rfl rfl), hK0, hb0⟩
          · intro listed a w' hs hI h0 hd K2 hK
            obtain ⟨xs, rfl, hC, hK0, hb0⟩ := hI
            have e13 : xs 13 = .bool false := (hC 13 (hd ⟨13, .guard⟩ (by simp) rfl)) _ rfl
            have hK2 := Lib.hid hK
            have hC2 := Lib.hid hC
            clear hd hK hC h0
            go_simp
            exact hK2.out _ _ ⟨updV xs 14 (.int .i64 0), by simp [updV, e13], cond_set hC2.out (fun _ _ h => h) (CV.of rfl rfl), hK0, hb0⟩
          · intro listed a w' hs hI h0 hd K2 hK
            obtain ⟨xs, rfl, hC, hK0, hb0⟩ := hI
            have e13 : xs 13 = .bool false := (hC 13 (hd ⟨13, .guard⟩ (by simp) rfl)) _ rfl
            have e14 : xs 14 = .int .i64 0 := (hC 14 (hd ⟨14, .data⟩ (by simp) rfl)) _ rfl
            have hK2 := Lib.hid hK
            have hC2 := Lib.hid hC
            clear hd hK hC h0
            go_simp
            exact hK2.out _ _ ⟨updV xs 15 (.bool false), by simp [updV, e13, e14], cond_set hC2.out (fun _ _ h => h) (CV.of rfl rfl), hK0, hb0⟩
          · intro listed a w' hs hI h0 hd K2 hK
            obtain ⟨xs, rfl, hC, hK0, hb0⟩ := hI
            have e13 : xs 13 = .bool false := (hC 13 (hd ⟨13, .guard⟩ (by simp) rfl)) _ rfl
            have e15 : xs 15 = .bool false := (hC 15 (hd ⟨15, .data⟩ (by simp) rfl)) _ rfl
            have hK2 := Lib.hid hK
            have hC2 := Lib.hid hC
            clear hd hK hC h0
            go_simp
            exact hK2.out _ _ ⟨updV xs 16 (.bool false), by simp [updV, e13, e15], cond_set hC2.out (fun _ _ h => h) (CV.of rfl rfl), hK0, hb0⟩
          · intro listed a w' hs hI h0 hd K2 hK
            obtain ⟨xs, rfl, hC, hK0, hb0⟩ := hI
            have e16 : xs 16 = .bool false := (hC 16 (hd ⟨16, .guard⟩ (by simp) rfl)) _ rfl
            have hK2 := Lib.hid hK
            have hC2 := Lib.hid hC
            have y0 := (blk_facts hb0).1 0
            have y1 := (blk_facts hb0).1 1
            clear hd hK hC h0
            go_simp
            exact hK2.out _ _ ⟨updV xs 17 (undef), by simp [updV, e16], cond_set hC2.out (fun _ _ h => h) (CV.free rfl), hK0, hb0⟩
          · intro listed a w' hs hI h0 hd K2 hK
            obtain ⟨xs, rfl, hC, hK0, hb0⟩ := hI
            have e16 : xs 16 = .bool false := (hC 16 (hd ⟨16, .guard⟩ (by simp) rfl)) _ rfl
            have hK2 := Lib.hid hK
            have hC2 := Lib.hid hC
            clear hd hK hC h0
            go_simp
            exact hK2.out _ _ ⟨updV xs 18 (undef), by simp [updV, e16], cond_set hC2.out (fun _ _ h => h) (CV.free rfl), hK0, hb0⟩
          · intro listed a w' hs hI h0 hd K2 hK
            obtain ⟨xs, rfl, hC, hK0, hb0⟩ := hI
            have e16 : xs 16 = .bool false := (hC 16 (hd ⟨16, .guard⟩ (by simp) rfl)) _ rfl
            have hK2 := Lib.hid hK
            have hC2 := Lib.hid hC
            clear hd hK hC h0
            go_simp
            exact hK2.out _ _ ⟨updV xs 19 (undef), by simp [updV, e16], cond_set hC2.out (fun _ _ h => h) (CV.free rfl), hK0, hb0⟩
          · intro listed a w' hs hI h0 hd K2 hK
            obtain ⟨xs, rfl, hC, hK0, hb0⟩ := hI
            have e13 : xs 13 = .bool false := (hC 13 (hd ⟨13, .guard⟩ (by simp) rfl)) _ rfl
            have e16 : xs 16 = .bool false := (hC 16 (hd ⟨16, .data⟩ (by simp) rfl)) _ rfl
            have hK2 := Lib.hid hK
            have hC2 := Lib.hid hC
            clear hd hK hC h0
            go_simp
            exact hK2.out _ _ ⟨updV xs 20 (.bool false), by simp [updV, e13, e16], cond_set hC2.out (fun _ _ h => h) (CV.of rfl rfl), hK0, hb0⟩
          · intro listed a w' hs hI h0 hd K2 hK
            obtain ⟨xs, rfl, hC, hK0, hb0⟩ := hI
            have e13 : xs 13 = .bool false := (hC 13 (hd ⟨13, .data⟩ (by simp) rfl)) _ rfl
            have e20 : xs 20 = .bool false := (hC 20 (hd ⟨20, .data⟩ (by simp) rfl)) _ rfl
            have hK2 := Lib.hid hK
            have hC2 := Lib.hid hC
            clear hd hK hC h0
            go_simp
            exact hK2.out _ _ ⟨updV xs 21 (.bool false), by simp [updV, e13, e20], cond_set hC2.out (fun _ _ h => h) (CV.of rfl rfl), hK0, hb0⟩
        case he =>
          intro listed a w' hs hI hr
          obtain ⟨xs, rfl, hC, hK0, hb0⟩ := hI
          have e21 : xs 21 = .bool false := (hC 21 (all_listed hs hr ⟨rfl, rfl, rfl, rfl, rfl, rfl, rfl, rfl, rfl, rfl, rfl, rfl, rfl, rfl, rfl, rfl, rfl, rfl, rfl, rfl, rfl, rfl, trivial⟩ 21 (by simp))) _ rfl
          clear hC hs hr
          go_wp2
          go_meet
          case rel => exact ⟨e21, hK0⟩
        --R14 end
      · have hd : (E != 0) = true := by simpa using h0
        have hd2 : (E == 0) = false := beq_eq_false_iff_ne.2 h0
        have hov := hO2.out h0
        injection hov with t1 t2
        subst t1
        subst t2
        clear h0 hO1 hO2 hOo
        go_wp2_with fail
        go_quiet (fail)
        have K1 := hKb _ _ K (below_drewN (Below.refl _ _) nq)
        go_wp2
        go_meet
        case rel => exact ⟨by simp, K1⟩
    case rest =>
      clear K hb7
      rename World => wy
      obtain ⟨rfl, K⟩ := hcut
      go_wp2_with fail
      refine (hSh.out _ (hKl _ K)).mono ?_; rintro e w8 ⟨rfl, B8⟩
      replace K := hKb _ _ K B8
      clear B8 hSh
      go_wp2_with fail
      refine (hHe.out _ (hKl _ K)).mono ?_; rintro e w9 ⟨A9, c9, rfl, hH, B9⟩
      replace K := hKb _ _ K B9
      clear B9 hHe
      go_wp2_with fail
      refine (hTs.out _ (hKl _ K)).mono ?_; rintro e w10 ⟨rfl, B10⟩
      replace K := hKb _ _ K B10
      replace hH := hH.below B10
      clear B10 hTs
      by_cases h0 : HE = 0
      · have h0' := Lib.hid h0
        have hd : (HE != 0) = false := by simp [h0]
        have hd2 : (HE == 0) = true := by simp [h0]
        obtain ⟨rfl, rfl, rfl, rfl⟩ := hS1.out h0
        clear h0 hS1 hS2
        go_wp2_with fail
        refine (hSo.out _ (hKl _ K) h0'.out).mono ?_; rintro e w11 ⟨rfl, B11⟩
        replace K := hKb _ _ K B11
        replace hH := hH.below B11
        clear B11 hSo
        go_wp2_with fail
        refine (hHt.out _ (hKl _ K) h0'.out).mono ?_; rintro e w12 ⟨A12, c12, rfl, hT, B12⟩
        replace K := hKb _ _ K B12
        replace hH := hH.below B12
        clear B12 hHt
        go_wp2_with fail
        refine (equalSm_same _ _ _ _ _ _ _ _ hH hT).mono ?_; rintro e w13 ⟨rfl, B13⟩
        replace K := hKb _ _ K B13
        clear B13 hH hT
        go_wp2_with fail
        refine (clocked_c _).mono ?_; rintro e w14 ⟨rfl, B14⟩
        have hBB := hKB _ (hKb _ _ K B14)
        go_wp2
        go_ret
        exact ⟨rfl, hBB⟩
      · obtain ⟨rfl, rfl, rfl⟩ := hS2.out h0
        have hd : (HE != 0) = true := by simpa using h0
        clear h0
        go_wp2_with fail
        refine (clocked_c _).mono ?_; rintro e w14 ⟨rfl, B14⟩
        have hBB := hKB _ (hKb _ _ K B14)
        go_wp2
        go_ret
        exact ⟨rfl, hBB⟩
end Go.Proofs.YtcdoidhookghaaaDoor
