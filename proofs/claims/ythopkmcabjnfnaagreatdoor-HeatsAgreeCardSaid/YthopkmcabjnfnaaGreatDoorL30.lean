/- HeatsAgree: a pad that is official alone is official in its heat; a button is put right by the others alone: the walk. -/
import Derived.Test.YthopkmcabjnfnaaGreatDoorTouch8
import Derived.Test.YthopkmcabjnfnaaGreatDoorTouchL
import Derived.Test.YthopkmcabjnfnaaGreatDoorReady
import Derived.Test.YthopkmcabjnfnaaGreatDoorDraws
import Derived.Deep.RegionHeld3
namespace Go.Proofs.YthopkmcabjnfnaaGreatDoor
open Go.RowKit
set_option linter.unusedVariables false

theorem off_btn1 {x : Tc} (h : touchErr x = 0) (h2 : (offV x).by_ = 2) : 1 ≤ (offV x).time := by
  obtain ⟨p0, p1, q0, q1, _, _⟩ := touch_ok h
  unfold offV offW at *
  split at h2
  · cases h2
  · rename_i hg
    rw [if_neg hg]
    split at h2
    · rename_i hp
      rw [if_pos hp]
      exact hp
    · split at h2 <;> cases h2
theorem shift_no {l : List Tc} (h : shiftB l = false) : shiftV l = 0 := by
  unfold shiftB at h
  have h2 := of_decide_eq_false h
  unfold shiftV
  rw [if_pos (by omega)]
theorem heatL_at {l : List Tc} {k : Nat} {x : Tc} {y : Sm} (hx : l[k]? = some x) (hy : (heatL l)[k]? = some y) : y = fixS (shiftV l) (offV x) := by
  have h : (heatL l)[k]? = some (fixS (shiftV l) (offV x)) := by
    unfold heatL heatM
    rw [List.getElem?_map, hx]
    rfl
  rw [h] at hy
  exact (Option.some.inj hy).symm
structure K30 (w : World) (A : Option Addr) (n : Nat) (l : List Tc) (A9 : Option Addr) (HL : List Sm) (wx : World) : Prop where
  li : RTc wx A n l
  ht : RSm wx A9 n HL
  bel : Below w.heap.size w wx
theorem K30.below {w : World} {A : Option Addr} {n : Nat} {l : List Tc} {A9 : Option Addr} {HL : List Sm} {wx w' : World} (h : K30 w A n l A9 HL wx) (hb : Below wx.heap.size wx w') : K30 w A n l A9 HL w' := ⟨h.li.below hb, h.ht.below hb, below_next h.bel hb⟩
set_option maxHeartbeats 6400000 in
set_option maxRecDepth 100000 in
theorem heatsAgree_walk (a0 : Option Addr) (len0 cap0 : Nat) (z0 : List Int) (w : World) (w0 : IsRow .i64 w a0 len0 cap0 z0) :
    Calls Tryz.prog 3 #[.slice a0 len0 cap0] w fun e w' => e = .returned (.bool true) ∧ Below w.heap.size w w' := by
  have hs := law_start w0
  clear w0
  generalize z0.take len0 = zs at *
  go_enter Tryz.func3, Tryz.ntmps3
  go_wp2_with fail
  have hs' : St (w.alloc (.cells #[.slice a0 len0 cap0, .int .i64 0] 25)) w.heap.size zs 0 := hs
  refine (touchList_c _ zs 0 _ hs' (by omega)).mono ?_; rintro e w2 ⟨A, n, c, l, k2, rfl, hL, hn, s2, hk2, g2⟩
  have hB2 := (below_new w (.cells #[.slice a0 len0 cap0, .int .i64 0] 25)).trans (grown_below g2 (Nat.le_refl _) (by simp))
  clear hs hs' s2 g2
  have hF := Lib.hid (touchesFault_c A n c l w2 hL)
  by_cases h0 : heatErr l = 0
  · have hok := Lib.hid (heat_ok h0).2
    have hH := Lib.hid (fun W h => heatR_c A n c l W h h0)
    have hS := Lib.hid (fun W h => shiftE_c A n c l W h)
    have hO := Lib.hid (fun x W h h1 => official_c x W h h1)
    have hOE := Lib.hid (fun x W h => officialE_c x W h)
    have hOA := Lib.hid (fun x (h : touchErr x = 0) => show offA x = offV x by unfold offA; rw [if_pos h])
    have hsA : shiftA l = shiftV l := by unfold shiftA; rw [if_pos h0]
    have hsQ : shiftQ l = shiftB l := by unfold shiftQ; rw [if_pos h0]
    rw [hsA, hsQ, h0] at hS
    rw [h0] at hF
    obtain ⟨sb0, sb1⟩ := shift_bd h0
    have hAt := Lib.hid (fun k x y hx hy => heatL_at (l := l) (k := k) (x := x) (y := y) hx hy)
    have hno := Lib.hid (fun h => shift_no (l := l) h)
    clear hsA hsQ h0
    generalize heatL l = HL at *
    generalize shiftV l = S at *
    generalize shiftB l = SB at *
    go_wp2_with fail
    refine hF.out.mono ?_; rintro e w3 ⟨rfl, B3⟩
    have hL3 := hL.below B3
    have hB3 := below_next hB2 B3
    clear hL hB2 B3 hF
    go_wp2_with fail
    refine (hH.out _ hL3).mono ?_; rintro e w4 ⟨A9, c9, rfl, hH4, B4⟩
    have K : K30 w A n l A9 HL w4 := ⟨hL3.below B4, hH4, below_next hB3 B4⟩
    clear hL3 hB3 B4 hH4 hH
    go_wp2_with fail
    refine (hS.out _ K.li).mono ?_; rintro e w5 ⟨rfl, B5⟩
    replace K := K.below B5
    clear hS B5
    have hKl : ∀ wx, K30 w A n l A9 HL wx → RTc wx A n l := fun wx h => h.li
    have hKh : ∀ wx, K30 w A n l A9 HL wx → RSm wx A9 n HL := fun wx h => h.ht
    have hKB : ∀ wx, K30 w A n l A9 HL wx → Below w.heap.size w wx := fun wx h => h.bel
    have hKb : ∀ wx w', K30 w A n l A9 HL wx → Below wx.heap.size wx w' → K30 w A n l A9 HL w' := fun _ _ h hb => h.below hb
    generalize K30 w A n l A9 HL = KK at *
    go_wp2_with fail
    go_loopw [49] (fun i wr => ∃ k : Nat, k ≤ n ∧ i = .int .i64 k ∧ KK wr) (fun i _ => n - (intOf i).toNat)
    case atStart => exact ⟨0, Nat.zero_le _, rfl, K⟩
    case round =>
      clear K
      obtain ⟨k, hk, rfl, K⟩ := hrel
      by_cases hlt : k < n
      · obtain ⟨b, off, x, hA, hbl, hx, c0, c1, c2, hI⟩ := (hKl _ K).at3 hlt
        obtain ⟨b9, off9, y, hA9, hbl9, hy, d0, d1⟩ := (hKh _ K).atN hlt
        subst hA
        subst hA9
        have hx0 := hok.out x (List.mem_of_getElem? hx)
        have hyx := hAt.out k x y hx hy
        have hO1 := Lib.hid (fun W h => hOE.out x W h)
        rw [hOA.out x hx0, hx0] at hO1
        have ob := off_bd hx0
        have ob2 := off_btn1 hx0
        subst hyx
        generalize offV x = o at *
        obtain ⟨pad, btn, xA, xn, xc, ws⟩ := x
        obtain ⟨tm, by_⟩ := o
        dsimp only [Tc.val, Sm.val] at *
        have hI5 := hI.alloc (.cells #[.int .i64 pad, .int .i64 btn, .slice xA xn xc] 37)
        have K5 := hKb _ _ K (below_new wr (.cells #[.int .i64 pad, .int .i64 btn, .slice xA xn xc] 37))
        have z5 := (blk_facts (heap_alloc_new wr (.cells #[.int .i64 pad, .int .i64 btn, .slice xA xn xc] 37))).1
        have S5 : (wr.alloc (.cells #[.int .i64 pad, .int .i64 btn, .slice xA xn xc] 37)).heap.size = wr.heap.size + 1 := by simp
        clear hx hx0 hI
        go_wp2_with fail
        refine (hO1.out _ hI5).mono ?_; rintro e w6 ⟨rfl, B6⟩
        have K6 := hKb _ _ K5 B6
        have hb7 := heap_alloc_new w6 (.cells #[.int .i64 tm, .int .i64 by_] 39)
        have K7 := hKb _ _ K6 (below_new w6 (.cells #[.int .i64 tm, .int .i64 by_] 39))
        have y0 := (blk_facts hb7).1 0
        have y1 := (blk_facts hb7).1 1
        obtain ⟨b8, off8, y8, hA8, hbl8, hy8, d3, d4⟩ := (hKh _ K7).atN hlt
        injection hA8 with hA8
        injection hA8 with hA8 hA8o
        subst hA8
        subst hA8o
        rw [hy] at hy8
        obtain rfl := Option.some.inj hy8
        clear c0 c1 c2 d0 d1 hy hy8 hI5 B6 K5 K6 K z5 S5 hb7
        have e1 : IntKind.i64.wrap (tm - S) = tm - S := IntWalk.i64_in _ (by omega)
        by_cases hy : by_ = 2
        · subst hy
          have ob3 := ob2 rfl
          rw [fix2 rfl] at d3 d4
          cases SB
          · obtain rfl := hno.out rfl
            have e2 : min (max (tm - 0) 1) 360000 = tm := by omega
            rw [e2] at d3
            go_wp2_with fail
            go_quiet (fail)
            go_wp2_with fail
            go_quiet (fail)
            go_wp2
            go_roundw
            case rel => exact ⟨k + 1, by omega, by go_num, hKb _ _ K7 (below_drewN (Below.refl _ _) _)⟩
            case measure => simp [intOf]; omega
          · go_wp2_with fail
            go_quiet (fail)
            go_wp2_with fail
            go_quiet (fail)
            go_wp2
            go_roundw
            case rel => exact ⟨k + 1, by omega, by go_num, hKb _ _ K7 (below_drewN (Below.refl _ _) _)⟩
            case measure => simp [intOf]; omega
        · have hyb : (by_ == 2) = false := beq_eq_false_iff_ne.2 hy
          have hyc : (by_ != 2) = true := by simpa using hy
          rw [fix_no hy] at d3 d4
          go_wp2_with fail
          go_quiet (fail)
          go_wp2_with fail
          go_quiet (fail)
          go_wp2
          go_roundw
          case rel => exact ⟨k + 1, by omega, by go_num, hKb _ _ K7 (below_drewN (Below.refl _ _) _)⟩
          case measure => simp [intOf]; omega
      · obtain rfl : k = n := by omega
        go_wp2_with fail
        refine (ready_c _).mono ?_; rintro e w8 ⟨rfl, B8⟩
        have hBB := hKB _ (hKb _ _ K B8)
        go_wp2
        go_ret
        exact ⟨rfl, hBB⟩
  · have hd : (heatErr l != 0) = true := by simpa using h0
    generalize heatErr l = E at *
    clear h0
    go_wp2_with fail
    refine hF.out.mono ?_; rintro e w3 ⟨rfl, B3⟩
    have hB3 := below_next hB2 B3
    clear hB2 B3 hF hL
    go_wp2_with fail
    refine (ready_c _).mono ?_; rintro e w4 ⟨rfl, B4⟩
    have hBB := below_next hB3 B4
    go_wp2
    go_ret
    exact ⟨rfl, hBB⟩
end Go.Proofs.YthopkmcabjnfnaaGreatDoor
