/- TimesStay: touches and splits that are handed in stay; what is made of them is new memory: the walk. Printed by wip/mkl38.py (heat and fill with rows of their own out of Touch7 and FillP). -/
import Derived.Test.YtklggnglaeagpaaGreatDoorQTouL
import Derived.Test.YtklggnglaeagpaaGreatDoorQTouch8
import Derived.Test.YtklggnglaeagpaaGreatDoorQPlain10
import Derived.Test.YtklggnglaeagpaaGreatDoorQSums9
import Derived.Test.YtklggnglaeagpaaGreatDoorQReady
import Derived.Deep.DeepCutAuto
import Derived.Deep.RegionHeld3
namespace Go.Proofs.YtklggnglaeagpaaGreatDoor
open Go.RowKit
set_option linter.unusedVariables false

set_option maxHeartbeats 3200000 in
set_option maxRecDepth 100000 in
theorem heatRO_c (A : Option Addr) (n c : Nat) (l : List Tc) (w : World) (h : RTc w A n l) (h0 : heatErr l = 0) :
    Calls Tryz.prog 32 #[.slice A n c] w fun e w' => ∃ A' c', e = .returned (.tuple #[.slice A' n c', .int .i64 0]) ∧ w'.ownsRow w.heap.size 63 2 (.slice A' n c') n ((heatL l).flatMap smE) ∧ Below w.heap.size w w' := by
  obtain ⟨h10, hok⟩ := heat_ok h0
  have hl := h.len
  rw [hl] at h10
  have hl' := Lib.hid hl
  have hok' := Lib.hid hok
  have hO := Lib.hid (fun x W h h0 => official_c x W h h0)
  have hSh := Lib.hid (fun W h => shift_c A n c l W h h0)
  have hCk := Lib.hid (show ∀ W, RTc W A n l → Calls Tryz.prog 136 #[.slice A n c] W fun e w' => e = .returned (.int .i64 0) ∧ Below W.heap.size W w' from fun W h => by have := timCheckHeat_c A n c l W h; rwa [h0] at this)
  have hHL : heatL l = heatM (shiftV l) l := rfl
  obtain ⟨sb0, sb1⟩ := shift_bd h0
  rw [hHL]
  clear hl hok h0 hHL
  generalize shiftV l = S at *
  generalize shiftB l = SB at *
  generalize hE : heatM S l = E
  have hE' := Lib.hid hE
  clear hE
  go_enter Tryz.func32, Tryz.ntmps32
  go_wp2_with fail
  refine (hCk.out _ h).mono ?_; rintro e w0 ⟨rfl, B0⟩
  have h9 := h.below B0
  go_wp2_with fail
  refine (hSh.out _ h9).mono ?_; rintro e w1 ⟨rfl, B1⟩
  replace B1 := below_next B0 B1
  clear h9 B0 hCk hSh
  go_wp2_with fail
  go_loopw [7, 23] (fun out i wr => ∃ (k : Nat) (acc : List Sm), k ≤ n ∧ i = .int .i64 k ∧ Hid (acc.length = k) ∧ wr.ownsRow w.heap.size 63 2 out k (acc.flatMap smE) ∧ Below w.heap.size w wr ∧ Hid (acc ++ heatM S (l.drop k) = E)) (fun _ i _ => n - (intOf i).toNat)
  case atStart => exact ⟨0, [], Nat.zero_le _, rfl, Lib.hid rfl, World.ownsRow_nil _ _ _ _, B1, Lib.hid hE'.out⟩
  case round =>
    clear B1
    obtain ⟨k, acc, hk, rfl, hla, hown, hB, hF⟩ := hrel
    by_cases hlt : k < n
    · obtain ⟨b, off, x, hA, hbl, hx, c0, c1, c2, hI⟩ := (h.below hB).at3 hlt
      subst hA
      have hx0 := hok'.out x (List.mem_of_getElem? hx)
      have hM := Lib.hid (heatM_at (S := S) hx)
      have hO1 := Lib.hid (fun W h => hO.out x W h hx0)
      obtain ⟨t0, t1⟩ := off_bd hx0
      generalize offV x = o at *
      obtain ⟨pad, btn, xA, xn, xc, ws⟩ := x
      obtain ⟨tm, by_⟩ := o
      dsimp only [Tc.val, Sm.val] at *
      have hn5 := heap_alloc_new wr (.cells #[.int .i64 pad, .int .i64 btn, .slice xA xn xc] 80)
      have z5 := (blk_facts hn5).1
      have hB5 := hB.alloc hB.size (.cells #[.int .i64 pad, .int .i64 btn, .slice xA xn xc] 80)
      have hI5 := hI.alloc (.cells #[.int .i64 pad, .int .i64 btn, .slice xA xn xc] 80)
      have hown5 := hown.alloc (.cells #[.int .i64 pad, .int .i64 btn, .slice xA xn xc] 80)
      clear hx hI hB hx0 hn5 hown
      have e1 : IntKind.i64.wrap (tm - S) = tm - S := IntWalk.i64_in _ (by omega)
      go_wp2_with fail
      refine (hO1.out _ hI5).mono ?_; rintro e w6 ⟨rfl, B6⟩
      have hown6 := own_below hown5 B6
      have hB6 := below_next hB5 B6
      clear B6 hI5 z5 hown5 hB5
      have hn7 := heap_alloc_new w6 (.cells #[.int .i64 tm, .int .i64 by_] 63)
      have z7 := (blk_facts hn7).1
      have f7 := (blk_facts hn7).2
      have hown7 := hown6.alloc (.cells #[.int .i64 tm, .int .i64 by_] 63)
      have hB7 := hB6.alloc hB6.size (.cells #[.int .i64 tm, .int .i64 by_] 63)

      have hza := hB7.size
      have hlt6 := hB6.size
      have hown8 := hown6.alloc (.cells #[.int .i64 (min (max (tm - S) 1) 360000), .int .i64 2] 63)
      have hB8 := hB6.alloc hB6.size (.cells #[.int .i64 (min (max (tm - S) 1) 360000), .int .i64 2] 63)
      have hzb := hB8.size
      clear hn7
      by_cases hy : by_ = 2
      · subst hy
        clear hown7 hown6 hB6 hB7 hza
        go_wp2_with (at_builtin; refine wpList_app rfl (.tmp 39) (.tmp 41) 76 rfl Tryz.underlying76 info_swum rfl (by omega) (by omega) hown8 rfl rfl (by first | rfl | (simp; done)) rfl (by simp [Value.oneCell']) (by omega) hzb ?_; intro v' w' hown' hg; have H := Lib.hid (And.intro (snoc_sm hown') (below_own hB8 hown8 hg hzb (Nat.le_refl _))); clear hown' hg)
        go_roundw
        case rel => exact ⟨k + 1, _, by omega, by go_num, Lib.hid (by rw [List.length_append, hla.out]; rfl), H.out.1, H.out.2, Lib.hid (by rw [← hF.out, hM.out]; simp only [List.append_assoc, List.cons_append, List.nil_append]; rfl)⟩
        case measure => simp [intOf]; omega
      · have hyb : (by_ == 2) = false := beq_eq_false_iff_ne.2 hy
        have hy' := Lib.hid hy
        clear hown8 hB8 hy
        go_wp2_with (at_builtin; refine wpList_app rfl (.tmp 39) (.tmp 41) 76 rfl Tryz.underlying76 info_swum rfl (by omega) (by omega) hown7 rfl rfl (by first | rfl | (simp; done)) rfl (by simp [Value.oneCell']) (by omega) hza ?_; intro v' w' hown' hg; have H := Lib.hid (And.intro (snoc_sm hown') (below_own hB7 hown7 hg hza (Nat.le_refl _))); clear hown' hg)
        go_roundw
        case rel => exact ⟨k + 1, _, by omega, by go_num, Lib.hid (by rw [List.length_append, hla.out]; rfl), H.out.1, H.out.2, Lib.hid (by rw [← hF.out, hM.out]; simp only [List.append_assoc, List.cons_append, List.nil_append]; congr 2; exact (fix_no hy'.out).symm)⟩
        case measure => simp [intOf]; omega
    · obtain rfl : k = n := by omega
      have hE1 := hF.out
      rw [drop_end (by rw [hl'.out]; exact Nat.le_refl _)] at hE1
      have hE2 : acc = E := by simpa [heatM] using hE1
      subst hE2
      obtain ⟨A', c', rfl⟩ := own_shape hown
      go_wp2
      go_ret2
      exact ⟨_, _, rfl, hown, hB⟩
theorem heatO_c (A : Option Addr) (n c : Nat) (l : List Tc) (w : World) (h : RTc w A n l) :
    Calls Tryz.prog 32 #[.slice A n c] w fun e w' => ∃ A' c', e = .returned (.tuple #[.slice A' (heatN l) c', .int .i64 (heatErr l)]) ∧ w'.ownsRow w.heap.size 63 2 (.slice A' (heatN l) c') (heatN l) ((heatA l).flatMap smE) ∧ Below w.heap.size w w' := by
  unfold heatA heatN
  by_cases h0 : heatErr l = 0
  · rw [if_pos h0, if_pos h0, h0, h.len]
    exact heatRO_c A n c l w h h0
  · rw [if_neg h0, if_neg h0]
    have hCk := Lib.hid (timCheckHeat_c A n c l w h)
    have hne : (heatErr l != 0) = true := by simpa using h0
    generalize heatErr l = E at *
    clear h0
    go_enter Tryz.func32, Tryz.ntmps32
    go_wp2_with fail
    refine hCk.out.mono ?_; rintro e w1 ⟨rfl, B1⟩
    go_wp2
    go_ret2
    exact ⟨none, 0, rfl, World.ownsRow_nil _ _ _ _, B1⟩
set_option maxHeartbeats 3200000 in
set_option maxRecDepth 100000 in
theorem fillO_c (r : Race) (A : Option Addr) (n c : Nat) (l : List Int) (w : World) (h : RI 3 w A n l) (h0 : checkSp r l = 0) (hrise : risingF l 0 = true) :
    Calls Tryz.prog 35 #[r.val, .slice A n c] w fun e w' => ∃ A' c', e = .returned (.tuple #[.slice A' n c', .int .i64 0]) ∧ w'.ownsRow w.heap.size 3 1 (.slice A' n c') n (ints l) ∧ Below w.heap.size w w' := by
  have hfs := Lib.hid (fill_self hrise)
  have hri := Lib.hid hrise
  clear hrise
  obtain ⟨hn1, hn, hbd⟩ := splits_bd h0
  obtain ⟨hre, hse⟩ := checkSp_ok h0
  obtain ⟨_, hsp, hla⟩ := splitsErr_ok hse
  have Hs := fun W h => checkSplits_c r A n c l W h
  rw [h0] at Hs
  have hlen := h.len
  have hlast := last_at hlen (by omega)
  have hfl := fillL_len l
  rw [hlen] at hn hn1
  have hlen' := Lib.hid hlen
  have hla' := Lib.hid hla
  have hsp' := Lib.hid hsp
  have Hs' := Lib.hid Hs
  have hlast' := Lib.hid hlast
  have hfl' := Lib.hid hfl
  clear Hs h0 hre hse hlen hla hsp hlast hfl
  obtain ⟨key, metres, stroke, course, legs, sex, young, old⟩ := r
  dsimp only [Race.val, Race.cells] at *
  go_enter Tryz.func35, Tryz.ntmps35
  go_wp2_with fail
  refine (Hs'.out _ (h.alloc _)).mono ?_; rintro e w0 ⟨rfl, hb0⟩; have hB0 := below_box hb0
  go_wp2_with fail
  refine (clone_c _ _ _ _ _ (h.below hB0) (by omega)).mono ?_; rintro e w1 ⟨A1, c1, rfl, hown1, hB1⟩
  have hownA := own_mono (base' := w.heap.size) hown1 hB0.size
  have hBA := below_next hB0 hB1
  obtain ⟨bo, rfl, hbo⟩ := own_some hownA (by omega)
  clear hb0 hB0 hown1 hB1
  go_wp2_with fail
  go_loopw [8, 9, 26] (fun fr a i wr => ∃ (k m : Nat) (f av : Int), k ≤ n ∧ m ≤ k ∧ i = .int .i64 k ∧ fr = .int .i64 f ∧ a = .int .i64 av ∧ f + 1 ≤ m ∧ m ≤ f + 1 ∧ 0 ≤ av ∧ av ≤ 360000 ∧ wr.ownsRow w.heap.size 3 1 (.slice (some ⟨bo, 0, none⟩) n c1) n (ints (mixK (fillAt l) l m)) ∧ Below w.heap.size w wr ∧ Hid (prevF l m = ((m : Int) - 1, av) ∧ (∀ t, m ≤ t → t < k → l.getD t 0 = 0) ∧ spErrL (l.drop k) av = 0)) (fun _ _ i _ => n - (intOf i).toNat)
  case atStart => exact ⟨0, 0, -1, 0, Nat.zero_le _, Nat.zero_le _, rfl, rfl, rfl, by omega, by omega, by omega, by omega, by rw [mixK_zero]; exact hownA, hBA, Lib.hid ⟨rfl, fun t _ h => absurd h (by omega), by rw [List.drop_zero]; exact hsp'.out⟩⟩
  case round =>
    clear hownA hBA
    obtain ⟨k, m, f, av, hk, hmk, rfl, rfl, rfl, hf1, hf2, ha0, ha1, hown, hB, hK⟩ := hrel
    by_cases hlt : k < n
    · have hr := h.below hB
      obtain ⟨b, off, x, rfl, _, hx, hcell⟩ := hr.at_ hlt
      have hxb := hbd x (mem_of_at hx)
      have hX := Lib.hid hx
      clear hr hx hbd
      by_cases hx0 : x = 0
      · have hK2 := Lib.hid (show prevF l m = ((m : Int) - 1, av) ∧ (∀ t, m ≤ t → t < k + 1 → l.getD t 0 = 0) ∧ spErrL (l.drop (k + 1)) av = 0 from by
          obtain ⟨h1, h2, h3⟩ := hK.out
          refine ⟨h1, fun t ht ht2 => ?_, ?_⟩
          · by_cases e : t = k
            · rw [e, getD_of hX.out]; exact hx0
            · exact h2 t ht (by omega)
          · have := (sp_step h3 hX.out).2.2
            rwa [if_neg (by simp [hx0])] at this)
        have hxt : (x == 0) = true := by simpa using hx0
        clear hK hx0
        go_wp2
        go_roundw
        case rel => exact ⟨k + 1, m, f, av, by omega, by omega, by go_num, rfl, rfl, hf1, hf2, ha0, ha1, hown, hB, hK2⟩
        case measure => simp [intOf]; omega
      · have hxt : (x == 0) = false := by simpa using hx0
        have hav : av < x := (sp_step hK.out.2.2 hX.out).2.1 hx0
        have hx0' := Lib.hid hx0
        have hxpos : 0 < x := by omega
        clear hx0
        go_wp2_with fail
        go_loopw [12] (fun i wr => ∃ (q : Nat), m ≤ q ∧ q ≤ k ∧ i = .int .i64 q ∧ wr.ownsRow w.heap.size 3 1 (.slice (some ⟨bo, 0, none⟩) n c1) n (ints (mixK (fillAt l) l q)) ∧ Below w.heap.size w wr) (fun i _ => n - (intOf i).toNat)
        case atStart => exact ⟨m, Nat.le_refl _, hmk, by congr 1; omega, hown, hB⟩
        case round =>
          clear hown hB hcell
          obtain ⟨q, hmq, hqk, rfl, hown, hB⟩ := hrel
          by_cases hq : q < k
          · have hfe := Lib.hid (show fillAt l q = av + (x - av) * (q - f) / (k - f) from by
              obtain ⟨h1, h2, h3⟩ := hK.out
              have := fillAt_eq h1 hmq hqk (getD_of hX.out) hx0'.out h2
              rw [show (m : Int) - 1 = f from by omega] at this
              exact this)
            have m1 := mul_bd (a := x - av) (b := (q : Int) - f) (A := 360000) (B := 240) (by omega) (by omega) (by omega) (by omega)
            have m2 := frac_bd (D := x - av) (i := (q : Int) - f) (q := k - f) (by omega) (by omega) (by omega) (by omega)
            obtain ⟨u0, hco⟩ := own_cellI hown (j := q) (by omega)
            have hfo := hown.frozenAt q
            have hs := own_setI hown q (fillAt l q)
            rw [mixK_set] at hs
            have hs' := Lib.hid hs
            have hBs := fun v => hB.setCell (p := ⟨bo, q, none⟩) hbo v
            have hBs' := Lib.hid hBs
            clear hs hBs hown hB h
            go_wp2
            go_roundw
            case rel => exact ⟨q + 1, by omega, by omega, by go_num, by have := hs'.out; rw [hfe.out] at this; exact this, hBs'.out _⟩
            case measure => simp [intOf]; omega
          · obtain rfl : q = k := by omega
            have hkn := Lib.hid (show fillAt l q = l.getD q 0 from by
              obtain ⟨h1, h2, h3⟩ := hK.out
              rw [getD_of hX.out]
              exact fillAt_known h1 hmk (getD_of hX.out) hx0'.out h2)
            rw [mixK_skip _ _ _ hkn.out] at hown
            have hK2 := Lib.hid (show prevF l (q + 1) = (((q + 1 : Nat) : Int) - 1, x) ∧ (∀ t, q + 1 ≤ t → t < q + 1 → l.getD t 0 = 0) ∧ spErrL (l.drop (q + 1)) x = 0 from by
              obtain ⟨h1, h2, h3⟩ := hK.out
              refine ⟨by rw [prevF_known (by rw [getD_of hX.out]; exact hx0'.out), getD_of hX.out]; congr 1; omega, fun t h1 h2 => absurd h2 (by omega), ?_⟩
              have := (sp_step h3 hX.out).2.2
              rwa [if_pos hx0'.out] at this)
            clear hK h
            go_wp2
            go_roundw
            case rel => exact ⟨q + 1, q + 1, q, x, by omega, by omega, by go_num, rfl, rfl, by omega, by omega, by omega, by omega, hown, hB, hK2⟩
            case measure => simp [intOf]; omega
    · obtain rfl : k = n := by omega
      have hmn : m = k := by
        rcases Nat.lt_or_ge m k with h1 | h1
        · exfalso
          have h2 := hK.out.2.1 (k - 1) (by omega) (by omega)
          rw [getD_of hlast'.out] at h2
          exact hla'.out h2
        · omega
      subst hmn
      have hL : mixK (fillAt l) l m = fillL l := by have := mixK_full (fillAt l) l; rw [hlen'.out] at this; rw [this]; unfold fillL; rw [hlen'.out]
      rw [hL] at hown
      have hr := R1.of_own hown (by omega)
      have hown9 := Lib.hid (show _ from by rw [hfs.out] at hown; exact hown)
      have hR9 := Lib.hid (show risingF (fillL l) 0 = true by rw [hfs.out]; exact hri.out)
      clear hL hK h hown hfs hri
      generalize fillL l = L at *
      go_wp2_with fail
      go_loop [13, 61] (fun t i => ∃ (k : Nat) (s : Int), k ≤ m ∧ i = .int .i64 k ∧ t = .int .i64 s ∧ Hid (risingF (L.drop k) s = risingF L 0)) (fun _ i => m - (intOf i).toNat)
      case atStart => exact ⟨0, 0, Nat.zero_le _, rfl, rfl, Lib.hid rfl⟩
      case round =>
        obtain ⟨k, s, hk, rfl, rfl, hF⟩ := hrel
        by_cases hlt : k < m
        · obtain ⟨b, off, x, e, _, hx, hcell⟩ := hr.at_ hlt
          have hS := rising_at (last := s) hx
          rw [hF.out] at hS
          have hS' := Lib.hid hS
          obtain ⟨rfl, rfl⟩ : bo = b ∧ 0 = off := by injection e with e; injection e with e1 e2; exact ⟨e1, e2⟩
          rw [Nat.zero_add] at hcell
          clear hx hS e
          go_wp2
          · exact absurd (hR9.out.symm.trans (by rw [hS'.out, if_pos (by first | omega | (simp_all; done) | (simp_all; omega))])) (by decide)
          · go_round
            case rel => exact ⟨k + 1, x, by omega, by go_num, rfl, Lib.hid (by rw [hS'.out, if_neg (by first | omega | (simp_all; done) | (simp_all; omega))])⟩
            case measure => simp [intOf]; omega
        · have hF' := Lib.hid (by have := hF.out; rw [drop_end (by have := hfl'.out; have := hlen'.out; omega)] at this; exact this.symm)
          clear hF
          go_wp2
          go_ret2
          exact ⟨_, _, rfl, hown9.out, hB⟩
structure K38 (w : World) (X : World → Prop) (wx : World) : Prop where
  x : X wx
  kp : ∀ a b, X a → Below a.heap.size a b → X b
  bel : Below w.heap.size w wx
section
variable {w wx w' : World} {X Y : World → Prop}
theorem K38.below (h : K38 w X wx) (B : Below wx.heap.size wx w') : K38 w X w' := ⟨h.kp _ _ h.x B, h.kp, below_next h.bel B⟩
theorem K38.drew (h : K38 w X wx) : K38 w X wx.drew := h.below (below_drewN (Below.refl _ _) 1)
theorem K38.drewN (h : K38 w X wx) (n : Nat) : K38 w X (wx.drewN n) := h.below (below_drewN (Below.refl _ _) n)
end
theorem own_cap38 {w : World} {base : Nat} {e : TypeId} {size n c : Nat} {A : Option Addr} {xs : List Value} (h : w.ownsRow base e size (.slice A n c) n xs) (hp : 0 < n) : ∃ g, A = some ⟨g, 0, none⟩ := by
  rcases h.2 with ⟨h1, h2⟩ | ⟨g, cap, cur, h1, _⟩
  · injection h1 with _ h3 _
    omega
  · injection h1 with h1 _ _
    exact ⟨g, h1⟩
theorem blk_stream38 {w w' : World} {b g : Nat} {zs : Zs} {k : Nat} {t : TypeId} {cs : Array Value} (h : w.heap[b]? = some (.cells cs t (0, 0))) (hs : St w g zs k) (hg : w.grownBy w' (some g)) (hne : t ≠ 25) : w'.heap[b]? = some (.cells cs t (0, 0)) := (hs.keep hg) b cs t (0, 0) hne h
/-- the error of a heat, by what its touches hold -/
theorem heatGo_abs : ∀ {l1 l2 : List Tc}, l1.map tcAbs = l2.map tcAbs → heatGo l1 = heatGo l2
  | [], [], _ => rfl
  | [], _ :: _, h => by simp at h
  | _ :: _, [], h => by simp at h
  | x :: l1, y :: l2, h => by
    rw [List.map_cons, List.map_cons] at h
    injection h with h1 h2
    have h3 : touchErr x = touchErr y := by
      unfold tcAbs at h1
      injection h1 with e1 e2
      injection e2 with e2 e3
      unfold touchErr
      rw [e1, e2, e3]
    unfold heatGo
    rw [h3, heatGo_abs h2]
theorem heatErr_abs {l1 l2 : List Tc} (h : l1.map tcAbs = l2.map tcAbs) : heatErr l1 = heatErr l2 := by
  unfold heatErr
  rw [heatGo_abs h, show l1.length = l2.length by have := congrArg List.length h; simpa using this]
theorem heat_watch {l : List Tc} (h : heatErr l = 0) {x : Tc} (hx : x ∈ l) : watchErr x.ws = 0 := by
  have h1 := (heat_ok h).2 x hx
  unfold touchErr at h1
  split at h1
  · cases h1
  · split at h1
    · cases h1
    · exact h1
theorem heatN_le (l : List Tc) : heatN l ≤ l.length := by unfold heatN; split <;> omega
/-- two touches that hold the same -/
theorem sameTc_c (x y : Tc) (w : World) (he : tcAbs x = tcAbs y) (h1 : RI 3 w x.A x.n x.ws) (h2 : RI 3 w y.A y.n y.ws) :
    Calls Tryz.prog 37 #[x.val, y.val] w fun e w' => e = .returned (.bool true) ∧ Below w.heap.size w w' := by
  have hq := Lib.hid (fun W g1 g2 => equal_c x.A y.A x.n x.c y.n y.c x.ws y.ws W g1 g2)
  rw [show eqB x.ws y.ws = true from by unfold eqB; unfold tcAbs at he; injection he with e1 e2; injection e2 with e2 e3; rw [e3]; exact beq_self_eq_true _] at hq
  obtain ⟨xp, xb, xA, xn, xc, xs⟩ := x
  obtain ⟨yp, yb, yA, yn, yc, ys⟩ := y
  unfold tcAbs at he
  injection he with e1 e2
  injection e2 with e2 e3
  dsimp only [Tc.val] at *
  subst e1 e2 e3
  have hB := (below_new w (.cells #[.int .i64 xp, .int .i64 xb, .slice xA xn xc] 80)).alloc (below_new w _).size (.cells #[.int .i64 xp, .int .i64 xb, .slice yA yn yc] 80)
  have g1 := (h1.alloc (.cells #[.int .i64 xp, .int .i64 xb, .slice xA xn xc] 80)).alloc (.cells #[.int .i64 xp, .int .i64 xb, .slice yA yn yc] 80)
  have g2 := (h2.alloc (.cells #[.int .i64 xp, .int .i64 xb, .slice xA xn xc] 80)).alloc (.cells #[.int .i64 xp, .int .i64 xb, .slice yA yn yc] 80)
  go_enter Tryz.func37, Tryz.ntmps37
  go_wp2_with fail
  refine (hq.out _ g1 g2).mono ?_; rintro e w5 ⟨rfl, B5⟩
  have hB5 := below_next hB B5
  go_wp2
  go_ret
  exact ⟨rfl, hB5⟩
set_option maxRecDepth 100000 in
theorem equalTcF_c (A1 A2 : Option Addr) (n c m d : Nat) (l1 l2 : List Tc) (w : World) (h1 : RTc w A1 n l1) (h2 : RTc w A2 m l2) (he : l1.map tcAbs = l2.map tcAbs) :
    Calls Tryz.prog 36 #[.slice A1 n c, .slice A2 m d, .func (.func 37) #[] #[]] w fun e w' => e = .returned (.bool true) ∧ Below w.heap.size w w' := by
  obtain rfl : n = m := by have := congrArg List.length he; simp at this; have := h1.len; have := h2.len; omega
  have b1 := h1.bd
  have hR1 := Lib.hid (fun W B => h1.below (w' := W) B)
  have hR2 := Lib.hid (fun W B => h2.below (w' := W) B)
  have he' := Lib.hid he
  clear h1 h2 he
  go_enter Tryz.func36, Tryz.ntmps36
  go_wp2_with fail
  go_loopw [17] (fun i wr => ∃ k : Nat, k ≤ n ∧ i = .int .i64 k ∧ Below w.heap.size w wr) (fun i _ => n - (intOf i).toNat)
  case atStart => exact ⟨0, Nat.zero_le _, rfl, Below.refl _ _⟩
  case round =>
    rename World => wr
    obtain ⟨k, hk, rfl, hB⟩ := hrel
    by_cases hlt : k < n
    · obtain ⟨bx, ox, x, rfl, hbx, hx, x0, x1, x2, hX⟩ := (hR1.out _ hB).at3 hlt
      obtain ⟨by_, oy, y, rfl, hby, hy, y0, y1, y2, hY⟩ := (hR2.out _ hB).at3 hlt
      have hD : tcAbs x = tcAbs y := by
        have h3 := congrArg (fun q => q[k]?) he'.out
        simp only [List.getElem?_map, hx, hy] at h3
        exact Option.some.inj h3
      have hB5 := (hB.alloc hB.size (.cells x.cells 80)).alloc (hB.alloc hB.size (.cells x.cells 80)).size (.cells y.cells 80)
      have g1 := (hX.alloc (.cells x.cells 80)).alloc (.cells y.cells 80)
      have g2 := (hY.alloc (.cells x.cells 80)).alloc (.cells y.cells 80)
      have hS1 := Lib.hid (sameTc_c x y _ hD g1 g2)
      obtain ⟨xp, xb, xA, xn, xc, xs⟩ := x
      obtain ⟨yp, yb, yA, yn, yc, ys⟩ := y
      dsimp only [Tc.val, Tc.cells] at *
      clear hx hy hD g1 g2 hX hY
      go_wp2_with fail
      refine hS1.out.mono ?_; rintro e w5 ⟨rfl, B5⟩
      have hB6 := below_next hB5 B5
      clear hS1 B5 hB5
      go_wp2
      go_roundw
      case rel => exact ⟨k + 1, by omega, by go_num, hB6⟩
      case measure => simp [intOf]; omega
    · obtain rfl : k = n := by omega
      go_wp2
      go_ret
      exact ⟨rfl, hB⟩
set_option maxHeartbeats 12800000 in
set_option maxRecDepth 100000 in
theorem timesStay_walk (a0 : Option Addr) (len0 cap0 : Nat) (z0 : List Int) (w : World) (w0 : IsRow .i64 w a0 len0 cap0 z0) :
    Calls Tryz.prog 5 #[.slice a0 len0 cap0] w fun e w' => e = .returned (.bool true) ∧ Below w.heap.size w w' := by
  have hs2 := law_start2 w0
  clear w0
  generalize Zs.mk (z0.take len0) w.heap.size = zs at *
  obtain ⟨sA, sB⟩ := hs2
  have hL := sA.lim_le
  have hB0 : Below w.heap.size w ((w.alloc (.cells #[.slice a0 len0 cap0, .int .i64 0] 25)).alloc (.cells #[.slice a0 len0 cap0, .int .i64 0] 25)) := below_next (below_new w _) (below_new _ _)
  go_enter Tryz.func5, Tryz.ntmps5
  go_wp2_with fail
  generalize ((w.alloc (.cells #[.slice a0 len0 cap0, .int .i64 0] 25)).alloc (.cells #[.slice a0 len0 cap0, .int .i64 0] 25)) = w1 at *
  refine (touchListF_c _ zs 0 _ sA (by omega)).mono ?_; rintro e w2 ⟨A1, n1, c1, l1, rfl, rt1, hn1, hl1, a2, hk1, g2⟩
  have b2 := sB.other g2 hL (by omega)
  have hB2 := hB0.trans (grown_below g2 (Nat.le_refl _) hB0.size)
  clear sA sB hB0 g2
  go_wp2_with fail
  refine (touchListF_c _ zs 0 _ b2 (by omega)).mono ?_; rintro e w3 ⟨A2, n2, c2, l2, rfl, rt2, hn2, hl2, b3, _, g3⟩
  have a3 := a2.other g3 (by omega) (by omega)
  have rt1' := rt1.keep (T := 25) ⟨by decide, by decide⟩ (b2.keep g3)
  have hB3 := hB2.trans (grown_below g3 (by omega) hB2.size)
  have hll := Lib.hid (hl1.trans hl2.symm)
  have hkk : (tlV zs 0).2 ≤ 500 := by omega
  clear hk1
  generalize (tlV zs 0).2 = k1 at *
  clear rt1 hl1 hl2 a2 b2 hB2 g3
  go_wp2_with fail
  refine (plainRace_c _ zs k1 _ a3 (by omega)).mono ?_; rintro e w4 ⟨rfl, a4, g4⟩
  rw [plainRace_2] at a4
  have b4' := b3.other g4 hL (by omega)
  have hB4 := hB3.trans (grown_below g4 (Nat.le_refl _) hB3.size)
  have rt1 := rt1'.keep (T := 25) ⟨by decide, by decide⟩ (a3.keep g4)
  have rt2' := rt2.keep (T := 25) ⟨by decide, by decide⟩ (a3.keep g4)
  have hok := plainRace_ok zs k1
  have hPR := Lib.hid (fun (W : World) (g : Nat) (h : St W g zs k1) => (plainRace_c g zs k1 W h (by omega)).mono fun (e : Ending) (w' : World) ⟨h1, h2, h3⟩ => show ∃ v, e = Ending.returned v ∧ St w' g zs (k1 + 9) ∧ W.grownBy w' (some g) from ⟨_, h1, by rw [plainRace_2] at h2; exact h2, h3⟩)
  have hwh := ks_whole zs k1 (k1 + 9)
  generalize (plainRace zs k1).1 = r at *
  have hKs := Lib.hid (fun (W : World) (g : Nat) (h : St W g zs (k1 + 9)) => knownSplits_c g zs (k1 + 9) r W h (by omega) hok)
  generalize knownSplits zs (k1 + 9) r = L at *
  generalize (lenV r).toNat = LV at *
  have hFl := Lib.hid (fun A n c W h => fillO_c r A n c L W h (wholeErr_ok hwh).1 (whole_rise hwh))
  have hLl := splits_bd (wholeErr_ok hwh).1
  have hLn : 1 ≤ L.length ∧ L.length ≤ 1000 := ⟨hLl.1, by have := hLl.2.1; omega⟩
  clear a3 b3 g4 hB3 rt1' rt2 hok hwh hLl
  obtain ⟨key, metres, stroke, course, legs, sex, young, old⟩ := r
  dsimp only [Race.val, Race.cells] at *
  have hb2 := heap_alloc_new w4 (.cells #[.string key, .int .i64 metres, .int .i64 stroke, .int .i64 course, .int .i64 legs, .int .i64 sex, .int .i64 young, .int .i64 old] 57)
  have a2' := a4.alloc (.cells #[.string key, .int .i64 metres, .int .i64 stroke, .int .i64 course, .int .i64 legs, .int .i64 sex, .int .i64 young, .int .i64 old] 57)
  have b2' := b4'.alloc (.cells #[.string key, .int .i64 metres, .int .i64 stroke, .int .i64 course, .int .i64 legs, .int .i64 sex, .int .i64 young, .int .i64 old] 57)
  have hB2' := hB4.alloc hB4.size (.cells #[.string key, .int .i64 metres, .int .i64 stroke, .int .i64 course, .int .i64 legs, .int .i64 sex, .int .i64 young, .int .i64 old] 57)
  have rt3 := rt1.alloc (.cells #[.string key, .int .i64 metres, .int .i64 stroke, .int .i64 course, .int .i64 legs, .int .i64 sex, .int .i64 young, .int .i64 old] 57)
  have rt4 := rt2'.alloc (.cells #[.string key, .int .i64 metres, .int .i64 stroke, .int .i64 course, .int .i64 legs, .int .i64 sex, .int .i64 young, .int .i64 old] 57)
  have hlt4 : w.heap.size + 1 < w4.heap.size := b4'.lt
  clear a4 b4' hB4 rt1 rt2'
  go_wp2_with fail
  refine (hPR.out _ _ b2').mono ?_; rintro e w5 ⟨v, rfl, b5, g5⟩
  have a5 := a2'.other g5 (by omega) (by omega)
  have hb5 := blk_stream38 hb2 b2' g5 (by decide)
  have hB5 := hB2'.trans (grown_below g5 (by omega) hB2'.size)
  have rt5 := rt3.keep (T := 25) ⟨by decide, by decide⟩ (b2'.keep g5)
  have rt6 := rt4.keep (T := 25) ⟨by decide, by decide⟩ (b2'.keep g5)
  clear a2' b2' hb2 hB2' g5 hPR rt3 rt4
  generalize w4.heap.size = b4 at *
  go_wp2_with fail
  have a6d := a5.drew
  have b6d := b5.drew
  have hb6d : w5.drew.heap[b4]? = _ := hb5
  have hB6d := below_drewN hB5 1
  have z0 := (blk_facts hb6d).1 0
  have z1 := (blk_facts hb6d).1 1
  have z2 := (blk_facts hb6d).1 2
  have z3 := (blk_facts hb6d).1 3
  have z4 := (blk_facts hb6d).1 4
  have z5 := (blk_facts hb6d).1 5
  have z6 := (blk_facts hb6d).1 6
  have z7 := (blk_facts hb6d).1 7
  go_region_held3 (fun w' => w'.cell? ⟨b4, 0, none⟩ = some (.string key) ∧ w'.cell? ⟨b4, 1, none⟩ = some (.int .i64 metres) ∧ w'.cell? ⟨b4, 2, none⟩ = some (.int .i64 stroke) ∧ w'.cell? ⟨b4, 3, none⟩ = some (.int .i64 course) ∧ w'.cell? ⟨b4, 4, none⟩ = some (.int .i64 legs) ∧ w'.cell? ⟨b4, 5, none⟩ = some (.int .i64 sex) ∧ w'.cell? ⟨b4, 6, none⟩ = some (.int .i64 young) ∧ w'.cell? ⟨b4, 7, none⟩ = some (.int .i64 old)) (first | go_keep | with_reducible exact ⟨z0, z1, z2, z3, z4, z5, z6, z7⟩ | with_reducible exact ⟨y0, y1, y2, y3, y4, y5, y6, y7⟩ | with_reducible exact ⟨p0, p1, p2, p3, p4, p5, p6, p7⟩)
    (first
      | (go_at_call 31; with_reducible refine (hKs.out _ _ a6d).mono ?_; rintro e w7 ⟨A3, n3, c3, rfl, ho3, a7, g7⟩; have b7 := b6d.other g7 (by omega) (by omega); have hb7 := blk_stream38 hb6d a6d g7 (by decide); have y0 := (blk_facts hb7).1 0; have y1 := (blk_facts hb7).1 1; have y2 := (blk_facts hb7).1 2; have y3 := (blk_facts hb7).1 3; have y4 := (blk_facts hb7).1 4; have y5 := (blk_facts hb7).1 5; have y6 := (blk_facts hb7).1 6; have y7 := (blk_facts hb7).1 7)
      | (go_at_call 31; with_reducible refine (hKs.out _ _ b7).mono ?_; rintro e w8 ⟨A4, n4, c4, rfl, ho4, b8, g8⟩; have hb8 := blk_stream38 hb7 b7 g8 (by decide); have p0 := (blk_facts hb8).1 0; have p1 := (blk_facts hb8).1 1; have p2 := (blk_facts hb8).1 2; have p3 := (blk_facts hb8).1 3; have p4 := (blk_facts hb8).1 4; have p5 := (blk_facts hb8).1 5; have p6 := (blk_facts hb8).1 6; have p7 := (blk_facts hb8).1 7))
  have hl3 : L.length = n3 := by have := ho3.1; rw [ints_len] at this; omega
  have hl4 : n4 = n3 := by have := ho4.1; rw [ints_len] at this; omega
  subst hl4
  have r3 := (R1.of_own ho3 (by omega)).keep (T := 25) (by decide) (b7.keep g8)
  have r4 := R1.of_own ho4 (by omega)
  have hB7 := hB6d.trans (grown_below g7 (Nat.le_refl _) hB6d.size)
  have hB8 := hB7.trans (grown_below g8 (by omega) hB7.size)
  have rt5d : RTc w5.drew A1 n1 l1 := rt5.below (below_drewN (Below.refl _ _) 1)
  have rt6d : RTc w5.drew A2 n2 l2 := rt6.below (below_drewN (Below.refl _ _) 1)
  have rt7 := (rt5d.keep (T := 25) ⟨by decide, by decide⟩ (a6d.keep g7)).keep (T := 25) ⟨by decide, by decide⟩ (b7.keep g8)
  have rt8 := (rt6d.keep (T := 25) ⟨by decide, by decide⟩ (a6d.keep g7)).keep (T := 25) ⟨by decide, by decide⟩ (b7.keep g8)
  have K : K38 w (fun wx => (RTc wx A1 n1 l1 ∧ RTc wx A2 n2 l2) ∧ (RI 3 wx A3 n4 L ∧ RI 3 wx A4 n4 L) ∧ wx.heap[b4]? = some (.cells #[.string key, .int .i64 metres, .int .i64 stroke, .int .i64 course, .int .i64 legs, .int .i64 sex, .int .i64 young, .int .i64 old] 57 (0, 0))) w8 := ⟨⟨⟨rt7, rt8⟩, ⟨r3, r4⟩, hb8⟩, fun a b ⟨⟨h1, h2⟩, ⟨h3, h4⟩, h5⟩ B => ⟨⟨h1.below B, h2.below B⟩, ⟨h3.below B, h4.below B⟩, blk_below h5 B⟩, hB8⟩
  have hn3 : n4 ≤ 1000 := by omega
  have hHl := heatErr_abs hll.out
  have hHt := Lib.hid (fun W h => heatO_c A1 n1 c1 l1 W h)
  have hTf := Lib.hid (show ∀ W, RTc W A2 n2 l2 → Calls Tryz.prog 34 #[.slice A2 n2 c2] W fun e w' => e = .returned (.int .i64 (heatErr l1)) ∧ Below W.heap.size W w' from fun W h => by rw [hHl]; exact touchesFault_c A2 n2 c2 l2 W h)
  have hWt := Lib.hid (fun (h : heatErr l1 = 0) (x : Tc) (hx : x ∈ l1) => heat_watch h hx)
  have hHn : heatN l1 ≤ 14 := by have := heatN_le l1; have := rt7.len; omega
  clear z0 z1 z2 z3 z4 z5 z6 z7 y0 y1 y2 y3 y4 y5 y6 y7 p0 p1 p2 p3 p4 p5 p6 p7
  clear rt5 rt6 rt5d rt6d rt7 rt8 r3 r4 ho3 ho4 hb5 hb6d hb7 hb8 hB5 hB6d hB7 hB8 a5 b5 a6d b6d a7 b7 b8 g7 g8 hKs hHl
  generalize heatErr l1 = HE at *
  generalize heatN l1 = HN at *
  generalize (heatA l1).flatMap smE = HL at *
  go_wp2_with fail
  refine (hHt.out _ K.x.1.1).mono ?_; rintro e w9 ⟨A5, c5, rfl, o5, B5⟩
  obtain ⟨xs0, hx0, o5⟩ : ∃ xs : List Value, xs.length = HN * 2 ∧ w9.ownsRow w8.heap.size 63 2 (.slice A5 HN c5) HN xs := ⟨_, o5.1, o5⟩
  clear hHt
  go_wp2_with fail
  go_loopw [12, 49] (fun _ i wr => ∃ k : Nat, k ≤ HN ∧ i = .int .i64 k ∧ Below w8.heap.size w8 wr ∧ ∃ xs : List Value, xs.length = HN * 2 ∧ wr.ownsRow w8.heap.size 63 2 (.slice A5 HN c5) HN xs) (fun _ i _ => HN - (intOf i).toNat)
  case atStart => exact ⟨0, Nat.zero_le _, rfl, B5, xs0, hx0, o5⟩
  case round =>
    clear B5 hx0 o5
    rename World => wr
    obtain ⟨k, hk, rfl, hB, xs, hxs, ho⟩ := hrel
    by_cases hlt : k < HN
    · obtain ⟨g, rfl⟩ := own_cap38 ho (by omega)
      have c0 := ho.cellAt (k * 2) (by omega)
      have f0 := ho.frozenAt (k * 2)
      obtain ⟨v, hv⟩ := at_of_lt (l := xs) (k := k * 2) (by omega)
      rw [hv] at c0
      have S2 := Lib.hid (And.intro (hB.setCell (ho.lt g rfl).1 (p := ⟨g, k * 2, none⟩) (.int .i64 777)) (ho.stored (k * 2) (.int .i64 777)).1)
      clear ho hB
      go_wp2_with fail
      go_roundw
      case rel => exact ⟨k + 1, by omega, by go_num, S2.out.1, _, by rw [List.length_set]; exact hxs, S2.out.2⟩
      case measure => simp [intOf]; omega
    · obtain rfl : k = HN := by omega
      have K2 := K.below hB
      clear K hB ho hxs
      go_wp2_with fail
      go_loopw [14, 15, 16, 17, 59] (fun _ _ _ _ i wr => ∃ k : Nat, k ≤ n1 ∧ i = .int .i64 k ∧ K38 w (fun wx => (RTc wx A1 n1 l1 ∧ RTc wx A2 n2 l2) ∧ (RI 3 wx A3 n4 L ∧ RI 3 wx A4 n4 L) ∧ wx.heap[b4]? = some (.cells #[.string key, .int .i64 metres, .int .i64 stroke, .int .i64 course, .int .i64 legs, .int .i64 sex, .int .i64 young, .int .i64 old] 57 (0, 0))) wr) (fun _ _ _ _ i _ => n1 - (intOf i).toNat)
      case atStart => exact ⟨0, Nat.zero_le _, rfl, K2⟩
      case round =>
        clear K2
        rename World => wq
        obtain ⟨j, hj, rfl, K⟩ := hrel
        by_cases hlj : j < n1
        · obtain ⟨b, off, x, hA, hbl, hx, c0, c1, c2, hI⟩ := K.x.1.1.at3 hlj
          have hxm := List.mem_of_getElem? hx
          have hw1 := Lib.hid (fun h => hWt.out h x hxm)
          have hK := Lib.hid K
          have hWd := Lib.hid (fun W h => watchedE_c x.A x.n x.c x.ws W h)
          have K5 := K.below (below_new wq (.cells x.cells 80))
          have hI5 := hI.alloc (.cells x.cells 80)
          have hn5 := heap_alloc_new wq (.cells x.cells 80)
          obtain ⟨pad, btn, xA, xn, xc, ws⟩ := x
          dsimp only [Tc.val, Tc.cells] at *
          have z5 := (blk_facts hn5).1
          clear hx hI K hn5 hxm
          subst hA
          go_wp2_with fail
          refine (hWd.out _ hI5).mono ?_; rintro e w6 ⟨rfl, B6⟩
          have K6 := K5.below B6
          clear K5 hI5 z5 B6 hWd hK
          by_cases hwe : watchErr ws = 0
          · rw [hwe]
            clear hw1 hwe
            go_wp2
            go_roundw
            case rel => exact ⟨j + 1, by omega, by go_num, K6⟩
            case measure => simp [intOf]; omega
          · have hne : (watchErr ws != 0) = true := by simpa using hwe
            have hHE : (HE == 0) = false := beq_eq_false_iff_ne.2 (fun h => hwe (hw1.out h))
            clear hwe hw1
            generalize watchErr ws = WE at *
            go_wp2_with fail
            refine (hTf.out _ K6.x.1.2).mono ?_; rintro e w7 ⟨rfl, B7⟩
            have K7 := K6.below B7
            clear K6 B7
            go_wp2
            go_roundw
            case rel => exact ⟨j + 1, by omega, by go_num, K7⟩
            case measure => simp [intOf]; omega
        · obtain rfl : j = n1 := by omega
          have hb9 := K.x.2.2
          have z0 := (blk_facts hb9).1 0
          have z1 := (blk_facts hb9).1 1
          have z2 := (blk_facts hb9).1 2
          have z3 := (blk_facts hb9).1 3
          have z4 := (blk_facts hb9).1 4
          have z5 := (blk_facts hb9).1 5
          have z6 := (blk_facts hb9).1 6
          have z7 := (blk_facts hb9).1 7
          go_wp2_with fail
          refine (hFl.out _ _ _ _ K.x.2.1.1).mono ?_; rintro e w6 ⟨A6, c6, rfl, o6, B6⟩
          have K6 := K.below B6
          have hK6 := Lib.hid (fun W B => K.below (w' := W) B)
          have hz6 := Lib.hid K
          obtain ⟨xs6, hx6, o6⟩ : ∃ xs : List Value, xs.length = n4 ∧ w6.ownsRow wq.heap.size 3 1 (.slice A6 n4 c6) n4 xs := ⟨_, by rw [ints_len]; exact hl3, o6⟩
          clear hFl hb9 z0 z1 z2 z3 z4 z5 z6 z7 K
          go_wp2_with fail
          refine (hTf.out _ K6.x.1.2).mono ?_; rintro e w7 ⟨rfl, B7⟩
          have o7 := own_below o6 B7
          have B67 := below_next B6 B7
          clear o6 B6 B7 K6
          go_wp2_with fail
          go_loopw [20, 94] (fun _ i wr => ∃ k : Nat, k ≤ n4 ∧ i = .int .i64 k ∧ Below wq.heap.size wq wr ∧ ∃ xs : List Value, xs.length = n4 ∧ wr.ownsRow wq.heap.size 3 1 (.slice A6 n4 c6) n4 xs) (fun _ i _ => n4 - (intOf i).toNat)
          case atStart => exact ⟨0, Nat.zero_le _, rfl, B67, xs6, hx6, o7⟩
          case round =>
            clear B67 hx6 o7
            rename World => wr
            obtain ⟨k, hk, rfl, hB, xs, hxs, ho⟩ := hrel
            by_cases hlt : k < n4
            · obtain ⟨g, rfl⟩ := own_cap38 ho (by omega)
              have c0 := ho.cellAt k (by omega)
              have f0 := ho.frozenAt k
              obtain ⟨v, hv⟩ := at_of_lt (l := xs) (k := k) (by omega)
              rw [hv] at c0
              have S2 := Lib.hid (And.intro (hB.setCell (ho.lt g rfl).1 (p := ⟨g, k, none⟩) (.int .i64 777)) (ho.stored k (.int .i64 777)).1)
              clear ho hB
              go_wp2_with fail
              go_roundw
              case rel => exact ⟨k + 1, by omega, by go_num, S2.out.1, _, by rw [List.length_set]; exact hxs, S2.out.2⟩
              case measure => simp [intOf]; omega
            · obtain rfl : k = n4 := by omega
              have K8 := hK6.out _ hB
              clear hB ho hxs hK6 hz6
              go_wp2_with fail
              refine (equalTcF_c A1 A2 _ c1 _ c2 l1 l2 _ K8.x.1.1 K8.x.1.2 hll.out).mono ?_; rintro e wa ⟨rfl, Ba⟩
              have K9 := K8.below Ba
              clear K8 Ba
              go_wp2_with fail
              refine (show Calls Tryz.prog 38 #[.slice A3 k c3, .slice A4 k c4] wa fun e w' => e = .returned (.bool true) ∧ Below wa.heap.size wa w' from by have h := equal_c A3 A4 k c3 k c4 L L wa K9.x.2.1.1 K9.x.2.1.2; rw [show eqB L L = true by unfold eqB; simp] at h; exact h).mono ?_; rintro e wb ⟨rfl, Bb⟩
              have Ka := K9.below Bb
              clear K9 Bb
              go_wp2_with fail
              refine (ready_c _).mono ?_; rintro e wc ⟨rfl, Bc⟩
              have Kb := (Ka.below Bc).bel
              clear Ka Bc
              go_wp2
              go_ret
              exact ⟨rfl, Kb⟩
end Go.Proofs.YtklggnglaeagpaaGreatDoor
