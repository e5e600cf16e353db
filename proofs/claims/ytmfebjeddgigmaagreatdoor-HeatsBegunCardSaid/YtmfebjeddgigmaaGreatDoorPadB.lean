/- pad.starts, tumbref1.StartsOf; pad.heatOf, tumbref1.HeatAt. Printed by wip/genpad.py. -/
import Derived.Test.YtmfebjeddgigmaaGreatDoorPadA
namespace Go.Proofs.YtmfebjeddgigmaaGreatDoor
open Go.RowKit Go.Shelf Go.Lib Go.Sort
set_option linter.unusedVariables false

theorem sortAny_c (base : Nat) (A : Option Addr) (n c : Nat) (l : List Int) (w : World) (h : w.ownsRow base 3 1 (.slice A n c) n (ints l)) (hn : n ≤ 100000) :
    Calls Tryz.prog 113 #[.slice A n c] w fun e w' => e = .returned (.tuple #[]) ∧ w'.ownsRow base 3 1 (.slice A n c) n (ints (l.mergeSort fun x y => decide (x ≤ y))) ∧ w.grownBy w' (Value.slice A n c).ownBlock := by
  rcases Nat.eq_zero_or_pos n with h0 | h0
  · subst h0
    have hl : l = [] := by have := h.1; rw [ints_len] at this; exact List.eq_nil_of_length_eq_zero (by omega)
    subst hl
    refine (Tryz.slices_Sort_int_none A c w).mono ?_
    rintro e w' ⟨he, hw⟩
    subst hw
    exact ⟨he, by rw [List.mergeSort_nil]; exact h, grown_refl _ _⟩
  · exact sortOwn_c base A n c l w h h0 hn
theorem compactAny_c (base : Nat) (A : Option Addr) (n c : Nat) (l : List Int) (w : World) (h : w.ownsRow base 3 1 (.slice A n c) n (ints l)) (hn : n ≤ 100000) :
    Calls Tryz.prog 114 #[.slice A n c] w fun e w' => e = .returned (.slice A (Lib.compact l).length c) ∧ w'.ownsRow base 3 1 (.slice A (Lib.compact l).length c) (Lib.compact l).length (ints (Lib.compact l)) ∧ w.grownBy w' (Value.slice A n c).ownBlock := by
  rcases Nat.eq_zero_or_pos n with h0 | h0
  · subst h0
    have hl : l = [] := by have := h.1; rw [ints_len] at this; exact List.eq_nil_of_length_eq_zero (by omega)
    subst hl
    refine (Tryz.slices_Compact_int_empty A c w).mono ?_
    rintro e w' ⟨he, hw⟩
    subst hw
    exact ⟨he, h, grown_refl _ _⟩
  · exact compactOwn_c base A n c l w h h0 hn
/-- the ints under way -/
structure IL (w : World) (u : Value) (L : List Int) (wx : World) : Prop where
  own : wx.ownsRow w.heap.size 3 1 u L.length (ints L)
  bel : Below w.heap.size w wx
theorem IL.below {w wx w' : World} {u : Value} {L : List Int} (h : IL w u L wx) (B : Below wx.heap.size wx w') : IL w u L w' := ⟨own_below h.own B, below_next h.bel B⟩
theorem IL.app {w wx w' : World} {u v' : Value} {L : List Int} {x : Int} (h : IL w u L wx) (ho : w'.ownsRow w.heap.size 3 1 v' (L.length + 1) (ints L ++ [.int .i64 x])) (hg : wx.grownBy w' u.ownBlock) : IL w v' (L ++ [x]) w' :=
  ⟨by rw [ints_app, List.length_append]; exact ho, below_own h.bel h.own hg h.bel.size (Nat.le_refl _)⟩
theorem IL.start (w : World) : IL w (.slice none 0 0) [] w := ⟨World.ownsRow_nil _ _ _ _, Below.refl _ _⟩
def RetI (w : World) (L : List Int) (e : Ending) (w' : World) : Prop := ∃ A c, e = .returned (.slice A L.length c) ∧ w'.ownsRow w.heap.size 3 1 (.slice A L.length c) L.length (ints L) ∧ Below w.heap.size w w'
/-- the moments at which heats begin, as they come -/
def stGo (cl : List Ck) : List Sg → List Int
  | [] => []
  | x :: r => if x.kind = 1 then rightV cl x.dev x.tm :: stGo cl r else stGo cl r
theorem stGo_at {cl : List Ck} {l : List Sg} {k : Nat} {x : Sg} (h : l[k]? = some x) : stGo cl (l.drop k) = if x.kind = 1 then rightV cl x.dev x.tm :: stGo cl (l.drop (k + 1)) else stGo cl (l.drop (k + 1)) := by rw [drop_at h]; rfl
def startsV (cl : List Ck) (l : List Sg) : List Int := Lib.compact ((stGo cl l).mergeSort fun x y => decide (x ≤ y))
theorem stGo_len (cl : List Ck) : ∀ l : List Sg, (stGo cl l).length ≤ l.length
  | [] => Nat.le_refl _
  | x :: r => by
    have := stGo_len cl r
    unfold stGo
    split
    · rw [List.length_cons, List.length_cons]; omega
    · rw [List.length_cons]; omega
theorem startsV_len (cl : List Ck) (l : List Sg) : (startsV cl l).length ≤ l.length := by
  have h1 := Lib.compact_length_le ((stGo cl l).mergeSort fun x y => decide (x ≤ y))
  rw [List.length_mergeSort] at h1
  exact Nat.le_trans h1 (stGo_len cl l)
set_option maxHeartbeats 3200000 in
set_option maxRecDepth 100000 in
theorem padStarts_c (Ac : Option Addr) (nc cc : Nat) (cl : List Ck) (A : Option Addr) (n c : Nat) (l : List Sg) (w : World) (hc : RCk w Ac nc cl) (h : RSg w A n l) (hcb : CkBd cl) (hsb : SgBd l) (hn : n ≤ 3000) :
    Calls Tryz.prog 111 #[.slice Ac nc cc, .slice A n c] w (RetI w (startsV cl l)) := by
  have hR := Lib.hid (fun W B => h.below (w' := W) B)
  have hl := Lib.hid h.len
  have hGa := Lib.hid (fun k x (h : l[k]? = some x) => stGo_at (cl := cl) h)
  have hG0 := Lib.hid (show stGo cl [] = [] from rfl)
  have hGl := stGo_len cl l
  have hRt := Lib.hid (fun k x (h : l[k]? = some x) W B => padRight_c Ac nc cc cl x.dev x.tm W (hc.below (w' := W) B) hcb (hsb x (List.mem_of_getElem? h)))
  have hV := Lib.hid (show startsV cl l = Lib.compact ((stGo cl l).mergeSort fun x y => decide (x ≤ y)) from rfl)
  have hln := h.len
  generalize startsV cl l = V at *
  generalize stGo cl = SG at *
  generalize rightV cl = RV at *
  have hI0 := IL.start w
  clear h hc hcb hsb
  go_enter Tryz.func111, Tryz.ntmps111
  go_wp2_with fail
  go_loopw [5, 10] (fun out i wr => ∃ (k : Nat) (acc : List Int), k ≤ n ∧ i = .int .i64 k ∧ IL w out acc wr ∧ acc.length ≤ k ∧ Hid (acc ++ SG (l.drop k) = SG l)) (fun _ i _ => n - (intOf i).toNat)
  case atStart => exact ⟨0, [], Nat.zero_le _, rfl, hI0, Nat.le_refl _, Lib.hid rfl⟩
  case round =>
    clear hI0
    obtain ⟨k, acc, hk, rfl, hI, hac, hF⟩ := hrel
    by_cases hlt : k < n
    · obtain ⟨b, off, x, rfl, hbl, hx, c0, c1, c2, c3, c4, c5⟩ := RSg_at6 (hR.out _ hI.bel) hlt
      have hS := Lib.hid (hGa.out k x hx)
      have hRx := Lib.hid (fun W B => hRt.out k x hx W B)
      have hmw := hI.bel.size
      clear hx
      obtain ⟨dev, no, kind, tm, lane, time⟩ := x
      dsimp only at *
      have hIn := hI.below (below_new wr (.cells #[.string dev, .int .i64 no, .int .i64 kind, .int .i64 tm, .int .i64 lane, .int .i64 time] 155))
      by_cases hkd : kind = 1
      · subst hkd
        have hS2 := Lib.hid (show SG (l.drop k) = RV dev tm :: SG (l.drop (k + 1)) by rw [hS.out, if_pos rfl])
        clear hS hI
        generalize RV dev tm = rv at *
        go_wp2_with fail
        refine (hRx.out _ hIn.bel).mono ?_; rintro e w6 ⟨rfl, B6⟩
        have hI6 := hIn.below B6
        have hz6 := hI6.bel.size
        have hw6 := Lib.hid hI6.own
        clear hIn B6
        go_wp2_with (at_builtin; refine wpList_app rfl (.tmp 17) (.tmp 24) 22 rfl Tryz.underlying22 info_int rfl (by omega) (by omega) hw6.out rfl rfl (by first | rfl | (simp; done)) (by rfl) (by simp [Value.oneCell']) (by omega) hz6 ?_; intro v7 w7 hown7 hg7)
        have hI7 := hI6.app hown7 hg7
        clear hI6 hown7 hg7 hw6
        go_roundw
        case rel => exact ⟨k + 1, _, by omega, by go_num, hI7, by rw [List.length_append]; simp; omega, Lib.hid (by rw [← hF.out, hS2.out, List.append_assoc]; rfl)⟩
        case measure => simp [intOf]; omega
      · have hS2 := Lib.hid (show SG (l.drop k) = SG (l.drop (k + 1)) by rw [hS.out, if_neg hkd])
        clear hS hI
        go_wp2
        go_roundw
        case rel => exact ⟨k + 1, acc, by omega, by go_num, hIn, by omega, Lib.hid (by rw [← hF.out, hS2.out])⟩
        case measure => simp [intOf]; omega
    · obtain rfl : k = n := by omega
      have hA : Hid (acc = SG l) := Lib.hid (by rw [← hF.out, drop_end (by rw [hl.out]; exact Nat.le_refl _), hG0.out, List.append_nil])
      obtain ⟨A', c', rfl⟩ := own_shape hI.own
      have hbel := hI.bel
      have hown := Lib.hid hI.own
      have hS1 := Lib.hid (fun n' (hn' : n' = acc.length) => sortAny_c w.heap.size A' n' c' acc wr (by rw [hn']; exact hown.out) (by omega))
      generalize hal : acc.length = m at *
      clear hF hI
      go_wp2_with fail
      refine (hS1.out m rfl).mono ?_; rintro e w6 ⟨rfl, ho6, hg6⟩
      have hb6 := below_own hbel hown.out hg6 hbel.size (Nat.le_refl _)
      have hC1 := Lib.hid (compactAny_c w.heap.size A' m c' _ w6 ho6 (by omega))
      rw [hA.out] at hC1
      have hV' := hV.out.symm
      rw [hV'] at hC1
      clear hS1 hown hg6 hbel hV hA hV'
      go_wp2_with fail
      refine hC1.out.mono ?_; rintro e w7 ⟨rfl, ho7, hg7⟩
      have hb7 := below_own hb6 ho6 hg7 hb6.size (Nat.le_refl _)
      clear hC1 ho6 hg7 hb6
      go_wp2
      go_ret
      exact ⟨A', c', rfl, ho7, hb7⟩
set_option maxHeartbeats 3200000 in
set_option maxRecDepth 100000 in
theorem startsOf_c (Ac : Option Addr) (nc cc : Nat) (cl : List Ck) (A : Option Addr) (n c : Nat) (l : List Sg) (w : World) (hc : RCk w Ac nc cl) (h : RSg w A n l) (hcb : CkBd cl) (hsb : SgBd l) (hn : n ≤ 3000) :
    Calls Tryz.prog 20 #[.slice Ac nc cc, .slice A n c] w (RetI w (startsV cl l)) := by
  have hR := Lib.hid (fun W B => h.below (w' := W) B)
  have hl := Lib.hid h.len
  have hGa := Lib.hid (fun k x (h : l[k]? = some x) => stGo_at (cl := cl) h)
  have hG0 := Lib.hid (show stGo cl [] = [] from rfl)
  have hGl := stGo_len cl l
  have hRt := Lib.hid (fun k x (h : l[k]? = some x) W B => rightAt_c Ac nc cc cl x.dev x.tm W (hc.below (w' := W) B) hcb (hsb x (List.mem_of_getElem? h)))
  have hV := Lib.hid (show startsV cl l = Lib.compact ((stGo cl l).mergeSort fun x y => decide (x ≤ y)) from rfl)
  have hln := h.len
  generalize startsV cl l = V at *
  generalize stGo cl = SG at *
  generalize rightV cl = RV at *
  have hI0 := IL.start w
  clear h hc hcb hsb
  go_enter Tryz.func20, Tryz.ntmps20
  go_wp2_with fail
  go_loopw [5, 10] (fun out i wr => ∃ (k : Nat) (acc : List Int), k ≤ n ∧ i = .int .i64 k ∧ IL w out acc wr ∧ acc.length ≤ k ∧ Hid (acc ++ SG (l.drop k) = SG l)) (fun _ i _ => n - (intOf i).toNat)
  case atStart => exact ⟨0, [], Nat.zero_le _, rfl, hI0, Nat.le_refl _, Lib.hid rfl⟩
  case round =>
    clear hI0
    obtain ⟨k, acc, hk, rfl, hI, hac, hF⟩ := hrel
    by_cases hlt : k < n
    · obtain ⟨b, off, x, rfl, hbl, hx, c0, c1, c2, c3, c4, c5⟩ := RSg_at6 (hR.out _ hI.bel) hlt
      have hS := Lib.hid (hGa.out k x hx)
      have hRx := Lib.hid (fun W B => hRt.out k x hx W B)
      have hmw := hI.bel.size
      clear hx
      obtain ⟨dev, no, kind, tm, lane, time⟩ := x
      dsimp only at *
      have hIn := hI.below (below_new wr (.cells #[.string dev, .int .i64 no, .int .i64 kind, .int .i64 tm, .int .i64 lane, .int .i64 time] 155))
      by_cases hkd : kind = 1
      · subst hkd
        have hS2 := Lib.hid (show SG (l.drop k) = RV dev tm :: SG (l.drop (k + 1)) by rw [hS.out, if_pos rfl])
        clear hS hI
        generalize RV dev tm = rv at *
        go_wp2_with fail
        refine (hRx.out _ hIn.bel).mono ?_; rintro e w6 ⟨rfl, B6⟩
        have hI6 := hIn.below B6
        have hz6 := hI6.bel.size
        have hw6 := Lib.hid hI6.own
        clear hIn B6
        go_wp2_with (at_builtin; refine wpList_app rfl (.tmp 17) (.tmp 24) 22 rfl Tryz.underlying22 info_int rfl (by omega) (by omega) hw6.out rfl rfl (by first | rfl | (simp; done)) (by rfl) (by simp [Value.oneCell']) (by omega) hz6 ?_; intro v7 w7 hown7 hg7)
        have hI7 := hI6.app hown7 hg7
        clear hI6 hown7 hg7 hw6
        go_roundw
        case rel => exact ⟨k + 1, _, by omega, by go_num, hI7, by rw [List.length_append]; simp; omega, Lib.hid (by rw [← hF.out, hS2.out, List.append_assoc]; rfl)⟩
        case measure => simp [intOf]; omega
      · have hS2 := Lib.hid (show SG (l.drop k) = SG (l.drop (k + 1)) by rw [hS.out, if_neg hkd])
        clear hS hI
        go_wp2
        go_roundw
        case rel => exact ⟨k + 1, acc, by omega, by go_num, hIn, by omega, Lib.hid (by rw [← hF.out, hS2.out])⟩
        case measure => simp [intOf]; omega
    · obtain rfl : k = n := by omega
      have hA : Hid (acc = SG l) := Lib.hid (by rw [← hF.out, drop_end (by rw [hl.out]; exact Nat.le_refl _), hG0.out, List.append_nil])
      obtain ⟨A', c', rfl⟩ := own_shape hI.own
      have hbel := hI.bel
      have hown := Lib.hid hI.own
      have hS1 := Lib.hid (fun n' (hn' : n' = acc.length) => sortAny_c w.heap.size A' n' c' acc wr (by rw [hn']; exact hown.out) (by omega))
      generalize hal : acc.length = m at *
      clear hF hI
      go_wp2_with fail
      refine (hS1.out m rfl).mono ?_; rintro e w6 ⟨rfl, ho6, hg6⟩
      have hb6 := below_own hbel hown.out hg6 hbel.size (Nat.le_refl _)
      have hC1 := Lib.hid (compactAny_c w.heap.size A' m c' _ w6 ho6 (by omega))
      rw [hA.out] at hC1
      have hV' := hV.out.symm
      rw [hV'] at hC1
      clear hS1 hown hg6 hbel hV hA hV'
      go_wp2_with fail
      refine hC1.out.mono ?_; rintro e w7 ⟨rfl, ho7, hg7⟩
      have hb7 := below_own hb6 ho6 hg7 hb6.size (Nat.le_refl _)
      clear hC1 ho6 hg7 hb6
      go_wp2
      go_ret
      exact ⟨A', c', rfl, ho7, hb7⟩
end Go.Proofs.YtmfebjeddgigmaaGreatDoor
