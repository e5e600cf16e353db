import Derived.Test.YtnkhdofcmanipaaGreatDoorTaP23
import Derived.Test.YtnkhdofcmanipaaGreatDoorTaSeedM
import Derived.BigGuardPart
import Derived.Test.YtnkhdofcmanipaaGreatDoorTaDraws
/- judge.checkRanked, tumbref1.RankedFault of any ranks. Printed by wip/mkrkf.py. -/
namespace Go.Proofs.YtnkhdofcmanipaaGreatDoor
open Go.RowKit Go.Lib Go.Sort
open Go.Maps (Keyed string_keyed)
open Go.WideMaps (keyOf_string_mk)
set_option linter.unusedVariables false

end Go.Proofs.YtnkhdofcmanipaaGreatDoor

/- The stream's verdicts: VerdictList. -/
namespace Go.Proofs.YtnkhdofcmanipaaGreatDoor
open Go.RowKit
set_option linter.unusedVariables false

theorem info_verd : (Tryz.prog.info? 98).map (fun i => (i.zero, i.size, i.bytes)) = some (some (.agg #[.string ⟨#[]⟩, .int .i64 0, .slice none 0 0]), 3, 48) := by kernel_rfl
theorem vdr_set : ∀ (l : List Vd) (k : Nat) (who : ByteArray) (x : Vd), l[k]? = some x →
    (l.flatMap vdE).set (k * 3) (.string who) = (l.set k { x with who := who }).flatMap vdE
  | [], _, _, _, h => by simp at h
  | x :: l, 0, who, t, h => by
    obtain rfl : x = t := by simpa using h
    simp [vdE]
  | x :: l, k + 1, who, t, h => by
    rw [List.set_cons_succ, List.flatMap_cons, List.flatMap_cons, ← vdr_set l k who t (by simpa using h), List.set_append_right _ _ (by show 3 ≤ _; omega)]
    congr 2
    show (k + 1) * 3 - 3 = _; omega
theorem vdr_set1 : ∀ (l : List Vd) (k : Nat) (v : Int) (x : Vd), l[k]? = some x →
    (l.flatMap vdE).set (k * 3 + 1) (.int .i64 v) = (l.set k { x with fault := v }).flatMap vdE
  | [], _, _, _, h => by simp at h
  | x :: l, 0, v, t, h => by
    obtain rfl : x = t := by simpa using h
    simp [vdE]
  | x :: l, k + 1, v, t, h => by
    rw [List.set_cons_succ, List.flatMap_cons, List.flatMap_cons, ← vdr_set1 l k v t (by simpa using h), List.set_append_right _ _ (by show 3 ≤ _; omega)]
    congr 2
    show (k + 1) * 3 + 1 - 3 = _; omega
def RetVdL (w : World) (g : Nat) (zs : Zs) (k : Nat) (e : Ending) (w' : World) : Prop := ∃ (A : Option Addr) (n c : Nat) (l : List Vd) (k' : Nat), e = .returned (.slice A n c) ∧ w'.ownsRow w.heap.size 98 3 (.slice A n c) n (l.flatMap vdE) ∧ l.length = n ∧ n ≤ 5 ∧ St w' g zs k' ∧ k' ≤ k + 20 ∧ w.grownBy w' (some g)
set_option maxHeartbeats 3200000 in
set_option maxRecDepth 100000 in
theorem verdictList_c (g : Nat) (zs : Zs) (k : Nat) (w : World) (h : St w g zs k) (hk : k + 2000 ≤ 1099511627776) :
    Calls Tryz.prog 6 #[.pointer (some ⟨g, 0, none⟩)] w (RetVdL w g zs k) := by
  have hglt := h.lt
  have hL0 : RS 9 (w.alloc (.cells #[.string ⟨#[115, 48]⟩, .string ⟨#[115, 49]⟩, .string ⟨#[115, 50]⟩, .string ⟨#[115, 51]⟩, .string ⟨#[115, 57]⟩] 9)) (some ⟨w.heap.size, 0, none⟩) 5 ([⟨#[115, 48]⟩, ⟨#[115, 49]⟩, ⟨#[115, 50]⟩, ⟨#[115, 51]⟩, ⟨#[115, 57]⟩] : List ByteArray) := R1.litAt _ _ _ ([⟨#[115, 48]⟩, ⟨#[115, 49]⟩, ⟨#[115, 50]⟩, ⟨#[115, 51]⟩, ⟨#[115, 57]⟩] : List ByteArray) rfl rfl (by decide)
  have s0 := h.alloc (.cells #[.string ⟨#[115, 48]⟩, .string ⟨#[115, 49]⟩, .string ⟨#[115, 50]⟩, .string ⟨#[115, 51]⟩, .string ⟨#[115, 57]⟩] 9)
  have gr0 := grown_alloc (grown_refl w (some g)) (.cells #[.string ⟨#[115, 48]⟩, .string ⟨#[115, 49]⟩, .string ⟨#[115, 50]⟩, .string ⟨#[115, 51]⟩, .string ⟨#[115, 57]⟩] 9)
  generalize hNM : ([⟨#[115, 48]⟩, ⟨#[115, 49]⟩, ⟨#[115, 50]⟩, ⟨#[115, 51]⟩, ⟨#[115, 57]⟩] : List ByteArray) = NM at hL0
  clear hNM
  go_enter Tryz.func6, Tryz.ntmps6
  go_wp2_with fail
  go_loopw [3, 9] (fun out i wr => ∃ (j m kk : Nat) (acc : List Vd), j ≤ 5 ∧ m ≤ j ∧ i = .int .i64 j ∧ Hid (acc.length = m) ∧ wr.ownsRow w.heap.size 98 3 out m (acc.flatMap vdE) ∧ RS 9 wr (some ⟨w.heap.size, 0, none⟩) 5 NM ∧ St wr g zs kk ∧ kk ≤ k + 2 * j ∧ w.grownBy wr (some g)) (fun _ i _ => 5 - (intOf i).toNat)
  case atStart => exact ⟨0, 0, k, [], by omega, by omega, rfl, Lib.hid rfl, World.ownsRow_nil _ _ _ _, hL0, s0, by omega, gr0⟩
  case round =>
    clear hL0 s0 gr0 h
    obtain ⟨j, m, kk, acc, hj, hm, rfl, hla, hown, hRL, hst, hkk, hgr⟩ := hrel
    by_cases hlt : j < 5
    · obtain ⟨bO, oO, x, hA0, lO, hx, cx⟩ := hRL.at_ hlt
      injection hA0 with hA0
      injection hA0 with hA0 hA1
      subst hA0
      subst hA1
      rw [Nat.zero_add] at cx
      have hji : (j : Int) < 5 := by omega
      clear hx
      go_wp2_with fail
      refine (flipE_c g zs kk _ _ hst (by omega) (by omega) (by omega)).mono ?_; rintro e w2 ⟨fl, rfl, s2, g2⟩
      have hown2 := own_keep hown hglt g2
      have hRL2 := hRL.keep (T := 25) (by decide) (hst.keep g2)
      have hgr2 := grown_trans hgr g2
      clear hown hRL hst hgr g2 cx
      cases fl
      · go_wp2
        go_roundw
        case rel => exact ⟨j + 1, m, kk + 1, acc, by omega, by omega, by go_num, hla, hown2, hRL2, s2, by omega, hgr2⟩
        case measure => simp [intOf]; omega
      · go_wp2_with fail
        refine (pickE_c g zs _ _ _ _ [0, 1, 3, 8] _ (s2.alloc _) (by omega) (R1.litAt _ _ _ _ (by first | rfl | (simp; done)) (by simp) (by simp)) (by simp)).mono ?_; rintro e w5 ⟨pv, rfl, hpv, s5, g5⟩
        have hown5 := own_keep (hown2.alloc (.cells #[.int .i64 0, .int .i64 1, .int .i64 3, .int .i64 8] 3)) hglt g5
        have hRL5 := (hRL2.alloc (.cells #[.int .i64 0, .int .i64 1, .int .i64 3, .int .i64 8] 3)).keep (T := 25) (by decide) ((s2.alloc _).keep g5)
        have hgr5 := grown_trans (grown_alloc hgr2 (.cells #[.int .i64 0, .int .i64 1, .int .i64 3, .int .i64 8] 3)) g5
        have hown6 := hown5.alloc (.cells #[.string ⟨#[97, 110, 121]⟩] 9)
        have hRL6 := hRL5.alloc (.cells #[.string ⟨#[97, 110, 121]⟩] 9)
        have hgr6 := grown_alloc hgr5 (.cells #[.string ⟨#[97, 110, 121]⟩] 9)
        have s6 := s5.alloc (.cells #[.string ⟨#[97, 110, 121]⟩] 9)
        have hz6 := hgr6.size
        clear hown2 hRL2 s2 hgr2 g5 hpv hown5 hRL5 hgr5 s5
        go_wp2_with (at_builtin; refine wpList_app rfl (.tmp 15) (.tmp 22) 28 rfl Tryz.underlying28 info_verd rfl (by omega) (by omega) hown6 rfl rfl (by first | rfl | (simp; done)) (by rfl) (by simp [Value.oneCell']) (by omega) hz6 ?_; intro v7 w7 hown7 hg7)
        have H := Lib.hid (And.intro (show w7.ownsRow w.heap.size 98 3 v7 (m + 1) ((acc ++ [(⟨x, pv, some ⟨w5.heap.size, 0, none⟩, 1, 1⟩ : Vd)]).flatMap vdE) by rw [← flat_snoc]; exact hown7) (And.intro (hRL6.keep (T := 98) (by decide) (keep_row hown6 hg7)) (And.intro (s6.grown hg7 (fun i hi => by have := own_row_lt hown6 i hi; omega)) (grown_own hgr6 hg7 (own_row_lt hown6)))))
        clear hown7 hg7 hown6 hRL6 s6 hgr6
        go_roundw
        case rel => exact ⟨j + 1, m + 1, _, _, by omega, by omega, by go_num, Lib.hid (by rw [List.length_append, hla.out]; rfl), H.out.1, H.out.2.1, H.out.2.2.1, by omega, H.out.2.2.2⟩
        case measure => simp [intOf]; omega
    · obtain rfl : j = 5 := by omega
      obtain ⟨A, c, rfl⟩ := own_shape hown
      have hla' := hla.out
      clear hRL hla
      by_cases hj0 : m = 0
      · subst hj0
        go_wp2
        go_ret
        exact ⟨A, 0, c, acc, kk, rfl, hown, hla', by omega, hst, by omega, hgr⟩
      · have hj1 : (0 : Int) < (m : Int) := by omega
        have hj2 : 0 < m := by omega
        go_wp2_with fail
        refine (flipE_c g zs kk _ _ hst (by omega) (by omega) (by omega)).mono ?_; rintro e w7 ⟨fl, rfl, s7, g7⟩
        have hown7 := own_keep hown hglt g7
        have hgr7 := grown_trans hgr g7
        clear hown hst hgr g7
        cases fl
        · go_wp2
          go_ret
          exact ⟨A, m, c, acc, _, rfl, hown7, hla', by omega, s7, by omega, hgr7⟩
        · go_wp2_with fail
          refine (nextE_c g zs _ (m : Int) _ s7 (by omega) (by omega) (by omega)).mono ?_; rintro e w8 ⟨v, rfl, v0, v1, s8, g8⟩
          obtain ⟨q, rfl⟩ : ∃ q : Nat, v = q := ⟨v.toNat, by omega⟩
          have hown8 := own_keep hown7 hglt g8
          have hgr8 := grown_trans hgr7 g8
          obtain ⟨b, rfl, hbb⟩ := own_someN hown8 (by omega)
          obtain ⟨b', off', x, hA, hbl, hx, c0, c1, c2⟩ := RVd_at3 (RN.of_own vdE_len hown8 hla' (by omega)) (k := q) (by omega)
          injection hA with hA
          injection hA with hA hAo
          subst hA
          subst hAo
          rw [Nat.zero_add] at c0 c1
          have hx' := Lib.hid hx
          have e8 : (q : Int) < m := by omega
          clear hown7 s7 hgr7 g8 hx c2
          obtain ⟨xw, xf, xA, xn, xc⟩ := x
          dsimp only at c0 c1
          have f0 := hown8.frozenAt (q * 3)
          have f1 := hown8.frozenAt (q * 3 + 1)
          have hoS := Lib.hid (someE_c g zs (kk + 1 + 1) [xw, ⟨#[]⟩, ⟨#[115, 49]⟩] 3 3 w8.heap.size #[.string xw, .string ⟨#[]⟩, .string ⟨#[115, 49]⟩] w8 s8 (by omega) rfl rfl rfl (by decide) (by decide))
          go_wp2_with fail
          refine hoS.out.mono ?_; rintro e w9 ⟨v9, rfl, hv9, s9, g9⟩
          have hown9 := own_keep hown8 hglt g9
          have hgr9 := grown_trans hgr8 g9
          clear hoS hv9
          go_wp2_with fail
          refine (oddE_c g zs _ 0 8 _ s9 (by omega) (by decide) (by decide) (by decide)).mono ?_; rintro e w10 ⟨v10, rfl, b0, b1, s10, g10⟩
          have hown10 := own_keep hown9 hglt g10
          have hgr10 := grown_trans hgr9 g10
          obtain ⟨b', off', x, hA, hbl', hx, y0, y1, y2⟩ := RVd_at3 (RN.of_own vdE_len hown10 hla' (by omega)) (k := q) (by omega)
          injection hA with hA
          injection hA with hA hAo
          subst hA
          subst hAo
          rw [Nat.zero_add] at y0 y1
          clear hx y2
          have fx := hown10.frozenAt (q * 3)
          have fy := hown10.frozenAt (q * 3 + 1)
          clear c0 c1 f0 f1
          go_wp2
          go_ret
          have t1 := (hown10.stored (q * 3) (.string v9)).1
          rw [vdr_set _ _ _ _ hx'.out] at t1
          have t2 := (t1.stored (q * 3 + 1) (.int .i64 v10)).1
          rw [vdr_set1 _ _ _ ⟨v9, xf, xA, xn, xc⟩ (by rw [List.getElem?_set_self (by omega)])] at t2
          exact ⟨_, m, c, _, _, rfl, t2, by rw [List.length_set, List.length_set]; exact hla', by omega, ((s10.setAt (b := b) (o := q * 3) (by omega) (.string v9)).setAt (b := b) (o := q * 3 + 1) (by omega) (.int .i64 v10)), by omega, grown_setAt (grown_setAt hgr10 hbb (o := q * 3) (.string v9)) hbb (o := q * 3 + 1) (.int .i64 v10)⟩
set_option maxHeartbeats 6400000 in
set_option maxRecDepth 100000 in
theorem verdictsFault_c (A : Option Addr) (n c : Nat) (l : List Vd) (w : World) (h : RVd w A n l) :
    Calls Tryz.prog 9 #[.slice A n c] w fun e w' => e = .returned (.int .i64 (verdErr l)) ∧ Below w.heap.size w w' := by
  have hl := h.len
  have hbd := h.bd
  have hE : verdErr l = if 300 < n then 2 else verdGo none l := by unfold verdErr; rw [hl]
  have hGa := Lib.hid (fun k x p (h : l[k]? = some x) => verdGo_at p h)
  have hG0 := Lib.hid (show ∀ p, verdGo p [] = 0 from fun p => rfl)
  generalize verdErr l = E at *
  generalize verdGo = FG at *
  have hE' := Lib.hid hE
  have hl' := Lib.hid hl
  clear hE hl
  by_cases hbig : 300 < n
  · go_enter Tryz.func9, Tryz.ntmps9
    go_wp2
    go_ret
    exact ⟨ret_i (by rw [hE'.out, if_pos hbig]), Below.refl _ _⟩
  go_enter Tryz.func9, Tryz.ntmps9
  go_wp2
  go_loopw [10] (fun i wr => ∃ k : Nat, k ≤ n ∧ i = .int .i64 k ∧ Below w.heap.size w wr ∧ Hid (FG (prevV l k) (l.drop k) = FG none l)) (fun i _ => n - (intOf i).toNat)
  case atStart => exact ⟨0, Nat.zero_le _, rfl, Below.refl _ _, Lib.hid rfl⟩
  case round =>
    obtain ⟨k, hk, rfl, hB, hF⟩ := hrel
    by_cases hlt : k < n
    · obtain ⟨b, off, x, rfl, hbl, hx, c0, c1, c2⟩ := RVd_at3 (h.below hB) hlt
      have hS := Lib.hid (hGa.out k x (prevV l k) hx)
      have hP := Lib.hid (prevV_succ hx)
      obtain ⟨who, fault, xA, xn, xc⟩ := x
      dsimp only at *
      clear hx
      go_wp2_with fail
      refine (key_c who _).mono ?_; rintro e w2 ⟨rfl, B2⟩
      have hbox := blk_below (heap_alloc_new wr _) B2
      have hB2 := below_nextBox hB B2
      clear c0 c1 c2
      cases hkb : keyB who
      · have hR := Lib.hid (show FG none l = 5 by rw [← hF.out, hS.out, if_pos hkb])
        clear hkb
        go_wp2
        go_ret
        exact ⟨ret_i (by rw [hE'.out, if_neg hbig, hR.out]), hB2⟩
      have hS2 := Lib.hid (show FG (prevV l k) (l.drop k) = if ¬ (0 ≤ fault ∧ fault ≤ 8) then 4 else if leO who (prevV l k) = true then 7 else FG (some who) (l.drop (k + 1)) by rw [hS.out, if_neg (by simp [hkb])])
      clear hS hkb
      have zx := (blk_facts hbox).1 0
      have zy := (blk_facts hbox).1 1
      have hlt2 := lt_of_heap hbox
      by_cases hT : 0 ≤ fault ∧ fault ≤ 8
      rotate_left
      · have hR := Lib.hid (show FG none l = 4 by rw [← hF.out, hS2.out, if_pos hT])
        have hd : decide (0 ≤ fault ∧ fault ≤ 8) = false := decide_eq_false hT
        clear hT
        go_wp2_with (go_at_call 50; refine (in_c _ _ _ _).mono ?_; rintro e w' ⟨rfl, rfl⟩; rw [hd])
        go_ret
        exact ⟨ret_i (by rw [hE'.out, if_neg hbig, hR.out]), hB2⟩
      have hS2' := Lib.hid (show FG (prevV l k) (l.drop k) = if leO who (prevV l k) = true then 7 else FG (some who) (l.drop (k + 1)) by rw [hS2.out, if_neg (by simpa using hT)])
      have hd : decide (0 ≤ fault ∧ fault ≤ 8) = true := decide_eq_true hT
      clear hS2 hT
      by_cases hk0 : k = 0
      · subst hk0
        have hR := Lib.hid (show FG none l = FG (some who) (l.drop (0 + 1)) by rw [← hF.out, hS2'.out]; rfl)
        clear hF hS2'
        go_wp2_with (go_at_call 50; refine (in_c _ _ _ _).mono ?_; rintro e w' ⟨rfl, rfl⟩; rw [hd])
        go_quiet (fail)
        go_wp2
        go_roundw
        case rel => exact ⟨0 + 1, by omega, by go_num, below_drewN hB2 _, Lib.hid (by rw [hP.out, hR.out])⟩
        case measure => simp [intOf]; omega
      · obtain ⟨b', off', y, hA', hbl', hy, d0, _, _⟩ := RVd_at3 (h.below hB2) (k := k - 1) (by omega)
        injection hA' with hA'
        injection hA' with e1 e2
        subst e1 e2
        have hPk : prevV l k = some y.who := by unfold prevV; rw [if_neg hk0, hy]; rfl
        have hS3 := Lib.hid (show FG none l = if leS who y.who = true then 7 else FG (some who) (l.drop (k + 1)) by rw [← hF.out, hS2'.out, hPk]; rfl)
        have hL := Lib.hid (show leS who y.who = (Op.bytesLess who.toList y.who.toList || (who.toList == y.who.toList)) from rfl)
        clear hF hS2' hy hPk
        generalize y.who = yw at *
        have e2 : (0 : Int) ≤ (k : Int) - 1 := by omega
        have e4 : (k : Int) - 1 < n := by omega
        have e1 : IntKind.i64.wrap ((k : Int) - 1) = (k : Int) - 1 := IntWalk.i64_in _ (by omega)
        have e3 : ((k : Int) - 1).toNat = k - 1 := by omega
        have e6 : 0 < k := by omega
        have e9 : (1 : Int) ≤ (k : Int) := by omega
        have e10 : (k : Int) ≤ n := by omega
        have e11 : (k : Int) < n := by omega
        have e7 : decide (0 < k) = true := decide_eq_true e6
        have e8 : decide ((0 : Int) < (k : Int)) = true := decide_eq_true (by omega)
        go_wp2_with (go_at_call 50; refine (in_c _ _ _ _).mono ?_; rintro e w' ⟨rfl, rfl⟩; rw [hd])
        go_quiet (fail)
        rw [← hL.out]
        clear e1 e2 e3 e4 e6 e7 e8 e9 e10 e11
        generalize leS who yw = q at *
        cases q
        · have hR := Lib.hid (show FG none l = FG (some who) (l.drop (k + 1)) by rw [hS3.out]; rfl)
          clear hL hS3
          go_wp2
          go_roundw
          case rel => exact ⟨k + 1, by omega, by go_num, below_drewN hB2 _, Lib.hid (by rw [hP.out, hR.out])⟩
          case measure => simp [intOf]; omega
        · have hR := Lib.hid (show FG none l = 7 by rw [hS3.out]; rfl)
          clear hL hS3
          go_wp2
          go_ret
          exact ⟨ret_i (by rw [hE'.out, if_neg hbig, hR.out]), below_drewN hB2 _⟩
    · obtain rfl : k = n := by omega
      have hR := Lib.hid (show FG none l = 0 by rw [← hF.out, drop_end (by rw [hl'.out]; exact Nat.le_refl _), hG0.out])
      go_wp2
      go_ret
      exact ⟨ret_i (by rw [hE'.out, if_neg hbig, hR.out]), hB⟩
end Go.Proofs.YtnkhdofcmanipaaGreatDoor
