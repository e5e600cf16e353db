/- The stream's clocks. Printed by wip/genclkm.py. -/
import Derived.Test.YtjafcnblgeibpaaDoorMkReg
import Derived.Test.YtjafcnblgeibpaaDoorClkC
namespace Go.Proofs.YtjafcnblgeibpaaDoor
open Go.RowKit Go.Shelf Go.Lib Go.Sort
set_option linter.unusedVariables false

theorem ckK : EncK ckE [0, 1, 1] := by
  refine ⟨fun _ => rfl, fun x c hc => ?_, fun x c v hc hv => ?_⟩
  · match c, hc with
    | 0, _ => exact ⟨_, rfl, _, rfl⟩
    | 1, _ => exact ⟨_, rfl, _, rfl⟩
    | 2, _ => exact ⟨_, rfl, _, rfl⟩
  · match c, hc, hv with
    | 0, _, ⟨y, h⟩ => subst h; exact ⟨⟨y, x.from_, x.ahead⟩, rfl⟩
    | 1, _, ⟨y, h⟩ => subst h; exact ⟨⟨x.dev, y, x.ahead⟩, rfl⟩
    | 2, _, ⟨y, h⟩ => subst h; exact ⟨⟨x.dev, x.from_, y⟩, rfl⟩
/-- what Clocks hands back -/
def RetCk (w : World) (g : Nat) (zs : List Int) (k : Nat) (e : Ending) (w' : World) : Prop := ∃ (A : Option Addr) (n c : Nat) (l : List Ck) (k' : Nat), e = .returned (.slice A n c) ∧ RCk w' A n l ∧ n ≤ 6 ∧ St w' g zs k' ∧ k' ≤ k + 40 ∧ w.grownBy w' (some g)
set_option maxHeartbeats 3200000 in
set_option maxRecDepth 100000 in
theorem clocks_c (g : Nat) (zs : List Int) (k : Nat) (w : World) (h : St w g zs k) (hk : k + 100 ≤ 1099511627776) :
    Calls Tryd.prog 5 #[.pointer (some ⟨g, 0, none⟩)] w (RetCk w g zs k) := by
  have hglt := h.lt
  have sA := h.alloc (.cells #[.string ⟨#[100, 97]⟩, .string ⟨#[100, 98]⟩, .string ⟨#[100, 119]⟩] 9)
  have rA : RS 9 (w.alloc (.cells #[.string ⟨#[100, 97]⟩, .string ⟨#[100, 98]⟩, .string ⟨#[100, 119]⟩] 9)) (some ⟨w.heap.size, 0, none⟩) 3 [⟨#[100, 97]⟩, ⟨#[100, 98]⟩, ⟨#[100, 119]⟩] := R1.litAt w _ _ _ rfl rfl (by decide)
  have gA := grown_alloc (grown_refl w (some g)) (.cells #[.string ⟨#[100, 97]⟩, .string ⟨#[100, 98]⟩, .string ⟨#[100, 119]⟩] 9)
  go_enter Tryd.func5, Tryd.ntmps5
  go_wp2_with fail
  clear h
  generalize w.alloc (.cells #[.string ⟨#[100, 97]⟩, .string ⟨#[100, 98]⟩, .string ⟨#[100, 119]⟩] 9) = wA at *
  go_loopw [3, 10] (fun out i wr => ∃ (j kk : Nat) (acc : List Ck), j ≤ 3 ∧ i = .int .i64 j ∧ wr.ownsRow w.heap.size 63 3 out acc.length (acc.flatMap ckE) ∧ acc.length ≤ 2 * j ∧ RS 9 wr (some ⟨w.heap.size, 0, none⟩) 3 [⟨#[100, 97]⟩, ⟨#[100, 98]⟩, ⟨#[100, 119]⟩] ∧ St wr g zs kk ∧ kk ≤ k + 5 * j ∧ w.grownBy wr (some g)) (fun _ i _ => 3 - (intOf i).toNat)
  case atStart => exact ⟨0, k, [], by omega, rfl, World.ownsRow_nil _ _ _ _, Nat.le_refl _, rA, sA, by omega, gA⟩
  case round =>
    clear rA sA gA
    obtain ⟨j, kk, acc, hj, rfl, hown, hac, hR, hst, hkk, hgr⟩ := hrel
    by_cases hlt : j < 3
    · obtain ⟨b, off, x, e0, hbl, hx, cx⟩ := hR.at_ hlt
      injection e0 with e0
      injection e0 with e0 e1
      subst e0 e1
      rw [Nat.zero_add] at cx
      clear hx
      go_wp2_with fail
      refine (nextE_c g zs kk 3 _ hst (by omega) (by decide) (by decide)).mono ?_; rintro e w1 ⟨v, rfl, hv0, hv1, s1, g1⟩
      obtain ⟨m, rfl⟩ : ∃ m : Nat, v = m := ⟨v.toNat, by omega⟩
      have hown1 := own_keep hown hglt g1
      have hR1 := hR.keep (T := 25) (by decide) (hst.keep g1)
      have hgr1 := grown_trans hgr g1
      clear hown hR hst hgr g1 cx
      go_wp2_with fail
      go_loopw [3, 6, 16] (fun out fr i wr => ∃ (q k2 : Nat) (acc2 : List Ck) (f : Int), q ≤ m ∧ i = .int .i64 q ∧ fr = .int .i64 f ∧ (0 ≤ f ∧ f ≤ 1000000 * q) ∧ wr.ownsRow w.heap.size 63 3 out acc2.length (acc2.flatMap ckE) ∧ acc2.length ≤ acc.length + q ∧ RS 9 wr (some ⟨w.heap.size, 0, none⟩) 3 [⟨#[100, 97]⟩, ⟨#[100, 98]⟩, ⟨#[100, 119]⟩] ∧ St wr g zs k2 ∧ k2 ≤ kk + 1 + 2 * q ∧ w.grownBy wr (some g)) (fun _ _ i _ => m - (intOf i).toNat)
      case atStart => exact ⟨0, kk + 1, acc, 0, by omega, rfl, rfl, by omega, hown1, by omega, hR1, s1, by omega, hgr1⟩
      case round =>
        clear hown1 hR1 s1 hgr1
        rename World => wr
        obtain ⟨q, k2, acc2, f, hq, rfl, rfl, hf, hown, hac2, hR, hst, hk2, hgr⟩ := hrel
        by_cases hlt2 : q < m
        · have hlti : (q : Int) < m := by omega
          go_wp2_with fail
          refine (pickE_c g zs _ _ _ _ [0, 10, -10, 200, -500] _ (hst.alloc _) (by omega) (R1.litAt _ _ _ _ (by first | rfl | (simp; done)) (by simp) (by simp)) (by simp)).mono ?_; rintro e w5 ⟨pv, rfl, _, s5, g5⟩
          have hown5 := own_keep (hown.alloc (.cells #[.int .i64 0, .int .i64 10, .int .i64 (-10), .int .i64 200, .int .i64 (-500)] 3)) hglt g5
          have hR5 := (hR.alloc (.cells #[.int .i64 0, .int .i64 10, .int .i64 (-10), .int .i64 200, .int .i64 (-500)] 3)).keep (T := 25) (by decide) ((hst.alloc _).keep g5)
          have hgr5 := grown_trans (grown_alloc hgr (.cells #[.int .i64 0, .int .i64 10, .int .i64 (-10), .int .i64 200, .int .i64 (-500)] 3)) g5
          have hz5 := hgr5.size
          have hmx : acc2.length ≤ 1000 := by omega
          clear hown hR hst hgr g5
          go_wp2_with (at_builtin; refine wpList_app rfl (.tmp 18) (.tmp 25) 28 rfl Tryd.underlying28 info_clock rfl (by omega) (by omega) hown5 rfl rfl (by first | rfl | (simp; done)) (by rfl) (by simp [Value.oneCell']) (by omega) hz5 ?_; intro v6 w6 hown6 hg6)
          have hown7 : w6.ownsRow w.heap.size 63 3 v6 (acc2 ++ [(⟨x, f, pv⟩ : Ck)]).length ((acc2 ++ [(⟨x, f, pv⟩ : Ck)]).flatMap ckE) := by rw [← flat_snoc, List.length_append]; exact hown6
          have hR7 := hR5.keep (T := 63) (by decide) (keep_row hown5 hg6)
          have s7 := s5.grown hg6 (fun i hi => by have := own_row_lt hown5 i hi; omega)
          have hgr7 := grown_own hgr5 hg6 (own_row_lt hown5)
          have hl7 : (acc2 ++ [(⟨x, f, pv⟩ : Ck)]).length = acc2.length + 1 := List.length_append
          generalize acc2 ++ [(⟨x, f, pv⟩ : Ck)] = acc3 at *
          clear hown6 hown5 hR5 s5 hgr5 hg6
          go_wp2_with fail
          refine (pickB_c g zs _ [1, 20000, 100000] 1 100000 3 3 w6.heap.size #[.int .i64 1, .int .i64 20000, .int .i64 100000] w6 s7 (by omega) rfl rfl rfl (by decide) (by decide) (by simp)).mono ?_; rintro e w8 ⟨p8, rfl, p80, p81, s8, g8⟩
          have hown8 := own_keep hown7 hglt g8
          have hR8 := hR7.keep (T := 25) (by decide) (s7.keep g8)
          have hgr8 := grown_trans hgr7 g8
          have u1 : IntKind.i64.wrap (f + p8) = f + p8 := IntWalk.i64_in _ (by omega)
          clear hown7 hR7 s7 hgr7 g8
          go_wp2
          go_roundw
          case rel => exact ⟨q + 1, _, _, _, by omega, by go_num, rfl, by omega, hown8, by omega, hR8, s8, by omega, hgr8⟩
          case measure => simp [intOf]; omega
        · obtain rfl : q = m := by omega
          go_wp2
          go_roundw
          case rel => exact ⟨j + 1, k2, acc2, by omega, by go_num, hown, by omega, hR, hst, by omega, hgr⟩
          case measure => simp [intOf]; omega
    · obtain rfl : j = 3 := by omega
      obtain ⟨A, c, rfl⟩ := own_shape hown
      by_cases hn0 : acc.length = 0
      · rw [hn0] at hown ⊢
        have ha0 : acc = [] := List.eq_nil_of_length_eq_zero hn0
        subst ha0
        go_wp2
        go_ret
        exact ⟨A, 0, c, [], kk, rfl, RN.nil_ _ _ _ _ _, by omega, hst, by omega, hgr⟩
      have hn1 : 0 < acc.length := by omega
      generalize hal : acc.length = n at *
      have e1 : (0 : Int) < (n : Int) := by omega
      go_wp2_with fail
      refine (flipE_c g zs kk _ _ hst (by omega) (by omega) (by omega)).mono ?_; rintro e w7 ⟨fl, rfl, s7, g7⟩
      have hown7 := own_keep hown hglt g7
      have hgr7 := grown_trans hgr g7
      clear hown hst hgr g7 hR
      cases fl
      · go_wp2
        go_ret
        exact ⟨A, n, c, acc, _, rfl, RN.of_own ckE_len hown7 hal (by omega), by omega, s7, by omega, hgr7⟩
      · go_wp2_with fail
        refine (nextE_c g zs _ (n : Int) _ s7 (by omega) (by omega) (by omega)).mono ?_; rintro e w8 ⟨v, rfl, v0, v1, s8, g8⟩
        obtain ⟨q, rfl⟩ : ∃ q : Nat, v = q := ⟨v.toNat, by omega⟩
        have hown8 := own_keep hown7 hglt g8
        have hgr8 := grown_trans hgr7 g8
        obtain ⟨b, rfl, hbb⟩ := own_someN hown8 (by omega)
        have hqn : q < n := by omega
        have e8 : (q : Int) < n := by omega
        clear hown7 s7 hgr7 g8
        go_wp2_with fail
        refine wp_region_inv (by kernel_rfl) (fun listed a w' => ∃ xs : Nat → Value, a = { tmps := #[.pointer (some ⟨g, 0, none⟩), undef, .slice none 0 0, .slice (some ⟨b, 0, none⟩) n c, undef, u5, u6, .pointer (some ⟨b, q * 3, none⟩), .slice (some ⟨w.heap.size, 0, none⟩) 3 3, .int .i64 3, .int .i64 3, .bool false, u12, u13, u14, u15, u16, u17, u18, u19, u20, u21, u22, u23, u24, u25, u26, u27, u28, u29, u30, u31, u32, u33, .slice (some ⟨b, 0, none⟩) n c, .int .i64 ↑n, .bool true, .bool true, .pointer (some ⟨g, 0, none⟩), .bool true, .bool true, .slice (some ⟨b, 0, none⟩) n c, .pointer (some ⟨g, 0, none⟩), .slice (some ⟨b, 0, none⟩) n c, .int .i64 ↑n, .int .i64 ↑q, .pointer (some ⟨b, q * 3, none⟩), xs 0, xs 1, xs 2, xs 3, xs 4, xs 5, xs 6, xs 7, xs 8, xs 9, xs 10, xs 11, xs 12, xs 13, xs 14, xs 15, xs 16, xs 17, xs 18, xs 19, xs 20, xs 22, xs 23, xs 25, xs 26, undef], defers := [] } ∧ (∀ j, listed.getD j false = true → CT 3 9 63 ckE [.val (.pointer (some ⟨b, q * 3, none⟩)), .val (.pointer (some ⟨b, q * 3, none⟩)), .val (.pointer (some ⟨b, q * 3, none⟩)), .val (.pointer (some ⟨g, 0, none⟩)), .val (.pointer (some ⟨b, q * 3, none⟩)), .val (.pointer (some ⟨b, q * 3, none⟩)), .val (.pointer (some ⟨b, q * 3, none⟩)), .str, .strs 3, .str, .val (.pointer (some ⟨g, 0, none⟩)), .val (.pointer (some ⟨b, q * 3, none⟩)), .val (.pointer (some ⟨b, q * 3, none⟩)), .val (.pointer (some ⟨b, q * 3 + 1, none⟩)), .num, .ints 3, .num, .val (.pointer (some ⟨g, 0, none⟩)), .int (-1099511627776) 1099511627776, .val (.pointer (some ⟨b, q * 3, none⟩)), .val (.pointer (some ⟨b, q * 3, none⟩)), .any, .val (.pointer (some ⟨b, q * 3, none⟩)), .val (.pointer (some ⟨b, q * 3 + 1, none⟩)), .any, .val (.pointer (some ⟨b, q * 3, none⟩)), .val (.pointer (some ⟨b, q * 3 + 2, none⟩)), .any] j w' (xs j)) ∧ MW1 w8 g zs 63 ckE 3 w.heap.size b n c (kk + 10) [9, 16, 18] listed w') ?h0 (AllOps.of ?hs) ?he
        case h0 => exact ⟨fun j => match j with | 0 => undef | 1 => undef | 2 => undef | 3 => undef | 4 => undef | 5 => undef | 6 => undef | 7 => undef | 8 => undef | 9 => undef | 10 => undef | 11 => undef | 12 => undef | 13 => undef | 14 => undef | 15 => undef | 16 => undef | 17 => undef | 18 => undef | 19 => undef | 20 => undef | 22 => undef | 23 => undef | 25 => undef | 26 => undef | _ => undef, rfl, (fun j hj => by rw [rep_false] at hj; cases hj), MW1.start s8 hown8 hal (by first | (simp; done) | (simp; omega))⟩
        case hs =>
          refine ⟨?_, ?_, ?_, ?_, ?_, ?_, ?_, ?_, ?_, ?_, ?_, ?_, ?_, ?_, ?_, ?_, ?_, ?_, ?_, ?_, ?_, ?_, ?_, ?_, ?_, ?_, ?_, ?_, trivial⟩
          · intro listed a w' hs hI h0 hd K' hK
            obtain ⟨xs, rfl, hC, hW⟩ := hI
            have hK2 := Lib.hid hK
            have hC2 := Lib.hid hC
            clear hd hK hC h0
            go_simp
            exact hK2.out _ _ ⟨updV xs 0 (.pointer (some ⟨b, q * 3, none⟩)), by simp [updV], cond_set hC2.out (fun _ _ h => h) rfl, hW.keep (by decide)⟩
          · intro listed a w' hs hI h0 hd K' hK
            obtain ⟨xs, rfl, hC, hW⟩ := hI
            have hK2 := Lib.hid hK
            have hC2 := Lib.hid hC
            clear hd hK hC h0
            go_simp
            exact hK2.out _ _ ⟨updV xs 1 (.pointer (some ⟨b, q * 3, none⟩)), by simp [updV], cond_set hC2.out (fun _ _ h => h) rfl, hW.keep (by decide)⟩
          · intro listed a w' hs hI h0 hd K' hK
            obtain ⟨xs, rfl, hC, hW⟩ := hI
            have hK2 := Lib.hid hK
            have hC2 := Lib.hid hC
            clear hd hK hC h0
            go_simp
            exact hK2.out _ _ ⟨updV xs 2 (.pointer (some ⟨b, q * 3, none⟩)), by simp [updV], cond_set hC2.out (fun _ _ h => h) rfl, hW.keep (by decide)⟩
          · intro listed a w' hs hI h0 hd K' hK
            obtain ⟨xs, rfl, hC, hW⟩ := hI
            have hK2 := Lib.hid hK
            have hC2 := Lib.hid hC
            clear hd hK hC h0
            go_simp
            exact hK2.out _ _ ⟨updV xs 3 (.pointer (some ⟨g, 0, none⟩)), by simp [updV], cond_set hC2.out (fun _ _ h => h) rfl, hW.keep (by decide)⟩
          · intro listed a w' hs hI h0 hd K' hK
            obtain ⟨xs, rfl, hC, hW⟩ := hI
            have hK2 := Lib.hid hK
            have hC2 := Lib.hid hC
            clear hd hK hC h0
            go_simp
            exact hK2.out _ _ ⟨updV xs 4 (.pointer (some ⟨b, q * 3, none⟩)), by simp [updV], cond_set hC2.out (fun _ _ h => h) rfl, hW.keep (by decide)⟩
          · intro listed a w' hs hI h0 hd K' hK
            obtain ⟨xs, rfl, hC, hW⟩ := hI
            have e4 : xs 4 = (.pointer (some ⟨b, q * 3, none⟩)) := hC 4 (hd ⟨4, .data⟩ (by simp) rfl)
            have hK2 := Lib.hid hK
            have hC2 := Lib.hid hC
            clear hd hK hC h0
            go_simp
            exact hK2.out _ _ ⟨updV xs 5 (.pointer (some ⟨b, q * 3, none⟩)), by simp [updV, e4], cond_set hC2.out (fun _ _ h => h) rfl, hW.keep (by decide)⟩
          · intro listed a w' hs hI h0 hd K' hK
            obtain ⟨xs, rfl, hC, hW⟩ := hI
            have e5 : xs 5 = (.pointer (some ⟨b, q * 3, none⟩)) := hC 5 (hd ⟨5, .data⟩ (by simp) rfl)
            have hK2 := Lib.hid hK
            have hC2 := Lib.hid hC
            clear hd hK hC h0
            go_simp
            exact hK2.out _ _ ⟨updV xs 6 (.pointer (some ⟨b, q * 3, none⟩)), by simp [updV, e5], cond_set hC2.out (fun _ _ h => h) rfl, hW.keep (by decide)⟩
          · intro listed a w' hs hI h0 hd K' hK
            obtain ⟨xs, rfl, hC, hW⟩ := hI
            have e6 : xs 6 = (.pointer (some ⟨b, q * 3, none⟩)) := hC 6 (hd ⟨6, .data⟩ (by simp) rfl)
            have hK2 := Lib.hid hK
            have hC2 := Lib.hid hC
            obtain ⟨u9, c9, ⟨x9, rfl⟩, f9⟩ := hW.load ckK (s := 3) rfl (q := q) (d := 0) hqn (by decide)
            rw [Nat.add_zero] at c9
            clear hd hK hC h0
            go_simp
            exact hK2.out _ _ ⟨updV xs 7 (.string x9), by simp [updV, e6], cond_set hC2.out (fun _ _ h => h) ⟨_, rfl⟩, hW.keep (by decide)⟩
          · intro listed a w' hs hI h0 hd K' hK
            obtain ⟨xs, rfl, hC, hW⟩ := hI
            obtain ⟨v7, e7⟩ : ∃ v : ByteArray, xs 7 = .string v := hC 7 (hd ⟨7, .data⟩ (by simp) rfl)
            have hK2 := Lib.hid hK
            have hC2 := Lib.hid hC
            clear hd hK hC h0
            go_simp
            exact hK2.out _ _ ⟨updV xs 8 (.slice (some ⟨w'.heap.size, 0, none⟩) 3 3), by simp [updV, e7], cond_set hC2.out (fun j v h => Sat.alloc _ _ _ h) ⟨w'.heap.size, [v7, ⟨#[]⟩, ⟨#[100, 97]⟩], rfl, rfl, heap_alloc_new w' _⟩, ((hW.alloc _).keep (by decide))⟩
          · intro listed a w' hs hI h0 hd K' hK
            obtain ⟨xs, rfl, hC, hW⟩ := hI
            have e3 : xs 3 = (.pointer (some ⟨g, 0, none⟩)) := hC 3 (hd ⟨3, .data⟩ (by simp) rfl)
            obtain ⟨z8, l8, e8, hl8, hz8⟩ : ∃ (z : Nat) (l : List ByteArray), xs 8 = .slice (some ⟨z, 0, none⟩) 3 3 ∧ l.length = 3 ∧ w'.heap[z]? = some (.cells (l.map Value.string).toArray 9 (0, 0)) := hC 8 (hd ⟨8, .data⟩ (by simp) rfl)
            have hK2 := Lib.hid hK
            have hC2 := Lib.hid hC
            obtain ⟨k9, s9, hk9, hnx⟩ := MW1.call hglt hW h0 (by decide) (by decide)
            have r9 : RS 9 w' (some ⟨z8, 0, none⟩) 3 l8 := R1.of_lit hz8 rfl hl8 (by decide)
            clear h0
            clear hd hK hC
            go_simp
            refine (some_c g zs _ _ _ _ _ _ s9 (by omega) r9 (by decide)).mono ?_; rintro e w1 ⟨rfl, s10, g10⟩
            exact hK2.out _ _ ⟨updV xs 9 (.string (pickV zs k9 l8)), by simp [updV, e3, e8], cond_set hC2.out (fun j v h => Sat.stream (s9.keep g10) (by decide) (by decide) (by decide) _ _ h) ⟨_, rfl⟩, hnx _ _ (by omega) s10 g10⟩
          · intro listed a w' hs hI h0 hd K' hK
            obtain ⟨xs, rfl, hC, hW⟩ := hI
            have hK2 := Lib.hid hK
            have hC2 := Lib.hid hC
            clear hd hK hC h0
            go_simp
            exact hK2.out _ _ ⟨updV xs 10 (.pointer (some ⟨g, 0, none⟩)), by simp [updV], cond_set hC2.out (fun _ _ h => h) rfl, hW.keep (by decide)⟩
          · intro listed a w' hs hI h0 hd K' hK
            obtain ⟨xs, rfl, hC, hW⟩ := hI
            have hK2 := Lib.hid hK
            have hC2 := Lib.hid hC
            clear hd hK hC h0
            go_simp
            exact hK2.out _ _ ⟨updV xs 11 (.pointer (some ⟨b, q * 3, none⟩)), by simp [updV], cond_set hC2.out (fun _ _ h => h) rfl, hW.keep (by decide)⟩
          · intro listed a w' hs hI h0 hd K' hK
            obtain ⟨xs, rfl, hC, hW⟩ := hI
            have e11 : xs 11 = (.pointer (some ⟨b, q * 3, none⟩)) := hC 11 (hd ⟨11, .data⟩ (by simp) rfl)
            have hK2 := Lib.hid hK
            have hC2 := Lib.hid hC
            clear hd hK hC h0
            go_simp
            exact hK2.out _ _ ⟨updV xs 12 (.pointer (some ⟨b, q * 3, none⟩)), by simp [updV, e11], cond_set hC2.out (fun _ _ h => h) rfl, hW.keep (by decide)⟩
          · intro listed a w' hs hI h0 hd K' hK
            obtain ⟨xs, rfl, hC, hW⟩ := hI
            have e12 : xs 12 = (.pointer (some ⟨b, q * 3, none⟩)) := hC 12 (hd ⟨12, .data⟩ (by simp) rfl)
            have hK2 := Lib.hid hK
            have hC2 := Lib.hid hC
            clear hd hK hC h0
            go_simp
            exact hK2.out _ _ ⟨updV xs 13 (.pointer (some ⟨b, q * 3 + 1, none⟩)), by simp [updV, e12], cond_set hC2.out (fun _ _ h => h) rfl, hW.keep (by decide)⟩
          · intro listed a w' hs hI h0 hd K' hK
            obtain ⟨xs, rfl, hC, hW⟩ := hI
            have e13 : xs 13 = (.pointer (some ⟨b, q * 3 + 1, none⟩)) := hC 13 (hd ⟨13, .data⟩ (by simp) rfl)
            have hK2 := Lib.hid hK
            have hC2 := Lib.hid hC
            obtain ⟨u9, c9, ⟨x9, rfl⟩, f9⟩ := hW.load ckK (s := 3) rfl (q := q) (d := 1) hqn (by decide)
            clear hd hK hC h0
            go_simp
            exact hK2.out _ _ ⟨updV xs 14 (.int .i64 x9), by simp [updV, e13], cond_set hC2.out (fun _ _ h => h) ⟨_, rfl⟩, hW.keep (by decide)⟩
          · intro listed a w' hs hI h0 hd K' hK
            obtain ⟨xs, rfl, hC, hW⟩ := hI
            obtain ⟨v14, e14⟩ : ∃ v : Int, xs 14 = .int .i64 v := hC 14 (hd ⟨14, .data⟩ (by simp) rfl)
            have hK2 := Lib.hid hK
            have hC2 := Lib.hid hC
            clear hd hK hC h0
            go_simp
            exact hK2.out _ _ ⟨updV xs 15 (.slice (some ⟨w'.heap.size, 0, none⟩) 3 3), by simp [updV, e14], cond_set hC2.out (fun j v h => Sat.alloc _ _ _ h) ⟨w'.heap.size, [v14, 0, -1], rfl, rfl, heap_alloc_new w' _⟩, ((hW.alloc _).keep (by decide))⟩
          · intro listed a w' hs hI h0 hd K' hK
            obtain ⟨xs, rfl, hC, hW⟩ := hI
            have e10 : xs 10 = (.pointer (some ⟨g, 0, none⟩)) := hC 10 (hd ⟨10, .data⟩ (by simp) rfl)
            obtain ⟨z15, l15, e15, hl15, hz15⟩ : ∃ (z : Nat) (l : List Int), xs 15 = .slice (some ⟨z, 0, none⟩) 3 3 ∧ l.length = 3 ∧ w'.heap[z]? = some (.cells (ints l).toArray 3 (0, 0)) := hC 15 (hd ⟨15, .data⟩ (by simp) rfl)
            have hK2 := Lib.hid hK
            have hC2 := Lib.hid hC
            obtain ⟨k9, s9, hk9, hnx⟩ := MW1.call hglt hW h0 (by decide) (by decide)
            have r9 : RI 3 w' (some ⟨z15, 0, none⟩) 3 l15 := R1.of_lit hz15 rfl hl15 (by decide)
            clear h0
            clear hd hK hC
            go_simp
            refine (pickE_c g zs _ _ _ _ _ _ s9 (by omega) r9 (by decide)).mono ?_; rintro e w1 ⟨v, rfl, hv9, s10, g10⟩
            exact hK2.out _ _ ⟨updV xs 16 (.int .i64 v), by simp [updV, e10, e15], cond_set hC2.out (fun j v h => Sat.stream (s9.keep g10) (by decide) (by decide) (by decide) _ _ h) ⟨_, rfl⟩, hnx _ _ (by omega) s10 g10⟩
          · intro listed a w' hs hI h0 hd K' hK
            obtain ⟨xs, rfl, hC, hW⟩ := hI
            have hK2 := Lib.hid hK
            have hC2 := Lib.hid hC
            clear hd hK hC h0
            go_simp
            exact hK2.out _ _ ⟨updV xs 17 (.pointer (some ⟨g, 0, none⟩)), by simp [updV], cond_set hC2.out (fun _ _ h => h) rfl, hW.keep (by decide)⟩
          · intro listed a w' hs hI h0 hd K' hK
            obtain ⟨xs, rfl, hC, hW⟩ := hI
            have e17 : xs 17 = (.pointer (some ⟨g, 0, none⟩)) := hC 17 (hd ⟨17, .data⟩ (by simp) rfl)
            have hK2 := Lib.hid hK
            have hC2 := Lib.hid hC
            obtain ⟨k9, s9, hk9, hnx⟩ := MW1.call hglt hW h0 (by decide) (by decide)
            clear h0
            clear hd hK hC
            go_simp
            refine (oddE_c g zs _ _ _ _ s9 (by omega) (by omega) (by omega) (by omega)).mono ?_; rintro e w1 ⟨v, rfl, v1, v2, s10, g10⟩
            exact hK2.out _ _ ⟨updV xs 18 (.int .i64 v), by simp [updV, e17], cond_set hC2.out (fun j v h => Sat.stream (s9.keep g10) (by decide) (by decide) (by decide) _ _ h) ⟨v, rfl, v1, v2⟩, hnx _ _ (by omega) s10 g10⟩
          · intro listed a w' hs hI h0 hd K' hK
            obtain ⟨xs, rfl, hC, hW⟩ := hI
            have e0 : xs 0 = (.pointer (some ⟨b, q * 3, none⟩)) := hC 0 (hd ⟨0, .data⟩ (by simp) rfl)
            have hK2 := Lib.hid hK
            have hC2 := Lib.hid hC
            clear hd hK hC h0
            go_simp
            exact hK2.out _ _ ⟨updV xs 19 (.pointer (some ⟨b, q * 3, none⟩)), by simp [updV, e0], cond_set hC2.out (fun _ _ h => h) rfl, hW.keep (by decide)⟩
          · intro listed a w' hs hI h0 hd K' hK
            obtain ⟨xs, rfl, hC, hW⟩ := hI
            have e19 : xs 19 = (.pointer (some ⟨b, q * 3, none⟩)) := hC 19 (hd ⟨19, .data⟩ (by simp) rfl)
            have hK2 := Lib.hid hK
            have hC2 := Lib.hid hC
            clear hd hK hC h0
            go_simp
            exact hK2.out _ _ ⟨updV xs 20 (.pointer (some ⟨b, q * 3, none⟩)), by simp [updV, e19], cond_set hC2.out (fun _ _ h => h) rfl, hW.keep (by decide)⟩
          · intro listed a w' hs hI h0 hd K' hK
            obtain ⟨xs, rfl, hC, hW⟩ := hI
            obtain ⟨v9, e9⟩ : ∃ v : ByteArray, xs 9 = .string v := hC 9 (hd ⟨9, .data⟩ (by simp) rfl)
            have e20 : xs 20 = (.pointer (some ⟨b, q * 3, none⟩)) := hC 20 (hd ⟨20, .data⟩ (by simp) rfl)
            have hK2 := Lib.hid hK
            have hC2 := Lib.hid hC
            obtain ⟨u9, c9, _, f9⟩ := hW.load ckK (s := 3) rfl (q := q) (d := 0) hqn (by decide)
            obtain ⟨cs9, hcs9⟩ := hW.blk
            have hS9 := Lib.hid (MW1.store ckK (s := 3) rfl hglt hW (q := q) (d := 0) hqn (by decide) (v := .string v9) ⟨_, rfl⟩)
            rw [Nat.add_zero] at c9 f9 hS9
            clear hd hK hC h0
            go_simp
            exact hK2.out _ _ ⟨updV xs 21 (undef), by simp [updV, e9, e20], cond_set hC2.out (fun j v h => Sat.set ckK hcs9 (by decide) (by decide) (okAt (q := q) (s := 3) (c := 0) rfl rfl ⟨_, rfl⟩) _ _ h) trivial, hS9.out.keep (by decide)⟩
          · intro listed a w' hs hI h0 hd K' hK
            obtain ⟨xs, rfl, hC, hW⟩ := hI
            have e1 : xs 1 = (.pointer (some ⟨b, q * 3, none⟩)) := hC 1 (hd ⟨1, .data⟩ (by simp) rfl)
            have hK2 := Lib.hid hK
            have hC2 := Lib.hid hC
            clear hd hK hC h0
            go_simp
            exact hK2.out _ _ ⟨updV xs 22 (.pointer (some ⟨b, q * 3, none⟩)), by simp [updV, e1], cond_set hC2.out (fun _ _ h => h) rfl, hW.keep (by decide)⟩
          · intro listed a w' hs hI h0 hd K' hK
            obtain ⟨xs, rfl, hC, hW⟩ := hI
            have e22 : xs 22 = (.pointer (some ⟨b, q * 3, none⟩)) := hC 22 (hd ⟨22, .data⟩ (by simp) rfl)
            have hK2 := Lib.hid hK
            have hC2 := Lib.hid hC
            clear hd hK hC h0
            go_simp
            exact hK2.out _ _ ⟨updV xs 23 (.pointer (some ⟨b, q * 3 + 1, none⟩)), by simp [updV, e22], cond_set hC2.out (fun _ _ h => h) rfl, hW.keep (by decide)⟩
          · intro listed a w' hs hI h0 hd K' hK
            obtain ⟨xs, rfl, hC, hW⟩ := hI
            obtain ⟨v16, e16⟩ : ∃ v : Int, xs 16 = .int .i64 v := hC 16 (hd ⟨16, .data⟩ (by simp) rfl)
            have e23 : xs 23 = (.pointer (some ⟨b, q * 3 + 1, none⟩)) := hC 23 (hd ⟨23, .data⟩ (by simp) rfl)
            have hK2 := Lib.hid hK
            have hC2 := Lib.hid hC
            obtain ⟨u9, c9, _, f9⟩ := hW.load ckK (s := 3) rfl (q := q) (d := 1) hqn (by decide)
            obtain ⟨cs9, hcs9⟩ := hW.blk
            have hS9 := Lib.hid (MW1.store ckK (s := 3) rfl hglt hW (q := q) (d := 1) hqn (by decide) (v := .int .i64 v16) ⟨_, rfl⟩)
            clear hd hK hC h0
            go_simp
            exact hK2.out _ _ ⟨updV xs 24 (undef), by simp [updV, e16, e23], cond_set hC2.out (fun j v h => Sat.set ckK hcs9 (by decide) (by decide) (okAt (q := q) (s := 3) (c := 1) rfl rfl ⟨_, rfl⟩) _ _ h) trivial, hS9.out.keep (by decide)⟩
          · intro listed a w' hs hI h0 hd K' hK
            obtain ⟨xs, rfl, hC, hW⟩ := hI
            have e2 : xs 2 = (.pointer (some ⟨b, q * 3, none⟩)) := hC 2 (hd ⟨2, .data⟩ (by simp) rfl)
            have hK2 := Lib.hid hK
            have hC2 := Lib.hid hC
            clear hd hK hC h0
            go_simp
            exact hK2.out _ _ ⟨updV xs 25 (.pointer (some ⟨b, q * 3, none⟩)), by simp [updV, e2], cond_set hC2.out (fun _ _ h => h) rfl, hW.keep (by decide)⟩
          · intro listed a w' hs hI h0 hd K' hK
            obtain ⟨xs, rfl, hC, hW⟩ := hI
            have e25 : xs 25 = (.pointer (some ⟨b, q * 3, none⟩)) := hC 25 (hd ⟨25, .data⟩ (by simp) rfl)
            have hK2 := Lib.hid hK
            have hC2 := Lib.hid hC
            clear hd hK hC h0
            go_simp
            exact hK2.out _ _ ⟨updV xs 26 (.pointer (some ⟨b, q * 3 + 2, none⟩)), by simp [updV, e25], cond_set hC2.out (fun _ _ h => h) rfl, hW.keep (by decide)⟩
          · intro listed a w' hs hI h0 hd K' hK
            obtain ⟨xs, rfl, hC, hW⟩ := hI
            obtain ⟨v18, e18, a18, b18⟩ : ∃ v : Int, xs 18 = .int .i64 v ∧ (-1099511627776) ≤ v ∧ v ≤ 1099511627776 := hC 18 (hd ⟨18, .data⟩ (by simp) rfl)
            have e26 : xs 26 = (.pointer (some ⟨b, q * 3 + 2, none⟩)) := hC 26 (hd ⟨26, .data⟩ (by simp) rfl)
            have hK2 := Lib.hid hK
            have hC2 := Lib.hid hC
            obtain ⟨u9, c9, _, f9⟩ := hW.load ckK (s := 3) rfl (q := q) (d := 2) hqn (by decide)
            obtain ⟨cs9, hcs9⟩ := hW.blk
            have hS9 := Lib.hid (MW1.store ckK (s := 3) rfl hglt hW (q := q) (d := 2) hqn (by decide) (v := .int .i64 v18) ⟨_, rfl⟩)
            clear hd hK hC h0
            go_simp
            exact hK2.out _ _ ⟨updV xs 27 (undef), by simp [updV, e18, e26], cond_set hC2.out (fun j v h => Sat.set ckK hcs9 (by decide) (by decide) (okAt (q := q) (s := 3) (c := 2) rfl rfl ⟨_, rfl⟩) _ _ h) trivial, hS9.out.keep (by decide)⟩
        case he =>
          intro listed a w' hs hI hr
          obtain ⟨xs, rfl, hC, hW⟩ := hI
          clear hC hs hr
          obtain ⟨k9, l9, s9, o9, hl9, g9, hk9⟩ := hW.out hgr8 (Nat.le_refl _)
          go_wp2
          go_ret
          exact ⟨_, n, c, l9, k9, rfl, RN.of_own ckE_len o9 hl9 (by omega), by omega, s9, by omega, g9⟩
end Go.Proofs.YtjafcnblgeibpaaDoor
