/- The stream's reports. Printed by wip/genrpm.py. -/
import Derived.Test.YtjafcnblgeibpaaGreatDoorMkReg
import Derived.Test.YtjafcnblgeibpaaGreatDoorRptA
import Derived.Lib.ItoaLen
import Derived.Test.YtjafcnblgeibpaaGreatDoorPadF
namespace Go.Proofs.YtjafcnblgeibpaaGreatDoor
open Go.RowKit Go.Shelf Go.Lib Go.Sort
set_option linter.unusedVariables false

theorem rpK : EncK rpE [0, 0, 0, 1, 1, 1, 2] := by
  refine ⟨fun _ => rfl, fun x c hc => ?_, fun x c v hc hv => ?_⟩
  · match c, hc with
    | 0, _ => exact ⟨_, rfl, _, rfl⟩
    | 1, _ => exact ⟨_, rfl, _, rfl⟩
    | 2, _ => exact ⟨_, rfl, _, rfl⟩
    | 3, _ => exact ⟨_, rfl, _, rfl⟩
    | 4, _ => exact ⟨_, rfl, _, rfl⟩
    | 5, _ => exact ⟨_, rfl, _, rfl⟩
    | 6, _ => exact ⟨_, rfl, _, rfl⟩
  · match c, hc, hv with
    | 0, _, ⟨y, h⟩ => subst h; exact ⟨⟨y, x.jd, x.who, x.fault, x.tm, x.wt, x.nt⟩, rfl⟩
    | 1, _, ⟨y, h⟩ => subst h; exact ⟨⟨x.id, y, x.who, x.fault, x.tm, x.wt, x.nt⟩, rfl⟩
    | 2, _, ⟨y, h⟩ => subst h; exact ⟨⟨x.id, x.jd, y, x.fault, x.tm, x.wt, x.nt⟩, rfl⟩
    | 3, _, ⟨y, h⟩ => subst h; exact ⟨⟨x.id, x.jd, x.who, y, x.tm, x.wt, x.nt⟩, rfl⟩
    | 4, _, ⟨y, h⟩ => subst h; exact ⟨⟨x.id, x.jd, x.who, x.fault, y, x.wt, x.nt⟩, rfl⟩
    | 5, _, ⟨y, h⟩ => subst h; exact ⟨⟨x.id, x.jd, x.who, x.fault, x.tm, y, x.nt⟩, rfl⟩
    | 6, _, ⟨y, h⟩ => subst h; exact ⟨⟨x.id, x.jd, x.who, x.fault, x.tm, x.wt, y⟩, rfl⟩
/-- what Reports hands back -/
def RetRp (w : World) (g : Nat) (zs : List Int) (k M : Nat) (e : Ending) (w' : World) : Prop := ∃ (A : Option Addr) (c : Nat) (l : List Rp) (k' : Nat), e = .returned (.slice A M c) ∧ w'.ownsRow w.heap.size 62 7 (.slice A M c) M (l.flatMap rpE) ∧ l.length = M ∧ St w' g zs k' ∧ k' ≤ k + 7 * M + 20 ∧ w.grownBy w' (some g)
theorem flat_snocR (l : List Rp) (x : Rp) : l.flatMap rpE ++ rpE x = (l ++ [x]).flatMap rpE := by rw [List.flatMap_append]; simp
set_option maxHeartbeats 6400000 in
set_option maxRecDepth 100000 in
theorem reports_c (g : Nat) (zs : List Int) (k M : Nat) (w w0 : World) (h : St w g zs k) (hk : k + 2000 ≤ 1099511627776) (hM : M ≤ 100) (hT : Tb w0) (hb0 : Below w0.heap.size w0 w) (hg0 : w0.heap.size ≤ g) :
    Calls Tryz.prog 32 #[.pointer (some ⟨g, 0, none⟩), .int .i64 M] w (RetRp w g zs k M) := by
  have hglt := h.lt
  have hTb := Lib.hid (fun wx (hg : w.grownBy wx (some g)) => hT.below (hb0.trans (grown_below hg hg0 hb0.size)))
  clear hT hb0 hg0
  go_enter Tryz.func32, Tryz.ntmps32
  go_wp2_with fail
  refine (pickB_c g zs k [0, 10] 0 10 2 2 w.heap.size #[.int .i64 0, .int .i64 10] w h (by omega) rfl rfl rfl (by decide) (by decide) (by simp)).mono ?_; rintro e w1 ⟨at0, rfl, at0l, at0u, s1, g1⟩
  clear h
  go_wp2_with fail
  go_loopw [5, 6, 13] (fun out av i wr => ∃ (j kk : Nat) (acc : List Rp) (ta : Int), j ≤ M ∧ i = .int .i64 j ∧ av = .int .i64 ta ∧ (0 ≤ ta ∧ ta ≤ 10 + 1800000 * (j : Int)) ∧ Hid (acc.length = j) ∧ wr.ownsRow w.heap.size 62 7 out j (acc.flatMap rpE) ∧ St wr g zs kk ∧ kk ≤ k + 1 + 7 * j ∧ w.grownBy wr (some g)) (fun _ _ i _ => M - (intOf i).toNat)
  case atStart => exact ⟨0, k + 1, [], at0, Nat.zero_le _, rfl, rfl, ⟨at0l, by omega⟩, Lib.hid rfl, World.ownsRow_nil _ _ _ _, s1, by omega, g1⟩
  case round =>
    clear s1 g1
    rename World => wr
    obtain ⟨j, kk, acc, ta, hj, rfl, rfl, ⟨ha0, ha1⟩, hla, hown, hst, hkk, hgr⟩ := hrel
    by_cases hlt : j < M
    · have hlti : (j : Int) < M := by omega
      have u1 : IntKind.i64.wrap (10 + (j : Int)) = 10 + (j : Int) := IntWalk.i64_in _ (by omega)
      have hsI := Lib.hid (itoa_c (10 + (j : Int)) wr (hTb.out _ hgr) (by omega) (by omega))
      have hsz : 1 + (itoaS (10 + (j : Int))).size ≤ 9223372036854775807 := by
        have := Lib.itoa_length_le (10 + (j : Int)) (by omega) (by omega)
        show 1 + (Lib.itoa (10 + (j : Int))).toArray.size ≤ _
        rw [List.size_toArray]; omega
      have hsz2 : ¬ (1 + (itoaS (10 + (j : Int))).size > 9223372036854775807) := by omega
      generalize itoaS (10 + (j : Int)) = tx at *
      go_wp2_with fail
      refine hsI.out.mono ?_; rintro e w3 ⟨rfl, B3⟩
      have hown3 := own_below hown B3
      have s3 := hst.below B3
      have hgr3 := grown_trans hgr (grown_of_below B3)
      clear hown hst hgr B3 hsI
      go_wp2_with fail
      refine (someE_c g zs kk [⟨#[106, 97]⟩, ⟨#[106, 98]⟩] 2 2 w3.heap.size #[.string ⟨#[106, 97]⟩, .string ⟨#[106, 98]⟩] w3 s3 (by omega) rfl rfl rfl (by decide) (by decide)).mono ?_; rintro e w4 ⟨sv4, rfl, hsv4, s4, g4⟩
      have hown4 := own_keep hown3 hglt g4
      have hgr4 := grown_trans hgr3 g4
      clear hown3 s3 hgr3 g4
      go_wp2_with fail
      refine (someE_c g zs (kk + 1) [⟨#[115, 48]⟩, ⟨#[115, 49]⟩, ⟨#[115, 50]⟩] 3 3 w4.heap.size #[.string ⟨#[115, 48]⟩, .string ⟨#[115, 49]⟩, .string ⟨#[115, 50]⟩] w4 s4 (by omega) rfl rfl rfl (by decide) (by decide)).mono ?_; rintro e w5 ⟨sv5, rfl, hsv5, s5, g5⟩
      have hown5 := own_keep hown4 hglt g5
      have hgr5 := grown_trans hgr4 g5
      clear hown4 s4 hgr4 g5
      go_wp2_with fail
      refine (pickB_c g zs (kk + 1 + 1) [1, 3, 3, 4, 6] 1 6 5 5 w5.heap.size #[.int .i64 1, .int .i64 3, .int .i64 3, .int .i64 4, .int .i64 6] w5 s5 (by omega) rfl rfl rfl (by decide) (by decide) (by simp)).mono ?_; rintro e w6 ⟨pv6, rfl, pl6, pu6, s6, g6⟩
      have hown6 := own_keep hown5 hglt g6
      have hgr6 := grown_trans hgr5 g6
      clear hown5 s5 hgr5 g6
      go_wp2_with fail
      refine (pickB_c g zs (kk + 1 + 1 + 1) [1, 1, 2] 1 2 3 3 w6.heap.size #[.int .i64 1, .int .i64 1, .int .i64 2] w6 s6 (by omega) rfl rfl rfl (by decide) (by decide) (by simp)).mono ?_; rintro e w7 ⟨pv7, rfl, pl7, pu7, s7, g7⟩
      have hown7 := own_keep hown6 hglt g7
      have hgr7 := grown_trans hgr6 g7
      clear hown6 s6 hgr6 g7
      go_wp2_with fail
      refine (flipE_c g zs (kk + 1 + 1 + 1 + 1) 3 w7 s7 (by omega) (by omega) (by omega)).mono ?_; rintro e w8 ⟨fl, rfl, s8, g8⟩
      have hown8 := own_keep hown7 hglt g8
      have hgr8 := grown_trans hgr7 g8
      have hz8 := hgr8.size
      clear hown7 s7 hgr7 g8 hsv4 hsv5
      go_wp2_with (at_builtin; refine wpList_app rfl (.tmp 16) (.tmp 37) 57 rfl Tryz.underlying57 info_report rfl (by omega) (by omega) hown8 rfl rfl (by first | rfl | (simp; done)) (by rfl) (by simp [Value.oneCell']) (by omega) hz8 ?_; intro v9 w9 hown9 hg9)
      have H := Lib.hid (And.intro (show w9.ownsRow w.heap.size 62 7 v9 (j + 1) ((acc ++ [(⟨⟨#[105]⟩ ++ tx, sv4, sv5, pv6, ta, pv7, fl⟩ : Rp)]).flatMap rpE) by rw [← flat_snocR]; exact hown9) (And.intro (s8.grown hg9 (fun i hi => by have := own_row_lt hown8 i hi; omega)) (grown_own hgr8 hg9 (own_row_lt hown8))))
      have hl9 := Lib.hid (show (acc ++ [(⟨⟨#[105]⟩ ++ tx, sv4, sv5, pv6, ta, pv7, fl⟩ : Rp)]).length = j + 1 by rw [List.length_append, hla.out]; rfl)
      generalize acc ++ [(⟨⟨#[105]⟩ ++ tx, sv4, sv5, pv6, ta, pv7, fl⟩ : Rp)] = acc9 at *
      clear hown9 hg9 hown8 s8 hgr8
      obtain ⟨ho9, s9, hgr9⟩ := H.out
      clear H
      go_wp2_with fail
      refine (pickB_c g zs (kk + 1 + 1 + 1 + 1 + 1) [0, 5, 40, 1000000, 1800000] 0 1800000 5 5 w9.heap.size #[.int .i64 0, .int .i64 5, .int .i64 40, .int .i64 1000000, .int .i64 1800000] w9 s9 (by omega) rfl rfl rfl (by decide) (by decide) (by simp)).mono ?_; rintro e w10 ⟨pv10, rfl, pl10, pu10, s10, g10⟩
      have hown10 := own_keep ho9 hglt g10
      have hgr10 := grown_trans hgr9 g10
      have u2 : IntKind.i64.wrap (ta + pv10) = ta + pv10 := IntWalk.i64_in _ (by omega)
      clear ho9 s9 hgr9 g10
      go_wp2
      go_roundw
      case rel => exact ⟨j + 1, _, acc9, _, by omega, by go_num, rfl, by omega, hl9, hown10, s10, by omega, hgr10⟩
      case measure => simp [intOf]; omega
    · obtain rfl : j = M := by omega
      obtain ⟨A, c, rfl⟩ := own_shape hown
      have hla' := hla.out
      clear hTb hla
      by_cases hj0 : j = 0
      · subst hj0
        go_wp2
        go_ret
        exact ⟨A, c, acc, kk, rfl, hown, hla', hst, by omega, hgr⟩
      have hj1 : (0 : Int) < (j : Int) := by omega
      have hj2 : 0 < j := by omega
      go_wp2_with fail
      refine (flipE_c g zs kk _ _ hst (by omega) (by omega) (by omega)).mono ?_; rintro e w7 ⟨fl, rfl, s7, g7⟩
      have hown7 := own_keep hown hglt g7
      have hgr7 := grown_trans hgr g7
      clear hown hst hgr g7
      cases fl
      · go_wp2
        go_ret
        exact ⟨A, c, acc, _, rfl, hown7, hla', s7, by omega, hgr7⟩
      · go_wp2_with fail
        refine (nextE_c g zs _ (j : Int) _ s7 (by omega) (by omega) (by omega)).mono ?_; rintro e w8 ⟨v, rfl, v0, v1, s8, g8⟩
        obtain ⟨q, rfl⟩ : ∃ q : Nat, v = q := ⟨v.toNat, by omega⟩
        have hown8 := own_keep hown7 hglt g8
        have hgr8 := grown_trans hgr7 g8
        obtain ⟨b, rfl, hbb⟩ := own_someN hown8 (by omega)
        have hqn : q < j := by omega
        have e8 : (q : Int) < j := by omega
        clear hown7 s7 hgr7 g8
        go_wp2_with fail
        refine wp_region_inv (by kernel_rfl) (fun listed a w' => ∃ xs : Nat → Value, a = { tmps := #[.pointer (some ⟨g, 0, none⟩), .int .i64 ↑j, undef, undef, .slice none 0 0, .slice (some ⟨b, 0, none⟩) j c, .int .i64 ta, u7, .pointer (some ⟨b, q * 7, none⟩), .pointer (some ⟨g, 0, none⟩), .slice (some ⟨w.heap.size, 0, none⟩) 2 2, .int .i64 at0, .int .i64 ↑j, .int .i64 ↑j, .bool false, u15, u16, u17, u18, u19, u20, u21, u22, u23, u24, u25, u26, u27, u28, u29, u30, u31, u32, u33, u34, u35, u36, u37, u38, u39, u40, u41, u42, u43, u44, .slice (some ⟨b, 0, none⟩) j c, .int .i64 ↑j, .bool true, .bool true, .pointer (some ⟨g, 0, none⟩), .bool true, .bool true, .slice (some ⟨b, 0, none⟩) j c, .pointer (some ⟨g, 0, none⟩), .slice (some ⟨b, 0, none⟩) j c, .int .i64 ↑j, .int .i64 ↑q, .pointer (some ⟨b, q * 7, none⟩), xs 0, xs 1, xs 2, xs 3, xs 4, xs 5, xs 6, xs 7, xs 8, xs 9, xs 10, xs 11, xs 12, xs 13, xs 14, xs 15, xs 16, xs 17, xs 18, xs 19, xs 20, xs 21, xs 22, xs 23, xs 25, xs 26, xs 28, xs 29, xs 31, xs 32, undef], defers := [] } ∧ (∀ j, listed.getD j false = true → CT 3 9 62 rpE [.val (.pointer (some ⟨b, q * 7, none⟩)), .val (.pointer (some ⟨b, q * 7, none⟩)), .val (.pointer (some ⟨b, q * 7, none⟩)), .val (.pointer (some ⟨b, q * 7, none⟩)), .val (.pointer (some ⟨g, 0, none⟩)), .val (.pointer (some ⟨b, q * 7, none⟩)), .val (.pointer (some ⟨b, q * 7, none⟩)), .val (.pointer (some ⟨b, q * 7, none⟩)), .str, .strs 3, .str, .val (.pointer (some ⟨g, 0, none⟩)), .int (-1099511627776) 1099511627776, .val (.pointer (some ⟨g, 0, none⟩)), .int (-1099511627776) 1099511627776, .val (.pointer (some ⟨g, 0, none⟩)), .val (.pointer (some ⟨b, q * 7, none⟩)), .val (.pointer (some ⟨b, q * 7, none⟩)), .val (.pointer (some ⟨b, q * 7 + 4, none⟩)), .num, .ints 3, .num, .val (.pointer (some ⟨b, q * 7, none⟩)), .val (.pointer (some ⟨b, q * 7, none⟩)), .any, .val (.pointer (some ⟨b, q * 7, none⟩)), .val (.pointer (some ⟨b, q * 7 + 3, none⟩)), .any, .val (.pointer (some ⟨b, q * 7, none⟩)), .val (.pointer (some ⟨b, q * 7 + 5, none⟩)), .any, .val (.pointer (some ⟨b, q * 7, none⟩)), .val (.pointer (some ⟨b, q * 7 + 4, none⟩)), .any] j w' (xs j)) ∧ MW1 w8 g zs 62 rpE 7 w.heap.size b j c (kk + 12) [10, 12, 14, 21] listed w') ?h0 (AllOps.of ?hs) ?he
        case h0 => exact ⟨fun j => match j with | 0 => undef | 1 => undef | 2 => undef | 3 => undef | 4 => undef | 5 => undef | 6 => undef | 7 => undef | 8 => undef | 9 => undef | 10 => undef | 11 => undef | 12 => undef | 13 => undef | 14 => undef | 15 => undef | 16 => undef | 17 => undef | 18 => undef | 19 => undef | 20 => undef | 21 => undef | 22 => undef | 23 => undef | 25 => undef | 26 => undef | 28 => undef | 29 => undef | 31 => undef | 32 => undef | _ => undef, rfl, (fun j hj => by rw [rep_false] at hj; cases hj), MW1.start s8 hown8 hla' (by first | (simp; done) | (simp; omega))⟩
        case hs =>
          refine ⟨?_, ?_, ?_, ?_, ?_, ?_, ?_, ?_, ?_, ?_, ?_, ?_, ?_, ?_, ?_, ?_, ?_, ?_, ?_, ?_, ?_, ?_, ?_, ?_, ?_, ?_, ?_, ?_, ?_, ?_, ?_, ?_, ?_, ?_, trivial⟩
          · intro listed a w' hs hI h0 hd K' hK
            obtain ⟨xs, rfl, hC, hW⟩ := hI
            have hK2 := Lib.hid hK
            have hC2 := Lib.hid hC
            clear hd hK hC h0
            go_simp
            exact hK2.out _ _ ⟨updV xs 0 (.pointer (some ⟨b, q * 7, none⟩)), by simp [updV], cond_set hC2.out (fun _ _ h => h) rfl, hW.keep (by decide)⟩
          · intro listed a w' hs hI h0 hd K' hK
            obtain ⟨xs, rfl, hC, hW⟩ := hI
            have hK2 := Lib.hid hK
            have hC2 := Lib.hid hC
            clear hd hK hC h0
            go_simp
            exact hK2.out _ _ ⟨updV xs 1 (.pointer (some ⟨b, q * 7, none⟩)), by simp [updV], cond_set hC2.out (fun _ _ h => h) rfl, hW.keep (by decide)⟩
          · intro listed a w' hs hI h0 hd K' hK
            obtain ⟨xs, rfl, hC, hW⟩ := hI
            have hK2 := Lib.hid hK
            have hC2 := Lib.hid hC
            clear hd hK hC h0
            go_simp
            exact hK2.out _ _ ⟨updV xs 2 (.pointer (some ⟨b, q * 7, none⟩)), by simp [updV], cond_set hC2.out (fun _ _ h => h) rfl, hW.keep (by decide)⟩
          · intro listed a w' hs hI h0 hd K' hK
            obtain ⟨xs, rfl, hC, hW⟩ := hI
            have hK2 := Lib.hid hK
            have hC2 := Lib.hid hC
            clear hd hK hC h0
            go_simp
            exact hK2.out _ _ ⟨updV xs 3 (.pointer (some ⟨b, q * 7, none⟩)), by simp [updV], cond_set hC2.out (fun _ _ h => h) rfl, hW.keep (by decide)⟩
          · intro listed a w' hs hI h0 hd K' hK
            obtain ⟨xs, rfl, hC, hW⟩ := hI
            have hK2 := Lib.hid hK
            have hC2 := Lib.hid hC
            clear hd hK hC h0
            go_simp
            exact hK2.out _ _ ⟨updV xs 4 (.pointer (some ⟨g, 0, none⟩)), by simp [updV], cond_set hC2.out (fun _ _ h => h) rfl, hW.keep (by decide)⟩
          · intro listed a w' hs hI h0 hd K' hK
            obtain ⟨xs, rfl, hC, hW⟩ := hI
            have hK2 := Lib.hid hK
            have hC2 := Lib.hid hC
            clear hd hK hC h0
            go_simp
            exact hK2.out _ _ ⟨updV xs 5 (.pointer (some ⟨b, q * 7, none⟩)), by simp [updV], cond_set hC2.out (fun _ _ h => h) rfl, hW.keep (by decide)⟩
          · intro listed a w' hs hI h0 hd K' hK
            obtain ⟨xs, rfl, hC, hW⟩ := hI
            have e5 : xs 5 = (.pointer (some ⟨b, q * 7, none⟩)) := hC 5 (hd ⟨5, .data⟩ (by simp) rfl)
            have hK2 := Lib.hid hK
            have hC2 := Lib.hid hC
            clear hd hK hC h0
            go_simp
            exact hK2.out _ _ ⟨updV xs 6 (.pointer (some ⟨b, q * 7, none⟩)), by simp [updV, e5], cond_set hC2.out (fun _ _ h => h) rfl, hW.keep (by decide)⟩
          · intro listed a w' hs hI h0 hd K' hK
            obtain ⟨xs, rfl, hC, hW⟩ := hI
            have e6 : xs 6 = (.pointer (some ⟨b, q * 7, none⟩)) := hC 6 (hd ⟨6, .data⟩ (by simp) rfl)
            have hK2 := Lib.hid hK
            have hC2 := Lib.hid hC
            clear hd hK hC h0
            go_simp
            exact hK2.out _ _ ⟨updV xs 7 (.pointer (some ⟨b, q * 7, none⟩)), by simp [updV, e6], cond_set hC2.out (fun _ _ h => h) rfl, hW.keep (by decide)⟩
          · intro listed a w' hs hI h0 hd K' hK
            obtain ⟨xs, rfl, hC, hW⟩ := hI
            have e7 : xs 7 = (.pointer (some ⟨b, q * 7, none⟩)) := hC 7 (hd ⟨7, .data⟩ (by simp) rfl)
            have hK2 := Lib.hid hK
            have hC2 := Lib.hid hC
            obtain ⟨u9, c9, ⟨x9, rfl⟩, f9⟩ := hW.load rpK (s := 7) rfl (q := q) (d := 0) hqn (by decide)
            rw [Nat.add_zero] at c9
            clear hd hK hC h0
            go_simp
            exact hK2.out _ _ ⟨updV xs 8 (.string x9), by simp [updV, e7], cond_set hC2.out (fun _ _ h => h) ⟨_, rfl⟩, hW.keep (by decide)⟩
          · intro listed a w' hs hI h0 hd K' hK
            obtain ⟨xs, rfl, hC, hW⟩ := hI
            obtain ⟨v8, e8⟩ : ∃ v : ByteArray, xs 8 = .string v := hC 8 (hd ⟨8, .data⟩ (by simp) rfl)
            have hK2 := Lib.hid hK
            have hC2 := Lib.hid hC
            clear hd hK hC h0
            go_simp
            exact hK2.out _ _ ⟨updV xs 9 (.slice (some ⟨w'.heap.size, 0, none⟩) 3 3), by simp [updV, e8], cond_set hC2.out (fun j v h => Sat.alloc _ _ _ h) ⟨w'.heap.size, [v8, ⟨#[]⟩, ⟨#[105, 49, 48]⟩], rfl, rfl, heap_alloc_new w' _⟩, ((hW.alloc _).keep (by decide))⟩
          · intro listed a w' hs hI h0 hd K' hK
            obtain ⟨xs, rfl, hC, hW⟩ := hI
            have e4 : xs 4 = (.pointer (some ⟨g, 0, none⟩)) := hC 4 (hd ⟨4, .data⟩ (by simp) rfl)
            obtain ⟨z9, l9, e9, hl9, hz9⟩ : ∃ (z : Nat) (l : List ByteArray), xs 9 = .slice (some ⟨z, 0, none⟩) 3 3 ∧ l.length = 3 ∧ w'.heap[z]? = some (.cells (l.map Value.string).toArray 9 (0, 0)) := hC 9 (hd ⟨9, .data⟩ (by simp) rfl)
            have hK2 := Lib.hid hK
            have hC2 := Lib.hid hC
            obtain ⟨k9, s9, hk9, hnx⟩ := MW1.call hglt hW h0 (by decide) (by decide)
            have r9 : RS 9 w' (some ⟨z9, 0, none⟩) 3 l9 := R1.of_lit hz9 rfl hl9 (by decide)
            clear h0
            clear hd hK hC
            go_simp
            refine (some_c g zs _ _ _ _ _ _ s9 (by omega) r9 (by decide)).mono ?_; rintro e w1 ⟨rfl, s10, g10⟩
            exact hK2.out _ _ ⟨updV xs 10 (.string (pickV zs k9 l9)), by simp [updV, e4, e9], cond_set hC2.out (fun j v h => Sat.stream (s9.keep g10) (by decide) (by decide) (by decide) _ _ h) ⟨_, rfl⟩, hnx _ _ (by omega) s10 g10⟩
          · intro listed a w' hs hI h0 hd K' hK
            obtain ⟨xs, rfl, hC, hW⟩ := hI
            have hK2 := Lib.hid hK
            have hC2 := Lib.hid hC
            clear hd hK hC h0
            go_simp
            exact hK2.out _ _ ⟨updV xs 11 (.pointer (some ⟨g, 0, none⟩)), by simp [updV], cond_set hC2.out (fun _ _ h => h) rfl, hW.keep (by decide)⟩
          · intro listed a w' hs hI h0 hd K' hK
            obtain ⟨xs, rfl, hC, hW⟩ := hI
            have e11 : xs 11 = (.pointer (some ⟨g, 0, none⟩)) := hC 11 (hd ⟨11, .data⟩ (by simp) rfl)
            have hK2 := Lib.hid hK
            have hC2 := Lib.hid hC
            obtain ⟨k9, s9, hk9, hnx⟩ := MW1.call hglt hW h0 (by decide) (by decide)
            clear h0
            clear hd hK hC
            go_simp
            refine (oddE_c g zs _ _ _ _ s9 (by omega) (by omega) (by omega) (by omega)).mono ?_; rintro e w1 ⟨v, rfl, v1, v2, s10, g10⟩
            exact hK2.out _ _ ⟨updV xs 12 (.int .i64 v), by simp [updV, e11], cond_set hC2.out (fun j v h => Sat.stream (s9.keep g10) (by decide) (by decide) (by decide) _ _ h) ⟨v, rfl, v1, v2⟩, hnx _ _ (by omega) s10 g10⟩
          · intro listed a w' hs hI h0 hd K' hK
            obtain ⟨xs, rfl, hC, hW⟩ := hI
            have hK2 := Lib.hid hK
            have hC2 := Lib.hid hC
            clear hd hK hC h0
            go_simp
            exact hK2.out _ _ ⟨updV xs 13 (.pointer (some ⟨g, 0, none⟩)), by simp [updV], cond_set hC2.out (fun _ _ h => h) rfl, hW.keep (by decide)⟩
          · intro listed a w' hs hI h0 hd K' hK
            obtain ⟨xs, rfl, hC, hW⟩ := hI
            have e13 : xs 13 = (.pointer (some ⟨g, 0, none⟩)) := hC 13 (hd ⟨13, .data⟩ (by simp) rfl)
            have hK2 := Lib.hid hK
            have hC2 := Lib.hid hC
            obtain ⟨k9, s9, hk9, hnx⟩ := MW1.call hglt hW h0 (by decide) (by decide)
            clear h0
            clear hd hK hC
            go_simp
            refine (oddE_c g zs _ _ _ _ s9 (by omega) (by omega) (by omega) (by omega)).mono ?_; rintro e w1 ⟨v, rfl, v1, v2, s10, g10⟩
            exact hK2.out _ _ ⟨updV xs 14 (.int .i64 v), by simp [updV, e13], cond_set hC2.out (fun j v h => Sat.stream (s9.keep g10) (by decide) (by decide) (by decide) _ _ h) ⟨v, rfl, v1, v2⟩, hnx _ _ (by omega) s10 g10⟩
          · intro listed a w' hs hI h0 hd K' hK
            obtain ⟨xs, rfl, hC, hW⟩ := hI
            have hK2 := Lib.hid hK
            have hC2 := Lib.hid hC
            clear hd hK hC h0
            go_simp
            exact hK2.out _ _ ⟨updV xs 15 (.pointer (some ⟨g, 0, none⟩)), by simp [updV], cond_set hC2.out (fun _ _ h => h) rfl, hW.keep (by decide)⟩
          · intro listed a w' hs hI h0 hd K' hK
            obtain ⟨xs, rfl, hC, hW⟩ := hI
            have hK2 := Lib.hid hK
            have hC2 := Lib.hid hC
            clear hd hK hC h0
            go_simp
            exact hK2.out _ _ ⟨updV xs 16 (.pointer (some ⟨b, q * 7, none⟩)), by simp [updV], cond_set hC2.out (fun _ _ h => h) rfl, hW.keep (by decide)⟩
          · intro listed a w' hs hI h0 hd K' hK
            obtain ⟨xs, rfl, hC, hW⟩ := hI
            have e16 : xs 16 = (.pointer (some ⟨b, q * 7, none⟩)) := hC 16 (hd ⟨16, .data⟩ (by simp) rfl)
            have hK2 := Lib.hid hK
            have hC2 := Lib.hid hC
            clear hd hK hC h0
            go_simp
            exact hK2.out _ _ ⟨updV xs 17 (.pointer (some ⟨b, q * 7, none⟩)), by simp [updV, e16], cond_set hC2.out (fun _ _ h => h) rfl, hW.keep (by decide)⟩
          · intro listed a w' hs hI h0 hd K' hK
            obtain ⟨xs, rfl, hC, hW⟩ := hI
            have e17 : xs 17 = (.pointer (some ⟨b, q * 7, none⟩)) := hC 17 (hd ⟨17, .data⟩ (by simp) rfl)
            have hK2 := Lib.hid hK
            have hC2 := Lib.hid hC
            clear hd hK hC h0
            go_simp
            exact hK2.out _ _ ⟨updV xs 18 (.pointer (some ⟨b, q * 7 + 4, none⟩)), by simp [updV, e17], cond_set hC2.out (fun _ _ h => h) rfl, hW.keep (by decide)⟩
          · intro listed a w' hs hI h0 hd K' hK
            obtain ⟨xs, rfl, hC, hW⟩ := hI
            have e18 : xs 18 = (.pointer (some ⟨b, q * 7 + 4, none⟩)) := hC 18 (hd ⟨18, .data⟩ (by simp) rfl)
            have hK2 := Lib.hid hK
            have hC2 := Lib.hid hC
            obtain ⟨u9, c9, ⟨x9, rfl⟩, f9⟩ := hW.load rpK (s := 7) rfl (q := q) (d := 4) hqn (by decide)
            clear hd hK hC h0
            go_simp
            exact hK2.out _ _ ⟨updV xs 19 (.int .i64 x9), by simp [updV, e18], cond_set hC2.out (fun _ _ h => h) ⟨_, rfl⟩, hW.keep (by decide)⟩
          · intro listed a w' hs hI h0 hd K' hK
            obtain ⟨xs, rfl, hC, hW⟩ := hI
            obtain ⟨v19, e19⟩ : ∃ v : Int, xs 19 = .int .i64 v := hC 19 (hd ⟨19, .data⟩ (by simp) rfl)
            have hK2 := Lib.hid hK
            have hC2 := Lib.hid hC
            clear hd hK hC h0
            go_simp
            exact hK2.out _ _ ⟨updV xs 20 (.slice (some ⟨w'.heap.size, 0, none⟩) 3 3), by simp [updV, e19], cond_set hC2.out (fun j v h => Sat.alloc _ _ _ h) ⟨w'.heap.size, [v19, 0, -1], rfl, rfl, heap_alloc_new w' _⟩, ((hW.alloc _).keep (by decide))⟩
          · intro listed a w' hs hI h0 hd K' hK
            obtain ⟨xs, rfl, hC, hW⟩ := hI
            have e15 : xs 15 = (.pointer (some ⟨g, 0, none⟩)) := hC 15 (hd ⟨15, .data⟩ (by simp) rfl)
            obtain ⟨z20, l20, e20, hl20, hz20⟩ : ∃ (z : Nat) (l : List Int), xs 20 = .slice (some ⟨z, 0, none⟩) 3 3 ∧ l.length = 3 ∧ w'.heap[z]? = some (.cells (ints l).toArray 3 (0, 0)) := hC 20 (hd ⟨20, .data⟩ (by simp) rfl)
            have hK2 := Lib.hid hK
            have hC2 := Lib.hid hC
            obtain ⟨k9, s9, hk9, hnx⟩ := MW1.call hglt hW h0 (by decide) (by decide)
            have r9 : RI 3 w' (some ⟨z20, 0, none⟩) 3 l20 := R1.of_lit hz20 rfl hl20 (by decide)
            clear h0
            clear hd hK hC
            go_simp
            refine (pickE_c g zs _ _ _ _ _ _ s9 (by omega) r9 (by decide)).mono ?_; rintro e w1 ⟨v, rfl, hv9, s10, g10⟩
            exact hK2.out _ _ ⟨updV xs 21 (.int .i64 v), by simp [updV, e15, e20], cond_set hC2.out (fun j v h => Sat.stream (s9.keep g10) (by decide) (by decide) (by decide) _ _ h) ⟨_, rfl⟩, hnx _ _ (by omega) s10 g10⟩
          · intro listed a w' hs hI h0 hd K' hK
            obtain ⟨xs, rfl, hC, hW⟩ := hI
            have e0 : xs 0 = (.pointer (some ⟨b, q * 7, none⟩)) := hC 0 (hd ⟨0, .data⟩ (by simp) rfl)
            have hK2 := Lib.hid hK
            have hC2 := Lib.hid hC
            clear hd hK hC h0
            go_simp
            exact hK2.out _ _ ⟨updV xs 22 (.pointer (some ⟨b, q * 7, none⟩)), by simp [updV, e0], cond_set hC2.out (fun _ _ h => h) rfl, hW.keep (by decide)⟩
          · intro listed a w' hs hI h0 hd K' hK
            obtain ⟨xs, rfl, hC, hW⟩ := hI
            have e22 : xs 22 = (.pointer (some ⟨b, q * 7, none⟩)) := hC 22 (hd ⟨22, .data⟩ (by simp) rfl)
            have hK2 := Lib.hid hK
            have hC2 := Lib.hid hC
            clear hd hK hC h0
            go_simp
            exact hK2.out _ _ ⟨updV xs 23 (.pointer (some ⟨b, q * 7, none⟩)), by simp [updV, e22], cond_set hC2.out (fun _ _ h => h) rfl, hW.keep (by decide)⟩
          · intro listed a w' hs hI h0 hd K' hK
            obtain ⟨xs, rfl, hC, hW⟩ := hI
            obtain ⟨v10, e10⟩ : ∃ v : ByteArray, xs 10 = .string v := hC 10 (hd ⟨10, .data⟩ (by simp) rfl)
            have e23 : xs 23 = (.pointer (some ⟨b, q * 7, none⟩)) := hC 23 (hd ⟨23, .data⟩ (by simp) rfl)
            have hK2 := Lib.hid hK
            have hC2 := Lib.hid hC
            obtain ⟨u9, c9, _, f9⟩ := hW.load rpK (s := 7) rfl (q := q) (d := 0) hqn (by decide)
            obtain ⟨cs9, hcs9⟩ := hW.blk
            have hS9 := Lib.hid (MW1.store rpK (s := 7) rfl hglt hW (q := q) (d := 0) hqn (by decide) (v := .string v10) ⟨_, rfl⟩)
            rw [Nat.add_zero] at c9 f9 hS9
            clear hd hK hC h0
            go_simp
            exact hK2.out _ _ ⟨updV xs 24 (undef), by simp [updV, e10, e23], cond_set hC2.out (fun j v h => Sat.set rpK hcs9 (by decide) (by decide) (okAt (q := q) (s := 7) (c := 0) rfl rfl ⟨_, rfl⟩) _ _ h) trivial, hS9.out.keep (by decide)⟩
          · intro listed a w' hs hI h0 hd K' hK
            obtain ⟨xs, rfl, hC, hW⟩ := hI
            have e1 : xs 1 = (.pointer (some ⟨b, q * 7, none⟩)) := hC 1 (hd ⟨1, .data⟩ (by simp) rfl)
            have hK2 := Lib.hid hK
            have hC2 := Lib.hid hC
            clear hd hK hC h0
            go_simp
            exact hK2.out _ _ ⟨updV xs 25 (.pointer (some ⟨b, q * 7, none⟩)), by simp [updV, e1], cond_set hC2.out (fun _ _ h => h) rfl, hW.keep (by decide)⟩
          · intro listed a w' hs hI h0 hd K' hK
            obtain ⟨xs, rfl, hC, hW⟩ := hI
            have e25 : xs 25 = (.pointer (some ⟨b, q * 7, none⟩)) := hC 25 (hd ⟨25, .data⟩ (by simp) rfl)
            have hK2 := Lib.hid hK
            have hC2 := Lib.hid hC
            clear hd hK hC h0
            go_simp
            exact hK2.out _ _ ⟨updV xs 26 (.pointer (some ⟨b, q * 7 + 3, none⟩)), by simp [updV, e25], cond_set hC2.out (fun _ _ h => h) rfl, hW.keep (by decide)⟩
          · intro listed a w' hs hI h0 hd K' hK
            obtain ⟨xs, rfl, hC, hW⟩ := hI
            obtain ⟨v12, e12, a12, b12⟩ : ∃ v : Int, xs 12 = .int .i64 v ∧ (-1099511627776) ≤ v ∧ v ≤ 1099511627776 := hC 12 (hd ⟨12, .data⟩ (by simp) rfl)
            have e26 : xs 26 = (.pointer (some ⟨b, q * 7 + 3, none⟩)) := hC 26 (hd ⟨26, .data⟩ (by simp) rfl)
            have hK2 := Lib.hid hK
            have hC2 := Lib.hid hC
            obtain ⟨u9, c9, _, f9⟩ := hW.load rpK (s := 7) rfl (q := q) (d := 3) hqn (by decide)
            obtain ⟨cs9, hcs9⟩ := hW.blk
            have hS9 := Lib.hid (MW1.store rpK (s := 7) rfl hglt hW (q := q) (d := 3) hqn (by decide) (v := .int .i64 v12) ⟨_, rfl⟩)
            clear hd hK hC h0
            go_simp
            exact hK2.out _ _ ⟨updV xs 27 (undef), by simp [updV, e12, e26], cond_set hC2.out (fun j v h => Sat.set rpK hcs9 (by decide) (by decide) (okAt (q := q) (s := 7) (c := 3) rfl rfl ⟨_, rfl⟩) _ _ h) trivial, hS9.out.keep (by decide)⟩
          · intro listed a w' hs hI h0 hd K' hK
            obtain ⟨xs, rfl, hC, hW⟩ := hI
            have e2 : xs 2 = (.pointer (some ⟨b, q * 7, none⟩)) := hC 2 (hd ⟨2, .data⟩ (by simp) rfl)
            have hK2 := Lib.hid hK
            have hC2 := Lib.hid hC
            clear hd hK hC h0
            go_simp
            exact hK2.out _ _ ⟨updV xs 28 (.pointer (some ⟨b, q * 7, none⟩)), by simp [updV, e2], cond_set hC2.out (fun _ _ h => h) rfl, hW.keep (by decide)⟩
          · intro listed a w' hs hI h0 hd K' hK
            obtain ⟨xs, rfl, hC, hW⟩ := hI
            have e28 : xs 28 = (.pointer (some ⟨b, q * 7, none⟩)) := hC 28 (hd ⟨28, .data⟩ (by simp) rfl)
            have hK2 := Lib.hid hK
            have hC2 := Lib.hid hC
            clear hd hK hC h0
            go_simp
            exact hK2.out _ _ ⟨updV xs 29 (.pointer (some ⟨b, q * 7 + 5, none⟩)), by simp [updV, e28], cond_set hC2.out (fun _ _ h => h) rfl, hW.keep (by decide)⟩
          · intro listed a w' hs hI h0 hd K' hK
            obtain ⟨xs, rfl, hC, hW⟩ := hI
            obtain ⟨v14, e14, a14, b14⟩ : ∃ v : Int, xs 14 = .int .i64 v ∧ (-1099511627776) ≤ v ∧ v ≤ 1099511627776 := hC 14 (hd ⟨14, .data⟩ (by simp) rfl)
            have e29 : xs 29 = (.pointer (some ⟨b, q * 7 + 5, none⟩)) := hC 29 (hd ⟨29, .data⟩ (by simp) rfl)
            have hK2 := Lib.hid hK
            have hC2 := Lib.hid hC
            obtain ⟨u9, c9, _, f9⟩ := hW.load rpK (s := 7) rfl (q := q) (d := 5) hqn (by decide)
            obtain ⟨cs9, hcs9⟩ := hW.blk
            have hS9 := Lib.hid (MW1.store rpK (s := 7) rfl hglt hW (q := q) (d := 5) hqn (by decide) (v := .int .i64 v14) ⟨_, rfl⟩)
            clear hd hK hC h0
            go_simp
            exact hK2.out _ _ ⟨updV xs 30 (undef), by simp [updV, e14, e29], cond_set hC2.out (fun j v h => Sat.set rpK hcs9 (by decide) (by decide) (okAt (q := q) (s := 7) (c := 5) rfl rfl ⟨_, rfl⟩) _ _ h) trivial, hS9.out.keep (by decide)⟩
          · intro listed a w' hs hI h0 hd K' hK
            obtain ⟨xs, rfl, hC, hW⟩ := hI
            have e3 : xs 3 = (.pointer (some ⟨b, q * 7, none⟩)) := hC 3 (hd ⟨3, .data⟩ (by simp) rfl)
            have hK2 := Lib.hid hK
            have hC2 := Lib.hid hC
            clear hd hK hC h0
            go_simp
            exact hK2.out _ _ ⟨updV xs 31 (.pointer (some ⟨b, q * 7, none⟩)), by simp [updV, e3], cond_set hC2.out (fun _ _ h => h) rfl, hW.keep (by decide)⟩
          · intro listed a w' hs hI h0 hd K' hK
            obtain ⟨xs, rfl, hC, hW⟩ := hI
            have e31 : xs 31 = (.pointer (some ⟨b, q * 7, none⟩)) := hC 31 (hd ⟨31, .data⟩ (by simp) rfl)
            have hK2 := Lib.hid hK
            have hC2 := Lib.hid hC
            clear hd hK hC h0
            go_simp
            exact hK2.out _ _ ⟨updV xs 32 (.pointer (some ⟨b, q * 7 + 4, none⟩)), by simp [updV, e31], cond_set hC2.out (fun _ _ h => h) rfl, hW.keep (by decide)⟩
          · intro listed a w' hs hI h0 hd K' hK
            obtain ⟨xs, rfl, hC, hW⟩ := hI
            obtain ⟨v21, e21⟩ : ∃ v : Int, xs 21 = .int .i64 v := hC 21 (hd ⟨21, .data⟩ (by simp) rfl)
            have e32 : xs 32 = (.pointer (some ⟨b, q * 7 + 4, none⟩)) := hC 32 (hd ⟨32, .data⟩ (by simp) rfl)
            have hK2 := Lib.hid hK
            have hC2 := Lib.hid hC
            obtain ⟨u9, c9, _, f9⟩ := hW.load rpK (s := 7) rfl (q := q) (d := 4) hqn (by decide)
            obtain ⟨cs9, hcs9⟩ := hW.blk
            have hS9 := Lib.hid (MW1.store rpK (s := 7) rfl hglt hW (q := q) (d := 4) hqn (by decide) (v := .int .i64 v21) ⟨_, rfl⟩)
            clear hd hK hC h0
            go_simp
            exact hK2.out _ _ ⟨updV xs 33 (undef), by simp [updV, e21, e32], cond_set hC2.out (fun j v h => Sat.set rpK hcs9 (by decide) (by decide) (okAt (q := q) (s := 7) (c := 4) rfl rfl ⟨_, rfl⟩) _ _ h) trivial, hS9.out.keep (by decide)⟩
        case he =>
          intro listed a w' hs hI hr
          obtain ⟨xs, rfl, hC, hW⟩ := hI
          clear hC hs hr
          obtain ⟨k9, l9, s9, o9, hl9, g9, hk9⟩ := hW.out hgr8 (Nat.le_refl _)
          go_wp2
          go_ret
          exact ⟨_, c, l9, k9, rfl, o9, hl9, s9, by omega, g9⟩
/-- what RightReports hands back -/
def RetRRp (w : World) (g : Nat) (zs : List Int) (k M : Nat) (e : Ending) (w' : World) : Prop := ∃ (A : Option Addr) (n c : Nat) (l : List Rp) (k' : Nat), e = .returned (.slice A n c) ∧ w'.ownsRow w.heap.size 62 7 (.slice A n c) n (l.flatMap rpE) ∧ l.length = n ∧ rpErr l = 0 ∧ n ≤ M ∧ St w' g zs k' ∧ k' ≤ k + 6 * (7 * M + 20) ∧ w.grownBy w' (some g)
end Go.Proofs.YtjafcnblgeibpaaGreatDoor
