/- The stream's fixes. Printed by wip/genfxc.py. -/
import Derived.Test.YtnkhdofcmanipaaGreatDoorFaMkReg
import Derived.Test.YtnkhdofcmanipaaGreatDoorFaFxA
namespace Go.Proofs.YtnkhdofcmanipaaGreatDoor
open Go.RowKit Go.Shelf Go.Lib Go.Sort
set_option linter.unusedVariables false

theorem fxK : EncK fxE [0, 1, 1, 1, 1, 1, 0] := by
  refine ⟨fun _ => rfl, fun x c hc => ?_, fun x c v hc hv => ?_⟩
  · match c, hc with
    | 0, _ => exact ⟨_, rfl, _, rfl⟩
    | 1, _ => exact ⟨_, rfl, _, rfl⟩
    | 2, _ => exact ⟨_, rfl, _, rfl⟩
    | 3, _ => exact ⟨_, rfl, _, rfl⟩
    | 4, _ => exact ⟨_, rfl, _, rfl⟩
    | 5, _ => exact ⟨_, rfl, _, rfl⟩
    | 6, _ => exact ⟨_, rfl, _, rfl⟩
  · match c, hc, hv with
    | 0, _, ⟨y, h⟩ => subst h; exact ⟨⟨y, x.ht, x.ln, x.le, x.tm, x.vr, x.by_⟩, rfl⟩
    | 1, _, ⟨y, h⟩ => subst h; exact ⟨⟨x.rc, y, x.ln, x.le, x.tm, x.vr, x.by_⟩, rfl⟩
    | 2, _, ⟨y, h⟩ => subst h; exact ⟨⟨x.rc, x.ht, y, x.le, x.tm, x.vr, x.by_⟩, rfl⟩
    | 3, _, ⟨y, h⟩ => subst h; exact ⟨⟨x.rc, x.ht, x.ln, y, x.tm, x.vr, x.by_⟩, rfl⟩
    | 4, _, ⟨y, h⟩ => subst h; exact ⟨⟨x.rc, x.ht, x.ln, x.le, y, x.vr, x.by_⟩, rfl⟩
    | 5, _, ⟨y, h⟩ => subst h; exact ⟨⟨x.rc, x.ht, x.ln, x.le, x.tm, y, x.by_⟩, rfl⟩
    | 6, _, ⟨y, h⟩ => subst h; exact ⟨⟨x.rc, x.ht, x.ln, x.le, x.tm, x.vr, y⟩, rfl⟩
/-- what Fixes hands back -/
def RetFx (w : World) (g : Nat) (zs : Zs) (k : Nat) (e : Ending) (w' : World) : Prop := ∃ (A : Option Addr) (n c : Nat) (l : List Fx) (k' : Nat), e = .returned (.slice A n c) ∧ RFx w' A n l ∧ n ≤ 24 ∧ St w' g zs k' ∧ k' ≤ k + 70 ∧ w.grownBy w' (some g)
/-- the list under way -/
structure FK (w : World) (g : Nat) (zs : Zs) (out : Value) (acc : List Fx) (kk : Nat) (wr : World) : Prop where
  o : wr.ownsRow w.heap.size 69 7 out acc.length (acc.flatMap fxE)
  st : St wr g zs kk
  gr : w.grownBy wr (some g)
  hg : g < w.heap.size
section
variable {w wr w' : World} {g : Nat} {zs : Zs} {out : Value} {acc : List Fx} {kk : Nat}
theorem FK.stream {k' : Nat} (h : FK w g zs out acc kk wr) (hs : St w' g zs k') (hg : wr.grownBy w' (some g)) : FK w g zs out acc k' w' := ⟨own_keep h.o h.hg hg, hs, grown_trans h.gr hg, h.hg⟩
theorem FK.alloc (h : FK w g zs out acc kk wr) (o : Obj) : FK w g zs out acc kk (wr.alloc o) := ⟨h.o.alloc o, h.st.alloc o, grown_alloc h.gr o, h.hg⟩
theorem FK.app {v' : Value} {x : Fx} (h : FK w g zs out acc kk wr) (ho : w'.ownsRow w.heap.size 69 7 v' (acc.length + 1) (acc.flatMap fxE ++ (#[.string x.rc, .int .i64 x.ht, .int .i64 x.ln, .int .i64 x.le, .int .i64 x.tm, .int .i64 x.vr, .string x.by_] : Array Value).toList)) (hg : wr.grownBy w' out.ownBlock) : FK w g zs v' (acc ++ [x]) kk w' :=
  ⟨by rw [List.length_append, List.flatMap_append]; simpa [fxE] using ho, h.st.grown hg (fun i hi => by have := own_row_lt h.o i hi; have := h.hg; omega), grown_own h.gr hg (own_row_lt h.o), h.hg⟩
theorem FK.kp (h : FK w g zs out acc kk wr) (hg : wr.grownBy w' out.ownBlock) : Keep 69 wr w' := keep_row h.o hg
end
set_option maxHeartbeats 3200000 in
set_option maxRecDepth 100000 in
theorem fixes_c (g : Nat) (zs : Zs) (k : Nat) (w : World) (h : St w g zs k) (hk : k + 200 ≤ 1099511627776) :
    Calls Tryz.prog 20 #[.pointer (some ⟨g, 0, none⟩)] w (RetFx w g zs k) := by
  have hglt := h.lt
  have K0 : FK w g zs (.slice none 0 0) [] k w := ⟨World.ownsRow_nil _ _ _ _, h, grown_refl _ _, hglt⟩
  have K1 := K0.alloc (.cells #[.string ⟨#[114, 97]⟩, .string ⟨#[114, 98]⟩] 9)
  have rA : RS 9 (w.alloc (.cells #[.string ⟨#[114, 97]⟩, .string ⟨#[114, 98]⟩] 9)) (some ⟨w.heap.size, 0, none⟩) 2 [⟨#[114, 97]⟩, ⟨#[114, 98]⟩] := R1.litAt w _ _ _ rfl rfl (by decide)
  clear K0 h
  go_enter Tryz.func20, Tryz.ntmps20
  go_wp2_with fail
  generalize w.alloc (.cells #[.string ⟨#[114, 97]⟩, .string ⟨#[114, 98]⟩] 9) = wA at *
  go_loopw [3, 5, 7, 9, 10, 14] (fun out _ _ _ _ i wr => ∃ (j kk : Nat) (acc : List Fx), j ≤ 2 ∧ i = .int .i64 j ∧ acc.length ≤ 12 * j ∧ kk ≤ k + 24 * j ∧ RS 9 wr (some ⟨w.heap.size, 0, none⟩) 2 [⟨#[114, 97]⟩, ⟨#[114, 98]⟩] ∧ FK w g zs out acc kk wr) (fun _ _ _ _ _ i _ => 2 - (intOf i).toNat)
  case atStart => exact ⟨0, k, [], by omega, rfl, Nat.le_refl _, Nat.le_refl _, rA, K1⟩
  case round =>
    clear rA K1
    obtain ⟨j, kk, acc, hj, rfl, hac, hkk, r1, K⟩ := hrel
    by_cases hlt : j < 2
    · obtain ⟨b, off, x, e0, hbl, hx, cx⟩ := r1.at_ hlt
      injection e0 with e0
      injection e0 with e0 e1
      subst e0 e1
      rw [Nat.zero_add] at cx
      have K2 := K.alloc (.cells #[.int .i64 1, .int .i64 2] 3)
      have r12 := r1.alloc (.cells #[.int .i64 1, .int .i64 2] 3)
      rename World => wr
      have r2 : RI 3 (wr.alloc (.cells #[.int .i64 1, .int .i64 2] 3)) (some ⟨wr.heap.size, 0, none⟩) 2 [1, 2] := R1.litAt wr _ _ _ rfl rfl (by decide)
      clear hx K r1
      go_wp2_with fail
      clear cx
      generalize wr.alloc (.cells #[.int .i64 1, .int .i64 2] 3) = wB at *
      generalize wr.heap.size = z2 at *
      go_loopw [3, 7, 9, 10, 20] (fun out _ _ _ i wr => ∃ (j2 k2 : Nat) (acc2 : List Fx), j2 ≤ 2 ∧ i = .int .i64 j2 ∧ acc2.length ≤ 12 * j + 6 * j2 ∧ k2 ≤ k + 24 * j + 12 * j2 ∧ RS 9 wr (some ⟨w.heap.size, 0, none⟩) 2 [⟨#[114, 97]⟩, ⟨#[114, 98]⟩] ∧ RI 3 wr (some ⟨z2, 0, none⟩) 2 [1, 2] ∧ FK w g zs out acc2 k2 wr) (fun _ _ _ _ i _ => 2 - (intOf i).toNat)
      case atStart => exact ⟨0, kk, acc, by omega, rfl, by omega, by omega, r12, r2, K2⟩
      case round =>
        clear K2 r12 r2
        rename World => wr2
        obtain ⟨j2, k2, acc2, hj2, rfl, hac2, hkk2, r1, r2, K⟩ := hrel
        by_cases hlt2 : j2 < 2
        · obtain ⟨b, off, y, e0, hbl2, hy, cy⟩ := r2.at_ hlt2
          injection e0 with e0
          injection e0 with e0 e1
          subst e0 e1
          rw [Nat.zero_add] at cy
          have K2 := K.alloc (.cells #[.int .i64 0, .int .i64 2, .int .i64 4] 3)
          have r12 := r1.alloc (.cells #[.int .i64 0, .int .i64 2, .int .i64 4] 3)
          have r22 := r2.alloc (.cells #[.int .i64 0, .int .i64 2, .int .i64 4] 3)
          have r3 : RI 3 (wr2.alloc (.cells #[.int .i64 0, .int .i64 2, .int .i64 4] 3)) (some ⟨wr2.heap.size, 0, none⟩) 3 [0, 2, 4] := R1.litAt wr2 _ _ _ rfl rfl (by decide)
          clear hy K r1 r2
          go_wp2_with fail
          clear cy
          generalize wr2.alloc (.cells #[.int .i64 0, .int .i64 2, .int .i64 4] 3) = wC at *
          generalize wr2.heap.size = z3 at *
          go_loopw [3, 9, 10, 26] (fun out _ _ i wr => ∃ (j3 k3 : Nat) (acc3 : List Fx), j3 ≤ 3 ∧ i = .int .i64 j3 ∧ acc3.length ≤ 12 * j + 6 * j2 + 2 * j3 ∧ k3 ≤ k + 24 * j + 12 * j2 + 4 * j3 ∧ RS 9 wr (some ⟨w.heap.size, 0, none⟩) 2 [⟨#[114, 97]⟩, ⟨#[114, 98]⟩] ∧ RI 3 wr (some ⟨z2, 0, none⟩) 2 [1, 2] ∧ RI 3 wr (some ⟨z3, 0, none⟩) 3 [0, 2, 4] ∧ FK w g zs out acc3 k3 wr) (fun _ _ _ i _ => 3 - (intOf i).toNat)
          case atStart => exact ⟨0, k2, acc2, by omega, rfl, by omega, by omega, r12, r22, r3, K2⟩
          case round =>
            clear K2 r12 r22 r3
            rename World => wr3
            obtain ⟨j3, k3, acc3, hj3, rfl, hac3, hkk3, r1, r2, r3, K⟩ := hrel
            by_cases hlt3 : j3 < 3
            · obtain ⟨b, off, u, e0, hbl3, hu, cu⟩ := r3.at_ hlt3
              injection e0 with e0
              injection e0 with e0 e1
              subst e0 e1
              rw [Nat.zero_add] at cu
              clear hu
              go_wp2_with fail
              clear cu
              go_loopw [3, 10] (fun out vv wr => ∃ (q k4 : Nat) (acc4 : List Fx), q ≤ 2 ∧ vv = .int .i64 ((q : Int) + 1) ∧ acc4.length ≤ 12 * j + 6 * j2 + 2 * j3 + q ∧ k4 ≤ k + 24 * j + 12 * j2 + 4 * j3 + 2 * q ∧ RS 9 wr (some ⟨w.heap.size, 0, none⟩) 2 [⟨#[114, 97]⟩, ⟨#[114, 98]⟩] ∧ RI 3 wr (some ⟨z2, 0, none⟩) 2 [1, 2] ∧ RI 3 wr (some ⟨z3, 0, none⟩) 3 [0, 2, 4] ∧ FK w g zs out acc4 k4 wr) (fun _ vv _ => 3 - (intOf vv).toNat)
              case atStart => exact ⟨0, k3, acc3, by omega, rfl, by omega, by omega, r1, r2, r3, K⟩
              case round =>
                clear r1 r2 r3 K
                rename World => wr4
                obtain ⟨q, k4, acc4, hq, rfl, hac4, hkk4, r1, r2, r3, K⟩ := hrel
                have u1 : IntKind.i64.wrap ((q : Int) + 1 + 1) = (q : Int) + 1 + 1 := IntWalk.i64_in _ (by omega)
                by_cases hlt4 : q < 2
                · have u2 : (q : Int) + 1 ≤ 2 := by omega
                  go_wp2_with fail
                  refine (flipE_c g zs k4 4 _ K.st (by omega) (by omega) (by omega)).mono ?_; rintro e w1 ⟨fl, rfl, s1, g1⟩
                  have r11 := r1.keep (T := 25) (by decide) (K.st.keep g1)
                  have r21 := r2.keep (T := 25) (by decide) (K.st.keep g1)
                  have r31 := r3.keep (T := 25) (by decide) (K.st.keep g1)
                  have K1 := K.stream s1 g1
                  clear r1 r2 r3 K s1 g1
                  cases fl
                  · go_wp2
                    go_roundw
                    case rel => exact ⟨q + 1, k4 + 1, acc4, by omega, by go_num, by omega, by omega, r11, r21, r31, K1⟩
                    case measure => simp [intOf]; omega
                  · go_wp2_with fail
                    have K2 := K1.alloc (.cells #[.int .i64 0, .int .i64 2900, .int .i64 6050] 3)
                    refine (pickE_c g zs _ _ _ _ [0, 2900, 6050] _ K2.st (by omega) (R1.litAt _ _ _ _ (by first | rfl | (simp; done)) (by simp) (by simp)) (by simp)).mono ?_; rintro e w5 ⟨pv, rfl, _, s5, g5⟩
                    have r15 := (r11.alloc (.cells #[.int .i64 0, .int .i64 2900, .int .i64 6050] 3)).keep (T := 25) (by decide) (K2.st.keep g5)
                    have r25 := (r21.alloc (.cells #[.int .i64 0, .int .i64 2900, .int .i64 6050] 3)).keep (T := 25) (by decide) (K2.st.keep g5)
                    have r35 := (r31.alloc (.cells #[.int .i64 0, .int .i64 2900, .int .i64 6050] 3)).keep (T := 25) (by decide) (K2.st.keep g5)
                    have K5 := K2.stream s5 g5
                    have hz5 := K5.gr.size
                    have hmx : acc4.length ≤ 1000 := by omega
                    clear r11 r21 r31 K1 K2 s5 g5
                    go_wp2_with (at_builtin; refine wpList_app rfl (.tmp 36) (.tmp 45) 53 rfl Tryz.underlying53 info_fix rfl (by omega) (by omega) K5.o rfl rfl (by first | rfl | (simp; done)) (by rfl) (by simp [Value.oneCell']) (by omega) hz5 ?_; intro v6 w6 hown6 hg6)
                    have K6 := K5.app (x := ⟨x, 1, y, u, pv, (q : Int) + 1, ⟨#[97, 110, 110]⟩⟩) hown6 hg6
                    have r16 := r15.keep (T := 69) (by decide) (K5.kp hg6)
                    have r26 := r25.keep (T := 69) (by decide) (K5.kp hg6)
                    have r36 := r35.keep (T := 69) (by decide) (K5.kp hg6)
                    have hl6 : (acc4 ++ [(⟨x, 1, y, u, pv, (q : Int) + 1, ⟨#[97, 110, 110]⟩⟩ : Fx)]).length = acc4.length + 1 := List.length_append
                    generalize acc4 ++ [(⟨x, 1, y, u, pv, (q : Int) + 1, ⟨#[97, 110, 110]⟩⟩ : Fx)] = acc5 at *
                    clear r15 r25 r35 K5 hown6 hg6
                    go_wp2
                    go_roundw
                    case rel => exact ⟨q + 1, k4 + 1 + 1, acc5, by omega, by go_num, by omega, by omega, r16, r26, r36, K6⟩
                    case measure => simp [intOf]; omega
                · obtain rfl : q = 2 := by omega
                  go_wp2
                  go_roundw
                  case rel => exact ⟨j3 + 1, k4, acc4, by omega, by go_num, by omega, by omega, r1, r2, r3, K⟩
                  case measure => simp [intOf]; omega
            · obtain rfl : j3 = 3 := by omega
              go_wp2
              go_roundw
              case rel => exact ⟨j2 + 1, k3, acc3, by omega, by go_num, by omega, by omega, r1, r2, K⟩
              case measure => simp [intOf]; omega
        · obtain rfl : j2 = 2 := by omega
          go_wp2
          go_roundw
          case rel => exact ⟨j + 1, k2, acc2, by omega, by go_num, by omega, by omega, r1, K⟩
          case measure => simp [intOf]; omega
    · obtain rfl : j = 2 := by omega
      clear r1
      have hown := K.o
      have hst := K.st
      have hgr := K.gr
      clear K
      obtain ⟨A, c, rfl⟩ := own_shape hown
      by_cases hn0 : acc.length = 0
      · rw [hn0] at hown ⊢
        have ha0 : acc = [] := List.eq_nil_of_length_eq_zero hn0
        subst ha0
        go_wp2
        go_ret
        exact ⟨A, 0, c, [], kk, rfl, RN.nil_ _ _ _ _ _, by omega, hst, by omega, hgr⟩
      have hn1 : 0 < acc.length := by omega
      generalize hal : acc.length = n at *
      have e1 : (0 : Int) < (n : Int) := by omega
      go_wp2_with fail
      refine (flipE_c g zs kk _ _ hst (by omega) (by omega) (by omega)).mono ?_; rintro e w7 ⟨fl, rfl, s7, g7⟩
      have hown7 := own_keep hown hglt g7
      have hgr7 := grown_trans hgr g7
      clear hown hst hgr g7
      cases fl
      · go_wp2
        go_ret
        exact ⟨A, n, c, acc, _, rfl, RN.of_own fxE_len hown7 hal (by omega), by omega, s7, by omega, hgr7⟩
      · go_wp2_with fail
        refine (nextE_c g zs _ (n : Int) _ s7 (by omega) (by omega) (by omega)).mono ?_; rintro e w8 ⟨v, rfl, v0, v1, s8, g8⟩
        obtain ⟨q, rfl⟩ : ∃ q : Nat, v = q := ⟨v.toNat, by omega⟩
        have hown8 := own_keep hown7 hglt g8
        have hgr8 := grown_trans hgr7 g8
        obtain ⟨b, rfl, hbb⟩ := own_someN hown8 (by omega)
        have hqn : q < n := by omega
        have e8 : (q : Int) < n := by omega
        clear hown7 s7 hgr7 g8
        go_wp2_with fail
        refine wp_region_inv (by kernel_rfl) (fun listed a w' => ∃ xs : Nat → Value, a = { tmps := #[.pointer (some ⟨g, 0, none⟩), undef, .slice none 0 0, .slice (some ⟨b, 0, none⟩) n c, undef, u5, undef, u7, undef, u9, u10, .pointer (some ⟨b, q * 7, none⟩), .slice (some ⟨w.heap.size, 0, none⟩) 2 2, .int .i64 2, .int .i64 2, .bool false, u16, u17, u18, u19, u20, u21, u22, u23, u24, u25, u26, u27, u28, u29, u30, u31, u32, u33, u34, u35, u36, u37, u38, u39, u40, u41, u42, u43, u44, u45, u46, u47, u48, u49, .slice (some ⟨b, 0, none⟩) n c, .int .i64 ↑n, .bool true, .bool true, .pointer (some ⟨g, 0, none⟩), .bool true, .bool true, .slice (some ⟨b, 0, none⟩) n c, .pointer (some ⟨g, 0, none⟩), .slice (some ⟨b, 0, none⟩) n c, .int .i64 ↑n, .int .i64 ↑q, .pointer (some ⟨b, q * 7, none⟩), xs 0, xs 1, xs 2, xs 3, xs 4, xs 5, xs 6, xs 7, xs 8, xs 9, xs 10, xs 11, xs 12, xs 13, xs 14, xs 15, xs 16, xs 17, xs 18, xs 19, xs 20, xs 22, xs 23, xs 25, xs 26, undef], defers := [] } ∧ (∀ j, listed.getD j false = true → CT 3 9 69 fxE [.val (.pointer (some ⟨b, q * 7, none⟩)), .val (.pointer (some ⟨b, q * 7, none⟩)), .val (.pointer (some ⟨b, q * 7, none⟩)), .val (.pointer (some ⟨g, 0, none⟩)), .val (.pointer (some ⟨b, q * 7, none⟩)), .val (.pointer (some ⟨b, q * 7, none⟩)), .val (.pointer (some ⟨b, q * 7, none⟩)), .str, .strs 3, .str, .val (.pointer (some ⟨g, 0, none⟩)), .int (-1099511627776) 1099511627776, .val (.pointer (some ⟨g, 0, none⟩)), .val (.pointer (some ⟨b, q * 7, none⟩)), .val (.pointer (some ⟨b, q * 7, none⟩)), .val (.pointer (some ⟨b, q * 7 + 5, none⟩)), .num, .ints 3, .num, .val (.pointer (some ⟨b, q * 7, none⟩)), .val (.pointer (some ⟨b, q * 7, none⟩)), .any, .val (.pointer (some ⟨b, q * 7, none⟩)), .val (.pointer (some ⟨b, q * 7 + 2, none⟩)), .any, .val (.pointer (some ⟨b, q * 7, none⟩)), .val (.pointer (some ⟨b, q * 7 + 5, none⟩)), .any] j w' (xs j)) ∧ MW1 w8 g zs 69 fxE 7 w.heap.size b n c (kk + 20) [9, 11, 18] listed w') ?h0 (AllOps.of ?hs) ?he
        case h0 => exact ⟨fun j => match j with | 0 => undef | 1 => undef | 2 => undef | 3 => undef | 4 => undef | 5 => undef | 6 => undef | 7 => undef | 8 => undef | 9 => undef | 10 => undef | 11 => undef | 12 => undef | 13 => undef | 14 => undef | 15 => undef | 16 => undef | 17 => undef | 18 => undef | 19 => undef | 20 => undef | 22 => undef | 23 => undef | 25 => undef | 26 => undef | _ => undef, rfl, (fun j hj => by rw [rep_false] at hj; cases hj), MW1.start s8 hown8 hal (by first | (simp; done) | (simp; omega))⟩
        case hs =>
          refine ⟨?_, ?_, ?_, ?_, ?_, ?_, ?_, ?_, ?_, ?_, ?_, ?_, ?_, ?_, ?_, ?_, ?_, ?_, ?_, ?_, ?_, ?_, ?_, ?_, ?_, ?_, ?_, ?_, trivial⟩
          · intro listed a w' hs hI h0 hd K' hK
            obtain ⟨xs, rfl, hC, hW⟩ := hI
            have hK2 := Lib.hid hK
            have hC2 := Lib.hid hC
            clear hd hK hC h0
            go_simp
            exact hK2.out _ _ ⟨updV xs 0 (.pointer (some ⟨b, q * 7, none⟩)), by simp [updV], cond_set hC2.out (fun _ _ h => h) rfl, hW.keep (by decide)⟩
          · intro listed a w' hs hI h0 hd K' hK
            obtain ⟨xs, rfl, hC, hW⟩ := hI
            have hK2 := Lib.hid hK
            have hC2 := Lib.hid hC
            clear hd hK hC h0
            go_simp
            exact hK2.out _ _ ⟨updV xs 1 (.pointer (some ⟨b, q * 7, none⟩)), by simp [updV], cond_set hC2.out (fun _ _ h => h) rfl, hW.keep (by decide)⟩
          · intro listed a w' hs hI h0 hd K' hK
            obtain ⟨xs, rfl, hC, hW⟩ := hI
            have hK2 := Lib.hid hK
            have hC2 := Lib.hid hC
            clear hd hK hC h0
            go_simp
            exact hK2.out _ _ ⟨updV xs 2 (.pointer (some ⟨b, q * 7, none⟩)), by simp [updV], cond_set hC2.out (fun _ _ h => h) rfl, hW.keep (by decide)⟩
          · intro listed a w' hs hI h0 hd K' hK
            obtain ⟨xs, rfl, hC, hW⟩ := hI
            have hK2 := Lib.hid hK
            have hC2 := Lib.hid hC
            clear hd hK hC h0
            go_simp
            exact hK2.out _ _ ⟨updV xs 3 (.pointer (some ⟨g, 0, none⟩)), by simp [updV], cond_set hC2.out (fun _ _ h => h) rfl, hW.keep (by decide)⟩
          · intro listed a w' hs hI h0 hd K' hK
            obtain ⟨xs, rfl, hC, hW⟩ := hI
            have hK2 := Lib.hid hK
            have hC2 := Lib.hid hC
            clear hd hK hC h0
            go_simp
            exact hK2.out _ _ ⟨updV xs 4 (.pointer (some ⟨b, q * 7, none⟩)), by simp [updV], cond_set hC2.out (fun _ _ h => h) rfl, hW.keep (by decide)⟩
          · intro listed a w' hs hI h0 hd K' hK
            obtain ⟨xs, rfl, hC, hW⟩ := hI
            have e4 : xs 4 = (.pointer (some ⟨b, q * 7, none⟩)) := hC 4 (hd ⟨4, .data⟩ (by simp) rfl)
            have hK2 := Lib.hid hK
            have hC2 := Lib.hid hC
            clear hd hK hC h0
            go_simp
            exact hK2.out _ _ ⟨updV xs 5 (.pointer (some ⟨b, q * 7, none⟩)), by simp [updV, e4], cond_set hC2.out (fun _ _ h => h) rfl, hW.keep (by decide)⟩
          · intro listed a w' hs hI h0 hd K' hK
            obtain ⟨xs, rfl, hC, hW⟩ := hI
            have e5 : xs 5 = (.pointer (some ⟨b, q * 7, none⟩)) := hC 5 (hd ⟨5, .data⟩ (by simp) rfl)
            have hK2 := Lib.hid hK
            have hC2 := Lib.hid hC
            clear hd hK hC h0
            go_simp
            exact hK2.out _ _ ⟨updV xs 6 (.pointer (some ⟨b, q * 7, none⟩)), by simp [updV, e5], cond_set hC2.out (fun _ _ h => h) rfl, hW.keep (by decide)⟩
          · intro listed a w' hs hI h0 hd K' hK
            obtain ⟨xs, rfl, hC, hW⟩ := hI
            have e6 : xs 6 = (.pointer (some ⟨b, q * 7, none⟩)) := hC 6 (hd ⟨6, .data⟩ (by simp) rfl)
            have hK2 := Lib.hid hK
            have hC2 := Lib.hid hC
            obtain ⟨u9, c9, ⟨x9, rfl⟩, f9⟩ := hW.load fxK (s := 7) rfl (q := q) (d := 0) hqn (by decide)
            rw [Nat.add_zero] at c9
            clear hd hK hC h0
            go_simp
            exact hK2.out _ _ ⟨updV xs 7 (.string x9), by simp [updV, e6], cond_set hC2.out (fun _ _ h => h) ⟨_, rfl⟩, hW.keep (by decide)⟩
          · intro listed a w' hs hI h0 hd K' hK
            obtain ⟨xs, rfl, hC, hW⟩ := hI
            obtain ⟨v7, e7⟩ : ∃ v : ByteArray, xs 7 = .string v := hC 7 (hd ⟨7, .data⟩ (by simp) rfl)
            have hK2 := Lib.hid hK
            have hC2 := Lib.hid hC
            clear hd hK hC h0
            go_simp
            exact hK2.out _ _ ⟨updV xs 8 (.slice (some ⟨w'.heap.size, 0, none⟩) 3 3), by simp [updV, e7], cond_set hC2.out (fun j v h => Sat.alloc _ _ _ h) ⟨w'.heap.size, [v7, ⟨#[]⟩, ⟨#[114, 97]⟩], rfl, rfl, heap_alloc_new w' _⟩, ((hW.alloc _).keep (by decide))⟩
          · intro listed a w' hs hI h0 hd K' hK
            obtain ⟨xs, rfl, hC, hW⟩ := hI
            have e3 : xs 3 = (.pointer (some ⟨g, 0, none⟩)) := hC 3 (hd ⟨3, .data⟩ (by simp) rfl)
            obtain ⟨z8, l8, e8, hl8, hz8⟩ : ∃ (z : Nat) (l : List ByteArray), xs 8 = .slice (some ⟨z, 0, none⟩) 3 3 ∧ l.length = 3 ∧ w'.heap[z]? = some (.cells (l.map Value.string).toArray 9 (0, 0)) := hC 8 (hd ⟨8, .data⟩ (by simp) rfl)
            have hK2 := Lib.hid hK
            have hC2 := Lib.hid hC
            obtain ⟨k9, s9, hk9, hnx⟩ := MW1.call hglt hW h0 (by decide) (by decide)
            have r9 : RS 9 w' (some ⟨z8, 0, none⟩) 3 l8 := R1.of_lit hz8 rfl hl8 (by decide)
            clear h0
            clear hd hK hC
            go_simp
            refine (some_c g zs _ _ _ _ _ _ s9 (by omega) r9 (by decide)).mono ?_; rintro e w1 ⟨rfl, s10, g10⟩
            exact hK2.out _ _ ⟨updV xs 9 (.string (pickV zs k9 l8)), by simp [updV, e3, e8], cond_set hC2.out (fun j v h => Sat.stream (s9.keep g10) (by decide) (by decide) (by decide) _ _ h) ⟨_, rfl⟩, hnx _ _ (by omega) s10 g10⟩
          · intro listed a w' hs hI h0 hd K' hK
            obtain ⟨xs, rfl, hC, hW⟩ := hI
            have hK2 := Lib.hid hK
            have hC2 := Lib.hid hC
            clear hd hK hC h0
            go_simp
            exact hK2.out _ _ ⟨updV xs 10 (.pointer (some ⟨g, 0, none⟩)), by simp [updV], cond_set hC2.out (fun _ _ h => h) rfl, hW.keep (by decide)⟩
          · intro listed a w' hs hI h0 hd K' hK
            obtain ⟨xs, rfl, hC, hW⟩ := hI
            have e10 : xs 10 = (.pointer (some ⟨g, 0, none⟩)) := hC 10 (hd ⟨10, .data⟩ (by simp) rfl)
            have hK2 := Lib.hid hK
            have hC2 := Lib.hid hC
            obtain ⟨k9, s9, hk9, hnx⟩ := MW1.call hglt hW h0 (by decide) (by decide)
            clear h0
            clear hd hK hC
            go_simp
            refine (oddE_c g zs _ _ _ _ s9 (by omega) (by omega) (by omega) (by omega)).mono ?_; rintro e w1 ⟨v, rfl, v1, v2, s10, g10⟩
            exact hK2.out _ _ ⟨updV xs 11 (.int .i64 v), by simp [updV, e10], cond_set hC2.out (fun j v h => Sat.stream (s9.keep g10) (by decide) (by decide) (by decide) _ _ h) ⟨v, rfl, v1, v2⟩, hnx _ _ (by omega) s10 g10⟩
          · intro listed a w' hs hI h0 hd K' hK
            obtain ⟨xs, rfl, hC, hW⟩ := hI
            have hK2 := Lib.hid hK
            have hC2 := Lib.hid hC
            clear hd hK hC h0
            go_simp
            exact hK2.out _ _ ⟨updV xs 12 (.pointer (some ⟨g, 0, none⟩)), by simp [updV], cond_set hC2.out (fun _ _ h => h) rfl, hW.keep (by decide)⟩
          · intro listed a w' hs hI h0 hd K' hK
            obtain ⟨xs, rfl, hC, hW⟩ := hI
            have hK2 := Lib.hid hK
            have hC2 := Lib.hid hC
            clear hd hK hC h0
            go_simp
            exact hK2.out _ _ ⟨updV xs 13 (.pointer (some ⟨b, q * 7, none⟩)), by simp [updV], cond_set hC2.out (fun _ _ h => h) rfl, hW.keep (by decide)⟩
          · intro listed a w' hs hI h0 hd K' hK
            obtain ⟨xs, rfl, hC, hW⟩ := hI
            have e13 : xs 13 = (.pointer (some ⟨b, q * 7, none⟩)) := hC 13 (hd ⟨13, .data⟩ (by simp) rfl)
            have hK2 := Lib.hid hK
            have hC2 := Lib.hid hC
            clear hd hK hC h0
            go_simp
            exact hK2.out _ _ ⟨updV xs 14 (.pointer (some ⟨b, q * 7, none⟩)), by simp [updV, e13], cond_set hC2.out (fun _ _ h => h) rfl, hW.keep (by decide)⟩
          · intro listed a w' hs hI h0 hd K' hK
            obtain ⟨xs, rfl, hC, hW⟩ := hI
            have e14 : xs 14 = (.pointer (some ⟨b, q * 7, none⟩)) := hC 14 (hd ⟨14, .data⟩ (by simp) rfl)
            have hK2 := Lib.hid hK
            have hC2 := Lib.hid hC
            clear hd hK hC h0
            go_simp
            exact hK2.out _ _ ⟨updV xs 15 (.pointer (some ⟨b, q * 7 + 5, none⟩)), by simp [updV, e14], cond_set hC2.out (fun _ _ h => h) rfl, hW.keep (by decide)⟩
          · intro listed a w' hs hI h0 hd K' hK
            obtain ⟨xs, rfl, hC, hW⟩ := hI
            have e15 : xs 15 = (.pointer (some ⟨b, q * 7 + 5, none⟩)) := hC 15 (hd ⟨15, .data⟩ (by simp) rfl)
            have hK2 := Lib.hid hK
            have hC2 := Lib.hid hC
            obtain ⟨u9, c9, ⟨x9, rfl⟩, f9⟩ := hW.load fxK (s := 7) rfl (q := q) (d := 5) hqn (by decide)
            clear hd hK hC h0
            go_simp
            exact hK2.out _ _ ⟨updV xs 16 (.int .i64 x9), by simp [updV, e15], cond_set hC2.out (fun _ _ h => h) ⟨_, rfl⟩, hW.keep (by decide)⟩
          · intro listed a w' hs hI h0 hd K' hK
            obtain ⟨xs, rfl, hC, hW⟩ := hI
            obtain ⟨v16, e16⟩ : ∃ v : Int, xs 16 = .int .i64 v := hC 16 (hd ⟨16, .data⟩ (by simp) rfl)
            have hK2 := Lib.hid hK
            have hC2 := Lib.hid hC
            clear hd hK hC h0
            go_simp
            exact hK2.out _ _ ⟨updV xs 17 (.slice (some ⟨w'.heap.size, 0, none⟩) 3 3), by simp [updV, e16], cond_set hC2.out (fun j v h => Sat.alloc _ _ _ h) ⟨w'.heap.size, [v16, 0, 1], rfl, rfl, heap_alloc_new w' _⟩, ((hW.alloc _).keep (by decide))⟩
          · intro listed a w' hs hI h0 hd K' hK
            obtain ⟨xs, rfl, hC, hW⟩ := hI
            have e12 : xs 12 = (.pointer (some ⟨g, 0, none⟩)) := hC 12 (hd ⟨12, .data⟩ (by simp) rfl)
            obtain ⟨z17, l17, e17, hl17, hz17⟩ : ∃ (z : Nat) (l : List Int), xs 17 = .slice (some ⟨z, 0, none⟩) 3 3 ∧ l.length = 3 ∧ w'.heap[z]? = some (.cells (ints l).toArray 3 (0, 0)) := hC 17 (hd ⟨17, .data⟩ (by simp) rfl)
            have hK2 := Lib.hid hK
            have hC2 := Lib.hid hC
            obtain ⟨k9, s9, hk9, hnx⟩ := MW1.call hglt hW h0 (by decide) (by decide)
            have r9 : RI 3 w' (some ⟨z17, 0, none⟩) 3 l17 := R1.of_lit hz17 rfl hl17 (by decide)
            clear h0
            clear hd hK hC
            go_simp
            refine (pickE_c g zs _ _ _ _ _ _ s9 (by omega) r9 (by decide)).mono ?_; rintro e w1 ⟨v, rfl, hv9, s10, g10⟩
            exact hK2.out _ _ ⟨updV xs 18 (.int .i64 v), by simp [updV, e12, e17], cond_set hC2.out (fun j v h => Sat.stream (s9.keep g10) (by decide) (by decide) (by decide) _ _ h) ⟨_, rfl⟩, hnx _ _ (by omega) s10 g10⟩
          · intro listed a w' hs hI h0 hd K' hK
            obtain ⟨xs, rfl, hC, hW⟩ := hI
            have e0 : xs 0 = (.pointer (some ⟨b, q * 7, none⟩)) := hC 0 (hd ⟨0, .data⟩ (by simp) rfl)
            have hK2 := Lib.hid hK
            have hC2 := Lib.hid hC
            clear hd hK hC h0
            go_simp
            exact hK2.out _ _ ⟨updV xs 19 (.pointer (some ⟨b, q * 7, none⟩)), by simp [updV, e0], cond_set hC2.out (fun _ _ h => h) rfl, hW.keep (by decide)⟩
          · intro listed a w' hs hI h0 hd K' hK
            obtain ⟨xs, rfl, hC, hW⟩ := hI
            have e19 : xs 19 = (.pointer (some ⟨b, q * 7, none⟩)) := hC 19 (hd ⟨19, .data⟩ (by simp) rfl)
            have hK2 := Lib.hid hK
            have hC2 := Lib.hid hC
            clear hd hK hC h0
            go_simp
            exact hK2.out _ _ ⟨updV xs 20 (.pointer (some ⟨b, q * 7, none⟩)), by simp [updV, e19], cond_set hC2.out (fun _ _ h => h) rfl, hW.keep (by decide)⟩
          · intro listed a w' hs hI h0 hd K' hK
            obtain ⟨xs, rfl, hC, hW⟩ := hI
            obtain ⟨v9, e9⟩ : ∃ v : ByteArray, xs 9 = .string v := hC 9 (hd ⟨9, .data⟩ (by simp) rfl)
            have e20 : xs 20 = (.pointer (some ⟨b, q * 7, none⟩)) := hC 20 (hd ⟨20, .data⟩ (by simp) rfl)
            have hK2 := Lib.hid hK
            have hC2 := Lib.hid hC
            obtain ⟨u9, c9, _, f9⟩ := hW.load fxK (s := 7) rfl (q := q) (d := 0) hqn (by decide)
            obtain ⟨cs9, hcs9⟩ := hW.blk
            have hS9 := Lib.hid (MW1.store fxK (s := 7) rfl hglt hW (q := q) (d := 0) hqn (by decide) (v := .string v9) ⟨_, rfl⟩)
            rw [Nat.add_zero] at c9 f9 hS9
            clear hd hK hC h0
            go_simp
            exact hK2.out _ _ ⟨updV xs 21 (undef), by simp [updV, e9, e20], cond_set hC2.out (fun j v h => Sat.set fxK hcs9 (by decide) (by decide) (okAt (q := q) (s := 7) (c := 0) rfl rfl ⟨_, rfl⟩) _ _ h) trivial, hS9.out.keep (by decide)⟩
          · intro listed a w' hs hI h0 hd K' hK
            obtain ⟨xs, rfl, hC, hW⟩ := hI
            have e1 : xs 1 = (.pointer (some ⟨b, q * 7, none⟩)) := hC 1 (hd ⟨1, .data⟩ (by simp) rfl)
            have hK2 := Lib.hid hK
            have hC2 := Lib.hid hC
            clear hd hK hC h0
            go_simp
            exact hK2.out _ _ ⟨updV xs 22 (.pointer (some ⟨b, q * 7, none⟩)), by simp [updV, e1], cond_set hC2.out (fun _ _ h => h) rfl, hW.keep (by decide)⟩
          · intro listed a w' hs hI h0 hd K' hK
            obtain ⟨xs, rfl, hC, hW⟩ := hI
            have e22 : xs 22 = (.pointer (some ⟨b, q * 7, none⟩)) := hC 22 (hd ⟨22, .data⟩ (by simp) rfl)
            have hK2 := Lib.hid hK
            have hC2 := Lib.hid hC
            clear hd hK hC h0
            go_simp
            exact hK2.out _ _ ⟨updV xs 23 (.pointer (some ⟨b, q * 7 + 2, none⟩)), by simp [updV, e22], cond_set hC2.out (fun _ _ h => h) rfl, hW.keep (by decide)⟩
          · intro listed a w' hs hI h0 hd K' hK
            obtain ⟨xs, rfl, hC, hW⟩ := hI
            obtain ⟨v11, e11, a11, b11⟩ : ∃ v : Int, xs 11 = .int .i64 v ∧ (-1099511627776) ≤ v ∧ v ≤ 1099511627776 := hC 11 (hd ⟨11, .data⟩ (by simp) rfl)
            have e23 : xs 23 = (.pointer (some ⟨b, q * 7 + 2, none⟩)) := hC 23 (hd ⟨23, .data⟩ (by simp) rfl)
            have hK2 := Lib.hid hK
            have hC2 := Lib.hid hC
            obtain ⟨u9, c9, _, f9⟩ := hW.load fxK (s := 7) rfl (q := q) (d := 2) hqn (by decide)
            obtain ⟨cs9, hcs9⟩ := hW.blk
            have hS9 := Lib.hid (MW1.store fxK (s := 7) rfl hglt hW (q := q) (d := 2) hqn (by decide) (v := .int .i64 v11) ⟨_, rfl⟩)
            clear hd hK hC h0
            go_simp
            exact hK2.out _ _ ⟨updV xs 24 (undef), by simp [updV, e11, e23], cond_set hC2.out (fun j v h => Sat.set fxK hcs9 (by decide) (by decide) (okAt (q := q) (s := 7) (c := 2) rfl rfl ⟨_, rfl⟩) _ _ h) trivial, hS9.out.keep (by decide)⟩
          · intro listed a w' hs hI h0 hd K' hK
            obtain ⟨xs, rfl, hC, hW⟩ := hI
            have e2 : xs 2 = (.pointer (some ⟨b, q * 7, none⟩)) := hC 2 (hd ⟨2, .data⟩ (by simp) rfl)
            have hK2 := Lib.hid hK
            have hC2 := Lib.hid hC
            clear hd hK hC h0
            go_simp
            exact hK2.out _ _ ⟨updV xs 25 (.pointer (some ⟨b, q * 7, none⟩)), by simp [updV, e2], cond_set hC2.out (fun _ _ h => h) rfl, hW.keep (by decide)⟩
          · intro listed a w' hs hI h0 hd K' hK
            obtain ⟨xs, rfl, hC, hW⟩ := hI
            have e25 : xs 25 = (.pointer (some ⟨b, q * 7, none⟩)) := hC 25 (hd ⟨25, .data⟩ (by simp) rfl)
            have hK2 := Lib.hid hK
            have hC2 := Lib.hid hC
            clear hd hK hC h0
            go_simp
            exact hK2.out _ _ ⟨updV xs 26 (.pointer (some ⟨b, q * 7 + 5, none⟩)), by simp [updV, e25], cond_set hC2.out (fun _ _ h => h) rfl, hW.keep (by decide)⟩
          · intro listed a w' hs hI h0 hd K' hK
            obtain ⟨xs, rfl, hC, hW⟩ := hI
            obtain ⟨v18, e18⟩ : ∃ v : Int, xs 18 = .int .i64 v := hC 18 (hd ⟨18, .data⟩ (by simp) rfl)
            have e26 : xs 26 = (.pointer (some ⟨b, q * 7 + 5, none⟩)) := hC 26 (hd ⟨26, .data⟩ (by simp) rfl)
            have hK2 := Lib.hid hK
            have hC2 := Lib.hid hC
            obtain ⟨u9, c9, _, f9⟩ := hW.load fxK (s := 7) rfl (q := q) (d := 5) hqn (by decide)
            obtain ⟨cs9, hcs9⟩ := hW.blk
            have hS9 := Lib.hid (MW1.store fxK (s := 7) rfl hglt hW (q := q) (d := 5) hqn (by decide) (v := .int .i64 v18) ⟨_, rfl⟩)
            clear hd hK hC h0
            go_simp
            exact hK2.out _ _ ⟨updV xs 27 (undef), by simp [updV, e18, e26], cond_set hC2.out (fun j v h => Sat.set fxK hcs9 (by decide) (by decide) (okAt (q := q) (s := 7) (c := 5) rfl rfl ⟨_, rfl⟩) _ _ h) trivial, hS9.out.keep (by decide)⟩
        case he =>
          intro listed a w' hs hI hr
          obtain ⟨xs, rfl, hC, hW⟩ := hI
          clear hC hs hr
          obtain ⟨k9, l9, s9, o9, hl9, g9, hk9⟩ := hW.out hgr8 (Nat.le_refl _)
          go_wp2
          go_ret
          exact ⟨_, n, c, l9, k9, rfl, RN.of_own fxE_len o9 hl9 (by omega), by omega, s9, by omega, g9⟩
end Go.Proofs.YtnkhdofcmanipaaGreatDoor
