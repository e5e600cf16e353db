/- The stream's seeds: Order, Seeds, RightSeeds. -/
import Derived.Test.YtdbfcneeiiialaaGreatDoorSeedC
import Derived.Test.YtdbfcneeiiialaaGreatDoorSeedF
import Derived.Test.YtdbfcneeiiialaaGreatDoorDraws
import Derived.Test.YtdbfcneeiiialaaGreatDoorRows2
import Derived.BigRegion
import Derived.BigGuardPart
import Derived.Lib.ItoaLen
namespace Go.Proofs.YtdbfcneeiiialaaGreatDoor
open Go.RowKit
set_option linter.unusedVariables false

/-- what stands in a row, all below a number -/
def AllIn (N : Nat) (l : List Int) : Prop := ∀ x ∈ l, 0 ≤ x ∧ x < N
theorem AllIn.set {N : Nat} {l : List Int} (h : AllIn N l) {i : Nat} {x : Int} (hx : 0 ≤ x ∧ x < N) : AllIn N (l.set i x) := fun y hy => by
  rcases List.mem_or_eq_of_mem_set hy with h1 | h1
  · exact h y h1
  · subst h1; exact hx
theorem own_setS {w : World} {base b n c : Nat} {L : List Int} (h : w.ownsRow base 3 1 (.slice (some ⟨b, 0, none⟩) n c) n (ints L)) (j : Nat) (x : Int) : (w.setCell ⟨b, j, none⟩ (.int .i64 x)).ownsRow base 3 1 (.slice (some ⟨b, 0, none⟩) n c) n (ints (L.set j x)) := by
  have h2 := (h.stored j (.int .i64 x)).1
  have e : (ints L).set j (.int .i64 x) = ints (L.set j x) := by unfold ints; rw [List.map_set]
  rw [e] at h2
  exact h2
/-- what Order hands back -/
def RetOrd (w : World) (g : Nat) (zs : Zs) (k N : Nat) (e : Ending) (w' : World) : Prop := ∃ A c L k', e = .returned (.slice A N c) ∧ w'.ownsRow w.heap.size 3 1 (.slice A N c) N (ints L) ∧ AllIn N L ∧ St w' g zs k' ∧ k' ≤ k + N ∧ w.grownBy w' (some g)
set_option maxHeartbeats 3200000 in
set_option maxRecDepth 100000 in
theorem order_c (g : Nat) (zs : Zs) (k N : Nat) (w : World) (h : St w g zs k) (hk : k + 1000 ≤ 1099511627776) (hN : N ≤ 300) :
    Calls Tryz.prog 73 #[.pointer (some ⟨g, 0, none⟩), .int .i64 N] w (RetOrd w g zs k N) := by
  have hglt := h.lt
  go_enter Tryz.func73, Tryz.ntmps73
  go_wp2_with fail
  go_loopw [5, 10] (fun out i wr => ∃ (j : Nat) (acc : List Int), j ≤ N ∧ i = .int .i64 j ∧ wr.ownsRow w.heap.size 3 1 out j (ints acc) ∧ Hid (AllIn N acc) ∧ St wr g zs k ∧ w.grownBy wr (some g)) (fun _ i _ => N - (intOf i).toNat)
  case atStart => exact ⟨0, [], Nat.zero_le _, rfl, World.ownsRow_nil _ _ _ _, Lib.hid (fun x hx => by cases hx), h, grown_refl _ _⟩
  case round =>
    obtain ⟨j, acc, hj, rfl, hown, hal, hst, hgr⟩ := hrel
    by_cases hlt : j < N
    · have hz := hgr.size
      have hal2 := Lib.hid (show AllIn N (acc ++ [(j : Int)]) from fun x hx => by
        rcases List.mem_append.1 hx with h1 | h1
        · exact hal.out x h1
        · rw [List.mem_singleton] at h1; subst h1; omega)
      go_wp2_with (at_builtin; refine wpList_app rfl (.tmp 13) (.tmp 15) 22 rfl Tryz.underlying22 info_int rfl (by omega) (by omega) hown rfl rfl (by first | rfl | (simp; done)) (by rfl) (by simp [Value.oneCell']) (by omega) hz ?_; intro v4 w4 hown4 hg4)
      have hgr4 := grown_own hgr hg4 (own_row_lt hown)
      have hst4 := hst.grown hg4 (fun i hi => by have := own_row_lt hown i hi; omega)
      have H := Lib.hid (And.intro (show w4.ownsRow w.heap.size 3 1 v4 (j + 1) (ints (acc ++ [(j : Int)])) by rw [ints_app]; exact hown4) (And.intro hst4 hgr4))
      clear hown4 hown hgr hst hst4 hgr4 hg4
      go_roundw
      case rel => exact ⟨j + 1, _, by omega, by go_num, H.out.1, hal2, H.out.2.1, H.out.2.2⟩
      case measure => simp [intOf]; omega
    · obtain rfl : j = N := by omega
      obtain ⟨A, c, rfl⟩ := own_shape hown
      clear h
      go_wp2_with fail
      go_loopw [7] (fun i wr => ∃ (p kk : Nat) (acc : List Int), i = .int .i64 ((p : Int) - 1) ∧ p ≤ j ∧ kk + p ≤ k + j ∧ wr.ownsRow w.heap.size 3 1 (.slice A j c) j (ints acc) ∧ Hid (AllIn j acc) ∧ St wr g zs kk ∧ w.grownBy wr (some g)) (fun i _ => (intOf i).toNat)
      case atStart => exact ⟨j, k, acc, rfl, Nat.le_refl _, by omega, hown, hal, hst, hgr⟩
      case round =>
        clear hown hal hst hgr
        rename World => wr
        obtain ⟨p, kk, acc, rfl, hp, hkk, hown, hal, hst, hgr⟩ := hrel
        by_cases hp2 : 2 ≤ p
        · have e1 : (0 : Int) < (p : Int) - 1 := by omega
          have e2 : IntKind.i64.wrap ((p : Int) - 1 + 1) = (p : Int) := by rw [IntWalk.i64_in _ (by omega)]; omega
          have e3 : IntKind.i64.wrap ((p : Int) - 1 - 1) = ((p - 1 : Nat) : Int) - 1 := by rw [IntWalk.i64_in _ (by omega)]; omega
          go_wp2_with fail
          refine (nextE_c g zs kk _ _ hst (by omega) (by omega) (by omega)).mono ?_; rintro e w5 ⟨v, rfl, hv0, hv1, s5, g5⟩
          obtain ⟨q, rfl⟩ : ∃ q : Nat, v = q := ⟨v.toNat, by omega⟩
          have hown5 := own_keep hown hglt g5
          have hgr5 := grown_trans hgr g5
          obtain ⟨b, rfl, hbb⟩ := own_someN hown5 (by omega)
          have hl5 : acc.length = j := by have := hown5.1; rw [ints_len] at this; omega
          obtain ⟨x, hx⟩ := at_of_lt (l := acc) (k := p - 1) (by omega)
          obtain ⟨y, hy⟩ := at_of_lt (l := acc) (k := q) (by omega)
          have hxb := hal.out x (List.mem_of_getElem? hx)
          have hyb := hal.out y (List.mem_of_getElem? hy)
          have cx : w5.cell? ⟨b, p - 1, none⟩ = some (.int .i64 x) := by rw [hown5.cellAt (p - 1) (by omega), ints_at, hx]; rfl
          have cy : w5.cell? ⟨b, q, none⟩ = some (.int .i64 y) := by rw [hown5.cellAt q (by omega), ints_at, hy]; rfl
          have fx := hown5.frozenAt (p - 1)
          have fy := hown5.frozenAt q
          have e4 : (0 : Int) ≤ (p : Int) - 1 := by omega
          have e5 : ((p : Int) - 1).toNat = p - 1 := by omega
          have e6 : (p : Int) - 1 < j := by omega
          have e7 : (1 : Int) ≤ (p : Int) := by omega
          have e8 : (q : Int) < j := by omega
          have hx' := Lib.hid hx
          have hy' := Lib.hid hy
          have hl5' := Lib.hid hl5
          clear hx hy hl5 hown hst hgr g5
          by_cases hq : q = p - 1
          · subst hq
            obtain rfl : x = y := by have h1 := hx'.out; rw [hy'.out] at h1; injection h1 with h1; exact h1.symm
            go_wp2
            go_region
            have H := Lib.hid (And.intro (own_below (own_setS (own_setS hown5 (p - 1) x) (p - 1) x) (below_drewN (Below.refl _ _) 1)) (And.intro ((s5.setAt (b := b) (o := p - 1) (by omega) (.int .i64 x)).setAt (b := b) (o := p - 1) (by omega) (.int .i64 x)).drew (And.intro (grown_drew (grown_setAt (grown_setAt hgr5 hbb (o := p - 1) (.int .i64 x)) hbb (o := p - 1) (.int .i64 x))) (show AllIn j ((acc.set (p - 1) x).set (p - 1) x) from (hal.out.set (by omega)).set (by omega)))))
            clear hown5 s5 hgr5 fx fy cx cy
            go_wp2
            go_roundw
            case rel => exact ⟨p - 1, kk + 1, _, by first | rfl | go_num, by omega, by omega, H.out.1, Lib.hid H.out.2.2.2, H.out.2.1, H.out.2.2.1⟩
            case measure => simp [intOf]; omega
          · go_wp2
            go_region
            have H := Lib.hid (And.intro (own_below (own_setS (own_setS hown5 (p - 1) y) (q) x) (below_drewN (Below.refl _ _) 1)) (And.intro ((s5.setAt (b := b) (o := p - 1) (by omega) (.int .i64 y)).setAt (b := b) (o := q) (by omega) (.int .i64 x)).drew (And.intro (grown_drew (grown_setAt (grown_setAt hgr5 hbb (o := p - 1) (.int .i64 y)) hbb (o := q) (.int .i64 x))) (show AllIn j ((acc.set (p - 1) y).set (q) x) from (hal.out.set (by omega)).set (by omega)))))
            clear hown5 s5 hgr5 fx fy cx cy
            go_wp2
            go_roundw
            case rel => exact ⟨p - 1, kk + 1, _, by first | rfl | go_num, by omega, by omega, H.out.1, Lib.hid H.out.2.2.2, H.out.2.1, H.out.2.2.1⟩
            case measure => simp [intOf]; omega
        · have e1 : ¬ (0 : Int) < (p : Int) - 1 := by omega
          go_wp2
          go_ret
          exact ⟨A, c, acc, kk, rfl, hown, hal.out, hst, by omega, hgr⟩
theorem sdr_set : ∀ (l : List Sd) (k : Nat) (who : ByteArray) (x : Sd), l[k]? = some x →
    (l.flatMap sdE).set (k * 2) (.string who) = (l.set k ⟨who, x.time⟩).flatMap sdE
  | [], _, _, _, h => by simp at h
  | x :: l, 0, who, t, h => by
    obtain rfl : x = t := by simpa using h
    simp [sdE]
  | x :: l, k + 1, who, t, h => by
    rw [List.set_cons_succ, List.flatMap_cons, List.flatMap_cons, ← sdr_set l k who t (by simpa using h), List.set_append_right _ _ (by show 2 ≤ _; omega)]
    congr 2
    show (k + 1) * 2 - 2 = _; omega
theorem sdr_set1 : ∀ (l : List Sd) (k : Nat) (v : Int) (x : Sd), l[k]? = some x →
    (l.flatMap sdE).set (k * 2 + 1) (.int .i64 v) = (l.set k ⟨x.who, v⟩).flatMap sdE
  | [], _, _, _, h => by simp at h
  | x :: l, 0, v, t, h => by
    obtain rfl : x = t := by simpa using h
    simp [sdE]
  | x :: l, k + 1, v, t, h => by
    rw [List.set_cons_succ, List.flatMap_cons, List.flatMap_cons, ← sdr_set1 l k v t (by simpa using h), List.set_append_right _ _ (by show 2 ≤ _; omega)]
    congr 2
    show (k + 1) * 2 + 1 - 2 = _; omega
def RetSd (w : World) (g : Nat) (zs : Zs) (k M : Nat) (e : Ending) (w' : World) : Prop := ∃ (A : Option Addr) (n c : Nat) (l : List Sd) (k' : Nat), e = .returned (.slice A n c) ∧ w'.ownsRow w.heap.size 40 2 (.slice A n c) n (l.flatMap sdE) ∧ l.length = n ∧ n ≤ M ∧ St w' g zs k' ∧ k' ≤ k + 3 * M + 10 ∧ w.grownBy w' (some g)
set_option maxHeartbeats 3200000 in
set_option maxRecDepth 100000 in
theorem seeds_c (g : Nat) (zs : Zs) (k M : Nat) (w w0 : World) (h : St w g zs k) (hk : k + 2000 ≤ 1099511627776) (hM : M ≤ 100) (hT : Tb w0) (hb0 : Below w0.heap.size w0 w) (hg0 : w0.heap.size ≤ g) :
    Calls Tryz.prog 10 #[.pointer (some ⟨g, 0, none⟩), .int .i64 M] w (RetSd w g zs k M) := by
  have hglt := h.lt
  have hTb := Lib.hid (fun wx (hg : w.grownBy wx (some g)) => hT.below (hb0.trans (grown_below hg hg0 hb0.size)))
  clear hT hb0 hg0
  go_enter Tryz.func10, Tryz.ntmps10
  go_wp2_with fail
  refine (rangeE_c g zs k 0 M _ h (by omega) (by omega) (by omega) (by omega)).mono ?_; rintro e w1 ⟨v, rfl, hv0, hv1, s1, g1⟩
  obtain ⟨N, rfl⟩ : ∃ N : Nat, v = N := ⟨v.toNat, by omega⟩
  have hNM : N ≤ M := by omega
  have hN1 : N ≤ 100 := by omega
  have hgl1 := s1.lt
  go_wp2_with fail
  refine (order_c g zs (k + 1) N _ s1 (by omega) (by omega)).mono ?_; rintro e w2 ⟨AO, cO, L, k2, rfl, hO, hal, s2, hk2, g2⟩
  have hgr2 := grown_trans g1 g2
  have hRL : RI 3 w2 AO N L := R1.of_own hO (by omega)
  have hal' := Lib.hid hal
  clear hO s1 g1 g2 h hal
  go_wp2_with fail
  go_loopw [5, 15] (fun out i wr => ∃ (j kk : Nat) (acc : List Sd), j ≤ N ∧ i = .int .i64 j ∧ Hid (acc.length = j) ∧ wr.ownsRow w.heap.size 40 2 out j (acc.flatMap sdE) ∧ RI 3 wr AO N L ∧ St wr g zs kk ∧ kk ≤ k2 + 2 * j ∧ w.grownBy wr (some g)) (fun _ i _ => N - (intOf i).toNat)
  case atStart => exact ⟨0, k2, [], Nat.zero_le _, rfl, Lib.hid rfl, World.ownsRow_nil _ _ _ _, hRL, s2, by omega, hgr2⟩
  case round =>
    clear hRL s2 hgr2
    obtain ⟨j, kk, acc, hj, rfl, hla, hown, hRL, hst, hkk, hgr⟩ := hrel
    by_cases hlt : j < N
    · obtain ⟨bO, oO, x, rfl, lO, hx, cx⟩ := hRL.at_ hlt
      have hxb := hal'.out x (List.mem_of_getElem? hx)
      clear hx
      have hx1 : 0 ≤ x := hxb.1
      have hx2 : x ≤ 100 := by have := hxb.2; omega
      have hsI := Lib.hid (itoa_c x wr (hTb.out _ hgr) (by omega) (by omega))
      have hsz : 1 + (itoaS x).size ≤ 9223372036854775807 := by
        have := Lib.itoa_length_le x (by omega) (by omega)
        show 1 + (Lib.itoa x).toArray.size ≤ _
        rw [List.size_toArray]; omega
      have hsz2 : ¬ (1 + (itoaS x).size > 9223372036854775807) := by omega
      generalize itoaS x = tx at *
      go_wp2_with fail
      refine hsI.out.mono ?_; rintro e w3 ⟨rfl, B3⟩
      have hown3 := own_below hown B3
      have hRL3 := hRL.below B3
      have s3 := hst.below B3
      have hgr3 := grown_trans hgr (grown_of_below B3)
      clear hown hRL hst hgr B3 hsI cx lO
      go_wp2_with fail
      refine (nextE_c g zs kk 300 _ s3 (by omega) (by decide) (by decide)).mono ?_; rintro e w4 ⟨v, rfl, hv0, hv1, s4, g4⟩
      have hown4 := own_keep hown3 hglt g4
      have hRL4 := hRL3.keep (T := 25) (by decide) (s3.keep g4)
      have hgr4 := grown_trans hgr3 g4
      clear hown3 hRL3 s3 hgr3 g4
      go_wp2_with fail
      refine (pickE_c g zs _ _ _ _ [0, 6000, 6000, 6010, 6018, 6100, 6000 + v] _ (s4.alloc _) (by omega) (R1.litAt _ _ _ _ (by first | rfl | (simp; done)) (by simp) (by simp)) (by simp)).mono ?_; rintro e w5 ⟨pv, rfl, hpv, s5, g5⟩
      have hown5 := own_keep (hown4.alloc (.cells #[.int .i64 0, .int .i64 6000, .int .i64 6000, .int .i64 6010, .int .i64 6018, .int .i64 6100, .int .i64 (6000 + v)] 3)) hglt g5
      have hRL5 := (hRL4.alloc (.cells #[.int .i64 0, .int .i64 6000, .int .i64 6000, .int .i64 6010, .int .i64 6018, .int .i64 6100, .int .i64 (6000 + v)] 3)).keep (T := 25) (by decide) ((s4.alloc _).keep g5)
      have hgr5 := grown_trans (grown_alloc hgr4 (.cells #[.int .i64 0, .int .i64 6000, .int .i64 6000, .int .i64 6010, .int .i64 6018, .int .i64 6100, .int .i64 (6000 + v)] 3)) g5
      have hz5 := hgr5.size
      clear hown4 hRL4 s4 hgr4 g5 hpv
      go_wp2_with (at_builtin; refine wpList_app rfl (.tmp 19) (.tmp 30) 26 rfl Tryz.underlying26 info_seed rfl (by omega) (by omega) hown5 rfl rfl (by first | rfl | (simp; done)) (by rfl) (by simp [Value.oneCell']) (by omega) hz5 ?_; intro v6 w6 hown6 hg6)
      have H := Lib.hid (And.intro (show w6.ownsRow w.heap.size 40 2 v6 (j + 1) ((acc ++ [(⟨⟨#[115]⟩ ++ tx, pv⟩ : Sd)]).flatMap sdE) by rw [← flat_snoc]; exact hown6) (And.intro (hRL5.keep (T := 40) (by decide) (keep_row hown5 hg6)) (And.intro (s5.grown hg6 (fun i hi => by have := own_row_lt hown5 i hi; omega)) (grown_own hgr5 hg6 (own_row_lt hown5)))))
      clear hown6 hg6 hown5 hRL5 s5 hgr5
      go_roundw
      case rel => exact ⟨j + 1, _, _, by omega, by go_num, Lib.hid (by rw [List.length_append, hla.out]; rfl), H.out.1, H.out.2.1, H.out.2.2.1, by omega, H.out.2.2.2⟩
      case measure => simp [intOf]; omega
    · obtain rfl : j = N := by omega
      obtain ⟨A, c, rfl⟩ := own_shape hown
      have hla' := hla.out
      clear hRL hTb hal' hla
      by_cases hj0 : j = 0
      · subst hj0
        go_wp2
        go_ret
        exact ⟨A, 0, c, acc, kk, rfl, hown, hla', by omega, hst, by omega, hgr⟩
      · have hj1 : (0 : Int) < (j : Int) := by omega
        have hj2 : 0 < j := by omega
        go_wp2_with fail
        refine (flipE_c g zs kk _ _ hst (by omega) (by omega) (by omega)).mono ?_; rintro e w7 ⟨fl, rfl, s7, g7⟩
        have hown7 := own_keep hown hglt g7
        have hgr7 := grown_trans hgr g7
        clear hown hst hgr g7
        cases fl
        · go_wp2
          go_ret
          exact ⟨A, j, c, acc, _, rfl, hown7, hla', hNM, s7, by omega, hgr7⟩
        · go_wp2_with fail
          refine (nextE_c g zs _ (j : Int) _ s7 (by omega) (by omega) (by omega)).mono ?_; rintro e w8 ⟨v, rfl, v0, v1, s8, g8⟩
          obtain ⟨q, rfl⟩ : ∃ q : Nat, v = q := ⟨v.toNat, by omega⟩
          have hown8 := own_keep hown7 hglt g8
          have hgr8 := grown_trans hgr7 g8
          obtain ⟨b, rfl, hbb⟩ := own_someN hown8 (by omega)
          obtain ⟨b', off', x, hA, hbl, hx, c0, c1⟩ := RSd_at2 (RN.of_own sdE_len hown8 hla' (by omega)) (k := q) (by omega)
          injection hA with hA
          injection hA with hA hAo
          subst hA
          subst hAo
          rw [Nat.zero_add] at c0 c1
          have hx' := Lib.hid hx
          have e8 : (q : Int) < j := by omega
          clear hown7 s7 hgr7 g8 hx
          obtain ⟨xw, xt⟩ := x
          dsimp only at c0 c1
          have f0 := hown8.frozenAt (q * 2)
          have f1 := hown8.frozenAt (q * 2 + 1)
          have hlz : w8.heap.size = w8.heap.size := rfl
          have hoS := Lib.hid (someE_c g zs (kk + 1 + 1) [xw, ⟨#[]⟩, ⟨#[115, 48]⟩] 3 3 w8.heap.size #[.string xw, .string ⟨#[]⟩, .string ⟨#[115, 48]⟩] w8 s8 (by omega) rfl rfl rfl (by decide) (by decide))
          go_wp2_with fail
          refine hoS.out.mono ?_; rintro e w9 ⟨v9, rfl, hv9, s9, g9⟩
          have hown9 := own_keep hown8 hglt g9
          have hgr9 := grown_trans hgr8 g9
          clear hoS hv9
          go_wp2_with fail
          refine (oddE_c g zs _ 0 360000 _ s9 (by omega) (by decide) (by decide) (by decide)).mono ?_; rintro e w10 ⟨v10, rfl, b0, b1, s10, g10⟩
          have hown10 := own_keep hown9 hglt g10
          have hgr10 := grown_trans hgr9 g10
          obtain ⟨b', off', x, hA, hbl', hx, y0, y1⟩ := RSd_at2 (RN.of_own sdE_len hown10 hla' (by omega)) (k := q) (by omega)
          injection hA with hA
          injection hA with hA hAo
          subst hA
          subst hAo
          rw [Nat.zero_add] at y0 y1
          clear hx
          have fx := hown10.frozenAt (q * 2)
          have fy := hown10.frozenAt (q * 2 + 1)
          clear c0 c1 f0 f1
          go_wp2
          go_ret
          have t1 := (hown10.stored (q * 2) (.string v9)).1
          rw [sdr_set _ _ _ _ hx'.out] at t1
          have t2 := (t1.stored (q * 2 + 1) (.int .i64 v10)).1
          rw [sdr_set1 _ _ _ ⟨v9, xt⟩ (by rw [List.getElem?_set_self (by omega)])] at t2
          exact ⟨_, j, c, _, _, rfl, t2, by rw [List.length_set, List.length_set]; exact hla', hNM, ((s10.setAt (b := b) (o := q * 2) (by omega) (.string v9)).setAt (b := b) (o := q * 2 + 1) (by omega) (.int .i64 v10)), by omega, grown_setAt (grown_setAt hgr10 hbb (o := q * 2) (.string v9)) hbb (o := q * 2 + 1) (.int .i64 v10)⟩
theorem own_cap {w : World} {base : Nat} {e : TypeId} {size n m c : Nat} {A : Option Addr} {xs : List Value} (h : w.ownsRow base e size (.slice A m c) n xs) (hm : m = n) : (A = none ∧ n = 0 ∧ c = 0) ∨ ∃ b, A = some ⟨b, 0, none⟩ ∧ n ≤ c := by
  subst hm
  rcases h.2 with ⟨h9, h0⟩ | ⟨g9, cap, cur, hv9, h1, h2, h3, h4⟩
  · injection h9 with e1 e2 e3
    exact .inl ⟨e1, h0, e3⟩
  · injection hv9 with e1 e2 e3
    exact .inr ⟨g9, e1, by omega⟩
/-- what RightSeeds hands back: seeds that are right -/
def RetRS (w : World) (g : Nat) (zs : Zs) (k M : Nat) (e : Ending) (w' : World) : Prop := ∃ (A : Option Addr) (n c : Nat) (l : List Sd) (k' : Nat), e = .returned (.slice A n c) ∧ RSd w' A n l ∧ seedErr l = 0 ∧ n ≤ M ∧ St w' g zs k' ∧ k' ≤ k + 6 * (3 * M + 10) ∧ w.grownBy w' (some g) ∧ ((A = none ∧ n = 0 ∧ c = 0) ∨ ∃ b, A = some ⟨b, 0, none⟩ ∧ n ≤ c)
set_option maxHeartbeats 1600000 in
set_option maxRecDepth 100000 in
theorem rightSeeds_c (g : Nat) (zs : Zs) (k M : Nat) (w w0 : World) (h : St w g zs k) (hk : k + 10000 ≤ 1099511627776) (hM : M ≤ 100) (hT : Tb w0) (hb0 : Below w0.heap.size w0 w) (hg0 : w0.heap.size ≤ g) :
    Calls Tryz.prog 57 #[.pointer (some ⟨g, 0, none⟩), .int .i64 M] w (RetRS w g zs k M) := by
  have hglt := h.lt
  have hSd := Lib.hid (fun kk wx (hs : St wx g zs kk) (hk : kk + 2000 ≤ 1099511627776) (hg : w.grownBy wx (some g)) => seeds_c g zs kk M wx w0 hs hk hM hT (hb0.trans (grown_below hg hg0 hb0.size)) hg0)
  clear hT hb0 hg0
  go_enter Tryz.func57, Tryz.ntmps57
  go_wp2_with fail
  go_loopw [6] (fun i wr => ∃ j kk : Nat, j ≤ 6 ∧ i = .int .i64 j ∧ St wr g zs kk ∧ kk ≤ k + j * (3 * M + 10) ∧ w.grownBy wr (some g)) (fun i _ => 6 - (intOf i).toNat)
  case atStart => exact ⟨0, k, by omega, rfl, h, by omega, grown_refl _ _⟩
  case round =>
    clear h
    obtain ⟨j, kk, hj, rfl, hst, hkk, hgr⟩ := hrel
    have hb1 : j * (3 * M + 10) ≤ 6 * (3 * M + 10) := Nat.mul_le_mul_right _ hj
    by_cases hlt : j < 6
    · have hji : (j : Int) < 6 := by omega
      have hb2 : (j + 1) * (3 * M + 10) = j * (3 * M + 10) + (3 * M + 10) := by rw [Nat.succ_mul]
      have hb3 : (j + 1) * (3 * M + 10) ≤ 6 * (3 * M + 10) := Nat.mul_le_mul_right _ (by omega)
      go_wp2_with fail
      refine (hSd.out kk _ hst (by omega) hgr).mono ?_; rintro e w1 ⟨A, n, c, l, k2, rfl, ho, hl, hn, s1, hk2, g1⟩
      have hgr1 := grown_trans hgr g1
      have hR := RN.of_own sdE_len ho hl (by omega)
      have hcp := Lib.hid (own_cap ho rfl)
      have hF := Lib.hid (seedsFault_c A n c l w1 hR)
      clear hst hgr g1 ho
      go_wp2_with fail
      refine hF.out.mono ?_; rintro e w2 ⟨rfl, B2⟩
      have s2 := s1.below B2
      have hR2 := hR.below B2
      have hgr2 := grown_trans hgr1 (grown_of_below B2)
      clear s1 hR hgr1 hF B2
      by_cases h0 : seedErr l = 0
      · have h0' := Lib.hid h0
        have hd : (seedErr l == 0) = true := by simpa using h0
        clear h0
        generalize seedErr l = E at hd ⊢
        go_wp2
        go_ret
        exact ⟨A, n, c, l, k2, rfl, hR2, h0'.out, hn, s2, by omega, hgr2, hcp.out⟩
      · have hd : (seedErr l == 0) = false := beq_eq_false_iff_ne.2 h0
        clear h0
        generalize seedErr l = E at hd ⊢
        go_wp2
        go_roundw
        case rel => exact ⟨j + 1, k2, by omega, by go_num, s2, by omega, hgr2⟩
        case measure => simp [intOf]; omega
    · obtain rfl : j = 6 := by omega
      go_wp2
      go_ret
      exact ⟨none, 0, 0, [], kk, rfl, RN.nil_ _ _ _ _ _, rfl, by omega, hst, by omega, hgr, .inl ⟨rfl, rfl, rfl⟩⟩
end Go.Proofs.YtdbfcneeiiialaaGreatDoor
