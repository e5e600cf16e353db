import Derived.Test.YtklggnglaeagpaaGreatDoorSplits
import Derived.Test.YtklggnglaeagpaaGreatDoorDraws
import Derived.IntWalk
import Derived.Test.YtklggnglaeagpaaGreatDoorSeedM
/- The stream's PoolOf with the place behind it as a function. Printed by wip/mkpoolk.py. -/
namespace Go.Proofs.YtklggnglaeagpaaGreatDoor
open Go.RowKit
set_option linter.unusedVariables false

end Go.Proofs.YtklggnglaeagpaaGreatDoor

/- The stream's seeds as functions of the list and the place: Order, Seeds, RightSeeds. Made of SeedM by wip/mkseedv.py. -/
namespace Go.Proofs.YtklggnglaeagpaaGreatDoor
open Go.RowKit
set_option linter.unusedVariables false

def ordG (zs : Zs) : Nat → Nat → List Int → List Int
  | 0, _, l => l
  | 1, _, l => l
  | p + 2, kk, l => ordG zs (p + 1) (kk + 1) ((l.set (p + 1) (l.getD (nextV zs kk ((p + 2 : Nat) : Int)).toNat 0)).set (nextV zs kk ((p + 2 : Nat) : Int)).toNat (l.getD (p + 1) 0))
theorem ordG_step (zs : Zs) {p : Nat} (hp : 2 ≤ p) (kk : Nat) (l : List Int) : ordG zs p kk l = ordG zs (p - 1) (kk + 1) ((l.set (p - 1) (l.getD (nextV zs kk (p : Int)).toNat 0)).set (nextV zs kk (p : Int)).toNat (l.getD (p - 1) 0)) := by
  obtain ⟨q, rfl⟩ : ∃ q, p = q + 2 := ⟨p - 2, by omega⟩
  rfl
theorem ordG_end (zs : Zs) {p : Nat} (hp : p ≤ 1) (kk : Nat) (l : List Int) : ordG zs p kk l = l := by
  match p, hp with
  | 0, _ => rfl
  | 1, _ => rfl
def natsR (n : Nat) : List Int := (List.range n).map fun i : Nat => (i : Int)
theorem natsR_succ (n : Nat) : natsR (n + 1) = natsR n ++ [(n : Int)] := by unfold natsR; rw [List.range_succ, List.map_append]; rfl
/-- Order's numbers -/
def ordF (zs : Zs) (k N : Nat) : List Int := ordG zs N k (natsR N)
def sdAcc (zs : Zs) : Nat → List Int → List Sd
  | _, [] => []
  | kk, x :: r => ⟨⟨#[115]⟩ ++ itoaS x, pickV zs (kk + 1) [0, 6000, 6000, 6010, 6018, 6100, 6000 + nextV zs kk 300]⟩ :: sdAcc zs (kk + 2) r
theorem sdAcc_at (zs : Zs) (kk : Nat) {L : List Int} {j : Nat} {x : Int} (h : L[j]? = some x) : sdAcc zs kk (L.drop j) = ⟨⟨#[115]⟩ ++ itoaS x, pickV zs (kk + 1) [0, 6000, 6000, 6010, 6018, 6100, 6000 + nextV zs kk 300]⟩ :: sdAcc zs (kk + 2) (L.drop (j + 1)) := by rw [drop_at h]; rfl
def sdFin (zs : Zs) (kk N : Nat) (l : List Sd) : List Sd × Nat :=
  if N = 0 then (l, kk) else if (nextV zs kk 15 == 0) = true then
    (l.set (nextV zs (kk + 1) (N : Int)).toNat ⟨pickV zs (kk + 2) [(l.getD (nextV zs (kk + 1) (N : Int)).toNat ⟨⟨#[]⟩, 0⟩).who, ⟨#[]⟩, ⟨#[115, 48]⟩], oddV zs (kk + 3) 0 360000⟩, kk + 5)
  else (l, kk + 1)
/-- Seeds: what comes, and where the stream stands behind it -/
def seedsV (zs : Zs) (k M : Nat) : List Sd × Nat :=
  sdFin zs (k + 1 + ((nextV zs k ((M : Int) + 1)).toNat - 1) + 2 * (nextV zs k ((M : Int) + 1)).toNat) (nextV zs k ((M : Int) + 1)).toNat (sdAcc zs (k + 1 + ((nextV zs k ((M : Int) + 1)).toNat - 1)) (ordF zs (k + 1) (nextV zs k ((M : Int) + 1)).toNat))
def rightSeedsV (zs : Zs) (M : Nat) : Nat → Nat → List Sd × Nat
  | 0, k => ([], k)
  | t + 1, k => if seedErr (seedsV zs k M).1 = 0 then seedsV zs k M else rightSeedsV zs M t (seedsV zs k M).2
/-- what Order hands back -/
def RetOrdF (w : World) (g : Nat) (zs : Zs) (k N : Nat) (e : Ending) (w' : World) : Prop := ∃ A c, e = .returned (.slice A N c) ∧ w'.ownsRow w.heap.size 3 1 (.slice A N c) N (ints (ordF zs k N)) ∧ AllIn N (ordF zs k N) ∧ St w' g zs (k + (N - 1)) ∧ w.grownBy w' (some g)
set_option maxHeartbeats 3200000 in
set_option maxRecDepth 100000 in
theorem orderF_c (g : Nat) (zs : Zs) (k N : Nat) (w : World) (h : St w g zs k) (hk : k + 1000 ≤ 1099511627776) (hN : N ≤ 300) :
    Calls Tryz.prog 108 #[.pointer (some ⟨g, 0, none⟩), .int .i64 N] w (RetOrdF w g zs k N) := by
  have hglt := h.lt
  go_enter Tryz.func108, Tryz.ntmps108
  go_wp2_with fail
  go_loopw [5, 10] (fun out i wr => ∃ (j : Nat) (acc : List Int), j ≤ N ∧ i = .int .i64 j ∧ wr.ownsRow w.heap.size 3 1 out j (ints acc) ∧ Hid (AllIn N acc ∧ acc = natsR j) ∧ St wr g zs k ∧ w.grownBy wr (some g)) (fun _ i _ => N - (intOf i).toNat)
  case atStart => exact ⟨0, [], Nat.zero_le _, rfl, World.ownsRow_nil _ _ _ _, Lib.hid ⟨fun x hx => (by cases hx), rfl⟩, h, grown_refl _ _⟩
  case round =>
    obtain ⟨j, acc, hj, rfl, hown, hal, hst, hgr⟩ := hrel
    by_cases hlt : j < N
    · have hz := hgr.size
      have hal2 := Lib.hid (show AllIn N (acc ++ [(j : Int)]) ∧ acc ++ [(j : Int)] = natsR (j + 1) from ⟨fun x hx => by
        rcases List.mem_append.1 hx with h1 | h1
        · exact hal.out.1 x h1
        · rw [List.mem_singleton] at h1; subst h1; omega, by rw [natsR_succ, ← hal.out.2]⟩)
      go_wp2_with (at_builtin; refine wpList_app rfl (.tmp 13) (.tmp 15) 22 rfl Tryz.underlying22 info_int rfl (by omega) (by omega) hown rfl rfl (by first | rfl | (simp; done)) (by rfl) (by simp [Value.oneCell']) (by omega) hz ?_; intro v4 w4 hown4 hg4)
      have hgr4 := grown_own hgr hg4 (own_row_lt hown)
      have hst4 := hst.grown hg4 (fun i hi => by have := own_row_lt hown i hi; omega)
      have H := Lib.hid (And.intro (show w4.ownsRow w.heap.size 3 1 v4 (j + 1) (ints (acc ++ [(j : Int)])) by rw [ints_app]; exact hown4) (And.intro hst4 hgr4))
      clear hown4 hown hgr hst hst4 hgr4 hg4
      go_roundw
      case rel => exact ⟨j + 1, _, by omega, by go_num, H.out.1, hal2, H.out.2.1, H.out.2.2⟩
      case measure => simp [intOf]; omega
    · obtain rfl : j = N := by omega
      obtain ⟨A, c, rfl⟩ := own_shape hown
      clear h
      go_wp2_with fail
      go_loopw [7] (fun i wr => ∃ (p kk : Nat) (acc : List Int), i = .int .i64 ((p : Int) - 1) ∧ p ≤ j ∧ (p ≤ 1 → kk = k + (j - 1)) ∧ (2 ≤ p → kk + p = k + j) ∧ wr.ownsRow w.heap.size 3 1 (.slice A j c) j (ints acc) ∧ Hid (AllIn j acc) ∧ Hid (ordG zs p kk acc = ordF zs k j) ∧ St wr g zs kk ∧ w.grownBy wr (some g)) (fun i _ => (intOf i).toNat)
      case atStart => exact ⟨j, k, acc, rfl, Nat.le_refl _, by omega, by omega, hown, Lib.hid hal.out.1, Lib.hid (by unfold ordF; rw [hal.out.2]), hst, hgr⟩
      case round =>
        clear hown hal hst hgr
        rename World => wr
        obtain ⟨p, kk, acc, rfl, hp, hkk1, hkk2, hown, hal, hord, hst, hgr⟩ := hrel
        by_cases hp2 : 2 ≤ p
        · have e1 : (0 : Int) < (p : Int) - 1 := by omega
          have e2 : IntKind.i64.wrap ((p : Int) - 1 + 1) = (p : Int) := by rw [IntWalk.i64_in _ (by omega)]; omega
          have e3 : IntKind.i64.wrap ((p : Int) - 1 - 1) = ((p - 1 : Nat) : Int) - 1 := by rw [IntWalk.i64_in _ (by omega)]; omega
          go_wp2_with fail
          have hkk := hkk2 hp2
          refine (next_c g zs kk _ _ hst (by omega) (by omega) (by omega)).mono ?_; rintro e w5 ⟨rfl, s5, g5⟩
          have hvb := @nextV_bd zs kk (p : Int) (by omega)
          have hstp := Lib.hid (ordG_step zs hp2 kk acc)
          obtain ⟨v, hv⟩ : ∃ v, nextV zs kk (p : Int) = v := ⟨_, rfl⟩
          rw [hv] at hvb hstp ⊢
          obtain ⟨hv0, hv1⟩ := hvb
          clear hv hkk1 hkk2
          obtain ⟨q, rfl⟩ : ∃ q : Nat, v = q := ⟨v.toNat, by omega⟩
          have hown5 := own_keep hown hglt g5
          have hgr5 := grown_trans hgr g5
          obtain ⟨b, rfl, hbb⟩ := own_someN hown5 (by omega)
          have hl5 : acc.length = j := by have := hown5.1; rw [ints_len] at this; omega
          obtain ⟨x, hx⟩ := at_of_lt (l := acc) (k := p - 1) (by omega)
          obtain ⟨y, hy⟩ := at_of_lt (l := acc) (k := q) (by omega)
          have hxb := hal.out x (List.mem_of_getElem? hx)
          have hyb := hal.out y (List.mem_of_getElem? hy)
          have cx : w5.cell? ⟨b, p - 1, none⟩ = some (.int .i64 x) := by rw [hown5.cellAt (p - 1) (by omega), ints_at, hx]; rfl
          have cy : w5.cell? ⟨b, q, none⟩ = some (.int .i64 y) := by rw [hown5.cellAt q (by omega), ints_at, hy]; rfl
          have fx := hown5.frozenAt (p - 1)
          have fy := hown5.frozenAt q
          have e4 : (0 : Int) ≤ (p : Int) - 1 := by omega
          have e5 : ((p : Int) - 1).toNat = p - 1 := by omega
          have e6 : (p : Int) - 1 < j := by omega
          have e7 : (1 : Int) ≤ (p : Int) := by omega
          have e8 : (q : Int) < j := by omega
          have hord2 := Lib.hid (show ordG zs (p - 1) (kk + 1) ((acc.set (p - 1) y).set q x) = ordF zs k j by
            rw [← hord.out, hstp.out, show ((q : Int)).toNat = q by omega, List.getD_eq_getElem?_getD, List.getD_eq_getElem?_getD, hx, hy]; rfl)
          have hx' := Lib.hid hx
          have hy' := Lib.hid hy
          have hl5' := Lib.hid hl5
          clear hx hy hl5 hown hst hgr g5 hord hstp
          by_cases hq : q = p - 1
          · subst hq
            obtain rfl : x = y := by have h1 := hx'.out; rw [hy'.out] at h1; injection h1 with h1; exact h1.symm
            go_wp2
            go_region
            have H := Lib.hid (And.intro (own_below (own_setS (own_setS hown5 (p - 1) x) (p - 1) x) (below_drewN (Below.refl _ _) 1)) (And.intro ((s5.setAt (b := b) (o := p - 1) (by omega) (.int .i64 x)).setAt (b := b) (o := p - 1) (by omega) (.int .i64 x)).drew (And.intro (grown_drew (grown_setAt (grown_setAt hgr5 hbb (o := p - 1) (.int .i64 x)) hbb (o := p - 1) (.int .i64 x))) (show AllIn j ((acc.set (p - 1) x).set (p - 1) x) from (hal.out.set (by omega)).set (by omega)))))
            clear hown5 s5 hgr5 fx fy cx cy
            go_wp2
            go_roundw
            case rel => exact ⟨p - 1, kk + 1, _, by first | rfl | go_num, by omega, by omega, by omega, H.out.1, Lib.hid H.out.2.2.2, hord2, H.out.2.1, H.out.2.2.1⟩
            case measure => simp [intOf]; omega
          · go_wp2
            go_region
            have H := Lib.hid (And.intro (own_below (own_setS (own_setS hown5 (p - 1) y) (q) x) (below_drewN (Below.refl _ _) 1)) (And.intro ((s5.setAt (b := b) (o := p - 1) (by omega) (.int .i64 y)).setAt (b := b) (o := q) (by omega) (.int .i64 x)).drew (And.intro (grown_drew (grown_setAt (grown_setAt hgr5 hbb (o := p - 1) (.int .i64 y)) hbb (o := q) (.int .i64 x))) (show AllIn j ((acc.set (p - 1) y).set (q) x) from (hal.out.set (by omega)).set (by omega)))))
            clear hown5 s5 hgr5 fx fy cx cy
            go_wp2
            go_roundw
            case rel => exact ⟨p - 1, kk + 1, _, by first | rfl | go_num, by omega, by omega, by omega, H.out.1, Lib.hid H.out.2.2.2, hord2, H.out.2.1, H.out.2.2.1⟩
            case measure => simp [intOf]; omega
        · have e1 : ¬ (0 : Int) < (p : Int) - 1 := by omega
          go_wp2
          go_ret
          have hfo : acc = ordF zs k j := by rw [← hord.out, ordG_end zs (by omega)]
          rw [hkk1 (by omega)] at hst
          exact ⟨A, c, rfl, hfo ▸ hown, hfo ▸ hal.out, hst, hgr⟩
/-- what Seeds hands back -/
def RetSdF (w : World) (g : Nat) (zs : Zs) (k M : Nat) (RV : List Sd × Nat) (e : Ending) (w' : World) : Prop := ∃ (A : Option Addr) (n c : Nat), e = .returned (.slice A n c) ∧ w'.ownsRow w.heap.size 40 2 (.slice A n c) n (RV.1.flatMap sdE) ∧ RV.1.length = n ∧ n ≤ M ∧ St w' g zs RV.2 ∧ RV.2 ≤ k + 3 * M + 10 ∧ w.grownBy w' (some g)
set_option maxHeartbeats 3200000 in
set_option maxRecDepth 100000 in
theorem seedsF_c (g : Nat) (zs : Zs) (k M : Nat) (w w0 : World) (h : St w g zs k) (hk : k + 2000 ≤ 1099511627776) (hM : M ≤ 100) (hT : Tb w0) (hb0 : Below w0.heap.size w0 w) (hg0 : w0.heap.size ≤ g) :
    Calls Tryz.prog 10 #[.pointer (some ⟨g, 0, none⟩), .int .i64 M] w (RetSdF w g zs k M (seedsV zs k M)) := by
  have hglt := h.lt
  have hTb := Lib.hid (fun wx (hg : w.grownBy wx (some g)) => hT.below (hb0.trans (grown_below hg hg0 hb0.size)))
  have hvb := @nextV_bd zs k ((M : Int) + 1) (by omega)
  obtain ⟨N, hN⟩ : ∃ N : Nat, nextV zs k ((M : Int) + 1) = (N : Int) := ⟨(nextV zs k ((M : Int) + 1)).toNat, by omega⟩
  rw [hN] at hvb
  obtain ⟨L, hL⟩ : ∃ L, ordF zs (k + 1) N = L := ⟨_, rfl⟩
  obtain ⟨k2, hk2⟩ : ∃ k2, k + 1 + (N - 1) = k2 := ⟨_, rfl⟩
  have hV : seedsV zs k M = sdFin zs (k2 + 2 * N) N (sdAcc zs k2 L) := by
    unfold seedsV
    rw [hN, Int.toNat_natCast, hL, hk2]
  have hV' := Lib.hid hV
  have hN' := Lib.hid hN
  have hL' := Lib.hid hL
  have hNM : N ≤ M := by omega
  have hN1 : N ≤ 100 := by omega
  have hk2b : k2 ≤ k + 1 + N := by omega
  have hk2' := Lib.hid hk2
  have hO := Lib.hid (fun W (s : St W g zs (k + 1)) => orderF_c g zs (k + 1) N W s (by omega) (by omega))
  unfold RetOrdF at hO
  rw [hL, hk2] at hO
  generalize seedsV zs k M = RV at *
  have hAt := Lib.hid (fun kk (j : Nat) (x : Int) (h : L[j]? = some x) => sdAcc_at zs kk h)
  have hS0 := Lib.hid (fun kk => show sdAcc zs kk [] = [] from rfl)
  have hR0 := Lib.hid (show sdAcc zs k2 (L.drop 0) = sdAcc zs k2 L by rw [List.drop_zero])
  obtain ⟨RL, hRL⟩ : ∃ RL, sdAcc zs k2 L = RL := ⟨_, rfl⟩
  rw [hRL] at hV' hR0
  clear hT hb0 hg0 hV hN hL hk2 hvb hRL
  go_enter Tryz.func10, Tryz.ntmps10
  go_wp2_with fail
  refine (range_c g zs k 0 M _ h (by omega) (by omega) (by omega) (by omega)).mono ?_; rintro e w1 ⟨rfl, s1, g1⟩
  rw [show (0 : Int) + nextV zs k ((M : Int) - 0 + 1) = (N : Int) by rw [Int.zero_add, Int.sub_zero]; exact hN'.out]
  have hgl1 := s1.lt
  go_wp2_with fail
  refine (hO.out _ s1).mono ?_; rintro e w2 ⟨AO, cO, rfl, hOo, hal, s2, g2⟩
  have hgr2 := grown_trans g1 g2
  have hRL : RI 3 w2 AO N L := R1.of_own hOo (by omega)
  have hal' := Lib.hid hal
  clear hOo s1 g1 g2 h hal hO
  go_wp2_with fail
  go_loopw [5, 15] (fun out i wr => ∃ (j : Nat) (acc : List Sd), j ≤ N ∧ i = .int .i64 j ∧ Hid (acc.length = j) ∧ wr.ownsRow w.heap.size 40 2 out j (acc.flatMap sdE) ∧ RI 3 wr AO N L ∧ St wr g zs (k2 + 2 * j) ∧ Hid (acc ++ sdAcc zs (k2 + 2 * j) (L.drop j) = RL) ∧ w.grownBy wr (some g)) (fun _ i _ => N - (intOf i).toNat)
  case atStart => exact ⟨0, [], Nat.zero_le _, rfl, Lib.hid rfl, World.ownsRow_nil _ _ _ _, hRL, s2, Lib.hid hR0.out, hgr2⟩
  case round =>
    clear hRL s2 hgr2
    obtain ⟨j, acc, hj, rfl, hla, hown, hRL, hst, hG, hgr⟩ := hrel
    by_cases hlt : j < N
    · obtain ⟨bO, oO, x, rfl, lO, hx, cx⟩ := hRL.at_ hlt
      have hxb := hal'.out x (List.mem_of_getElem? hx)
      have hstp := Lib.hid (hAt.out (k2 + 2 * j) j x hx)
      clear hx
      have hx1 : 0 ≤ x := hxb.1
      have hx2 : x ≤ 100 := by have := hxb.2; omega
      have hsI := Lib.hid (itoa_c x wr (hTb.out _ hgr) (by omega) (by omega))
      have hsz : 1 + (itoaS x).size ≤ 9223372036854775807 := by
        have := Lib.itoa_length_le x (by omega) (by omega)
        show 1 + (Lib.itoa x).toArray.size ≤ _
        rw [List.size_toArray]; omega
      have hsz2 : ¬ (1 + (itoaS x).size > 9223372036854775807) := by omega
      generalize itoaS x = tx at *
      obtain ⟨kk, hkk⟩ : ∃ kk, k2 + 2 * j = kk := ⟨_, rfl⟩
      rw [hkk] at hst hG hstp
      have hkb : kk ≤ k + 400 := by omega
      have hkk' := Lib.hid hkk
      clear hkk
      go_wp2_with fail
      refine hsI.out.mono ?_; rintro e w3 ⟨rfl, B3⟩
      have hown3 := own_below hown B3
      have hRL3 := hRL.below B3
      have s3 := hst.below B3
      have hgr3 := grown_trans hgr (grown_of_below B3)
      clear hown hRL hst hgr B3 hsI cx lO
      go_wp2_with fail
      refine (next_c g zs kk 300 _ s3 (by omega) (by decide) (by decide)).mono ?_; rintro e w4 ⟨rfl, s4, g4⟩
      have hvb := @nextV_bd zs kk 300 (by decide)
      obtain ⟨v, hv⟩ : ∃ v, nextV zs kk 300 = v := ⟨_, rfl⟩
      rw [hv] at hvb hstp ⊢
      obtain ⟨hv0, hv1⟩ := hvb
      clear hv
      have hown4 := own_keep hown3 hglt g4
      have hRL4 := hRL3.keep (T := 25) (by decide) (s3.keep g4)
      have hgr4 := grown_trans hgr3 g4
      clear hown3 hRL3 s3 hgr3 g4
      go_wp2_with fail
      refine (pick_c g zs _ _ _ _ [0, 6000, 6000, 6010, 6018, 6100, 6000 + v] _ (s4.alloc _) (by omega) (R1.litAt _ _ _ _ (by first | rfl | (simp; done)) (by simp) (by simp)) (by simp)).mono ?_; rintro e w5 ⟨rfl, s5, g5⟩
      obtain ⟨pv, hpv⟩ : ∃ pv, pickV zs (kk + 1) [0, 6000, 6000, 6010, 6018, 6100, 6000 + v] = pv := ⟨_, rfl⟩
      rw [hpv] at hstp ⊢
      have hown5 := own_keep (hown4.alloc (.cells #[.int .i64 0, .int .i64 6000, .int .i64 6000, .int .i64 6010, .int .i64 6018, .int .i64 6100, .int .i64 (6000 + v)] 3)) hglt g5
      have hRL5 := (hRL4.alloc (.cells #[.int .i64 0, .int .i64 6000, .int .i64 6000, .int .i64 6010, .int .i64 6018, .int .i64 6100, .int .i64 (6000 + v)] 3)).keep (T := 25) (by decide) ((s4.alloc _).keep g5)
      have hgr5 := grown_trans (grown_alloc hgr4 (.cells #[.int .i64 0, .int .i64 6000, .int .i64 6000, .int .i64 6010, .int .i64 6018, .int .i64 6100, .int .i64 (6000 + v)] 3)) g5
      have hz5 := hgr5.size
      clear hown4 hRL4 s4 hgr4 g5 hpv
      go_wp2_with (at_builtin; refine wpList_app rfl (.tmp 19) (.tmp 30) 26 rfl Tryz.underlying26 info_seed rfl (by omega) (by omega) hown5 rfl rfl (by first | rfl | (simp; done)) (by rfl) (by simp [Value.oneCell']) (by omega) hz5 ?_; intro v6 w6 hown6 hg6)
      have H := Lib.hid (And.intro (show w6.ownsRow w.heap.size 40 2 v6 (j + 1) ((acc ++ [(⟨⟨#[115]⟩ ++ tx, pv⟩ : Sd)]).flatMap sdE) by rw [← flat_snoc]; exact hown6) (And.intro (hRL5.keep (T := 40) (by decide) (keep_row hown5 hg6)) (And.intro (show St w6 g zs (k2 + 2 * (j + 1)) by rw [show k2 + 2 * (j + 1) = kk + 1 + 1 by have := hkk'.out; omega]; exact s5.grown hg6 (fun i hi => by have := own_row_lt hown5 i hi; omega)) (grown_own hgr5 hg6 (own_row_lt hown5)))))
      have hG2 := Lib.hid (show (acc ++ [(⟨⟨#[115]⟩ ++ tx, pv⟩ : Sd)]) ++ sdAcc zs (k2 + 2 * (j + 1)) (L.drop (j + 1)) = RL by rw [← hG.out, hstp.out, List.append_assoc, show k2 + 2 * (j + 1) = kk + 2 by have := hkk'.out; omega]; rfl)
      clear hown6 hg6 hown5 hRL5 s5 hgr5 hG hstp
      go_roundw
      case rel => exact ⟨j + 1, _, by omega, by go_num, Lib.hid (by rw [List.length_append, hla.out]; rfl), H.out.1, H.out.2.1, H.out.2.2.1, hG2, H.out.2.2.2⟩
      case measure => simp [intOf]; omega
    · obtain rfl : j = N := by omega
      obtain ⟨A, c, rfl⟩ := own_shape hown
      have hla' := hla.out
      have hacc : acc = RL := by
        have h9 := hG.out
        rw [drop_end (by rw [hRL.len]; exact Nat.le_refl _), hS0.out, List.append_nil] at h9
        exact h9
      subst hacc
      obtain ⟨kk, hkk⟩ : ∃ kk, k2 + 2 * j = kk := ⟨_, rfl⟩
      rw [hkk] at hst hV'
      have hkb : kk ≤ k + 3 * j + 1 := by omega
      clear hRL hTb hal' hla hG hAt hS0 hkk
      by_cases hj0 : j = 0
      · subst hj0
        have hRV : RV = (acc, kk) := by rw [hV'.out]; unfold sdFin; rw [if_pos rfl]
        subst hRV
        go_wp2
        go_ret
        exact ⟨A, 0, c, rfl, hown, hla', by omega, hst, by dsimp only; omega, hgr⟩
      · have hj1 : (0 : Int) < (j : Int) := by omega
        have hj2 : 0 < j := by omega
        go_wp2_with fail
        refine (flip_c g zs kk _ _ hst (by omega) (by omega) (by omega)).mono ?_; rintro e w7 ⟨rfl, s7, g7⟩
        have hown7 := own_keep hown hglt g7
        have hgr7 := grown_trans hgr g7
        clear hown hst hgr g7
        have hV2 := hV'.out
        unfold sdFin at hV2
        rw [if_neg hj0] at hV2
        have hV2' := Lib.hid hV2
        clear hV2 hV'
        generalize (nextV zs kk 15 == 0) = fl at *
        cases fl
        · have hRV : RV = (acc, kk + 1) := by rw [hV2'.out]; rfl
          subst hRV
          go_wp2
          go_ret
          exact ⟨A, j, c, rfl, hown7, hla', hNM, s7, by dsimp only; omega, hgr7⟩
        · have hV3 := hV2'.out
          rw [if_pos rfl] at hV3
          clear hV2'
          go_wp2_with fail
          refine (next_c g zs _ (j : Int) _ s7 (by omega) (by omega) (by omega)).mono ?_; rintro e w8 ⟨rfl, s8, g8⟩
          have hvb := @nextV_bd zs (kk + 1) (j : Int) (by omega)
          obtain ⟨v, hv⟩ : ∃ v, nextV zs (kk + 1) (j : Int) = v := ⟨_, rfl⟩
          rw [hv] at hvb hV3 ⊢
          obtain ⟨v0, v1⟩ := hvb
          clear hv
          obtain ⟨q, rfl⟩ : ∃ q : Nat, v = q := ⟨v.toNat, by omega⟩
          rw [Int.toNat_natCast] at hV3
          have hown8 := own_keep hown7 hglt g8
          have hgr8 := grown_trans hgr7 g8
          obtain ⟨b, rfl, hbb⟩ := own_someN hown8 (by omega)
          obtain ⟨b', off', x, hA, hbl, hx, c0, c1⟩ := RSd_at2 (RN.of_own sdE_len hown8 hla' (by omega)) (k := q) (by omega)
          injection hA with hA
          injection hA with hA hAo
          subst hA
          subst hAo
          rw [Nat.zero_add] at c0 c1
          have hx' := Lib.hid hx
          have e8 : (q : Int) < j := by omega
          rw [List.getD_eq_getElem?_getD, hx, Option.getD_some] at hV3
          clear hown7 s7 hgr7 g8 hx
          obtain ⟨xw, xt⟩ := x
          dsimp only at c0 c1 hV3
          have f0 := hown8.frozenAt (q * 2)
          have f1 := hown8.frozenAt (q * 2 + 1)
          have hoS := Lib.hid (some_c g zs (kk + 1 + 1) (some ⟨w8.heap.size, 0, none⟩) 3 3 [xw, ⟨#[]⟩, ⟨#[115, 48]⟩] (w8.alloc (.cells #[.string xw, .string ⟨#[]⟩, .string ⟨#[115, 48]⟩] 9)) (s8.alloc _) (by omega) (R1.lit w8 _ _ rfl (by simp)) (by decide))
          obtain ⟨v9, hv9⟩ : ∃ v9, pickV zs (kk + 2) [xw, ⟨#[]⟩, ⟨#[115, 48]⟩] = v9 := ⟨_, rfl⟩
          rw [hv9] at hV3
          have hv9' := Lib.hid hv9
          clear hv9
          obtain ⟨v10, hv10⟩ : ∃ v10, oddV zs (kk + 3) 0 360000 = v10 := ⟨_, rfl⟩
          rw [hv10] at hV3
          have hv10' := Lib.hid hv10
          have hV3' := Lib.hid hV3
          clear hv10 hV3
          go_wp2_with fail
          refine hoS.out.mono ?_; rintro e w9 ⟨rfl, s9, g9⟩
          rw [show pickV zs (kk + 1 + 1) [xw, ⟨#[]⟩, ⟨#[115, 48]⟩] = v9 from hv9'.out]
          have hown9 := own_keep (own_below hown8 (below_new w8 (.cells #[.string xw, .string ⟨#[]⟩, .string ⟨#[115, 48]⟩] 9))) hglt g9
          have hgr9 := grown_trans (grown_alloc hgr8 (.cells #[.string xw, .string ⟨#[]⟩, .string ⟨#[115, 48]⟩] 9)) g9
          clear hoS
          go_wp2_with fail
          refine (odd_c g zs _ 0 360000 _ s9 (by omega) (by decide) (by decide) (by decide)).mono ?_; rintro e w10 ⟨rfl, s10, g10⟩
          rw [show oddV zs (kk + 1 + 1 + 1) 0 360000 = v10 from hv10'.out]
          have hown10 := own_keep hown9 hglt g10
          have hgr10 := grown_trans hgr9 g10
          obtain ⟨b', off', x, hA, hbl', hx, y0, y1⟩ := RSd_at2 (RN.of_own sdE_len hown10 hla' (by omega)) (k := q) (by omega)
          injection hA with hA
          injection hA with hA hAo
          subst hA
          subst hAo
          rw [Nat.zero_add] at y0 y1
          clear hx
          have fx := hown10.frozenAt (q * 2)
          have fy := hown10.frozenAt (q * 2 + 1)
          clear c0 c1 f0 f1
          go_wp2
          go_ret
          have t1 := (hown10.stored (q * 2) (.string v9)).1
          rw [sdr_set _ _ _ _ hx'.out] at t1
          have t2 := (t1.stored (q * 2 + 1) (.int .i64 v10)).1
          rw [sdr_set1 _ _ _ ⟨v9, xt⟩ (by rw [List.getElem?_set_self (by omega)])] at t2
          have hRV : RV = (acc.set q ⟨v9, v10⟩, kk + 5) := hV3'.out
          subst hRV
          rw [List.set_set] at t2
          exact ⟨_, j, c, rfl, t2, by dsimp only; rw [List.length_set]; exact hla', hNM, ((s10.setAt (b := b) (o := q * 2) (by omega) (.string v9)).setAt (b := b) (o := q * 2 + 1) (by omega) (.int .i64 v10)), by dsimp only; omega, grown_setAt (grown_setAt hgr10 hbb (o := q * 2) (.string v9)) hbb (o := q * 2 + 1) (.int .i64 v10)⟩
/-- what RightSeeds hands back: seeds that are right -/
def RetRSF (w : World) (g : Nat) (zs : Zs) (k M : Nat) (RV : List Sd × Nat) (e : Ending) (w' : World) : Prop := ∃ (A : Option Addr) (n c : Nat), e = .returned (.slice A n c) ∧ RSd w' A n RV.1 ∧ seedErr RV.1 = 0 ∧ n ≤ M ∧ St w' g zs RV.2 ∧ RV.2 ≤ k + 6 * (3 * M + 10) ∧ w.grownBy w' (some g) ∧ ((A = none ∧ n = 0 ∧ c = 0) ∨ ∃ b, A = some ⟨b, 0, none⟩ ∧ n ≤ c) ∧ (∀ i, (Value.slice A n c).ownBlock = some i → w.heap.size ≤ i)
set_option maxHeartbeats 1600000 in
set_option maxRecDepth 100000 in
theorem rightSeedsF_c (g : Nat) (zs : Zs) (k M : Nat) (w w0 : World) (h : St w g zs k) (hk : k + 10000 ≤ 1099511627776) (hM : M ≤ 100) (hT : Tb w0) (hb0 : Below w0.heap.size w0 w) (hg0 : w0.heap.size ≤ g) :
    Calls Tryz.prog 40 #[.pointer (some ⟨g, 0, none⟩), .int .i64 M] w (RetRSF w g zs k M (rightSeedsV zs M 6 k)) := by
  have hglt := h.lt
  have hSd := Lib.hid (fun kk wx (hs : St wx g zs kk) (hk : kk + 2000 ≤ 1099511627776) (hg : w.grownBy wx (some g)) => seedsF_c g zs kk M wx w0 hs hk hM hT (hb0.trans (grown_below hg hg0 hb0.size)) hg0)
  have hSt := Lib.hid (fun t kk => show rightSeedsV zs M (t + 1) kk = if seedErr (seedsV zs kk M).1 = 0 then seedsV zs kk M else rightSeedsV zs M t (seedsV zs kk M).2 from rfl)
  have hZ := Lib.hid (fun kk => show rightSeedsV zs M 0 kk = ([], kk) from rfl)
  have hRVe := Lib.hid (show rightSeedsV zs M 6 k = rightSeedsV zs M 6 k from rfl)
  generalize hRV0 : rightSeedsV zs M 6 k = RV at *
  have hRV := Lib.hid hRV0
  clear hT hb0 hg0 hRVe hRV0
  go_enter Tryz.func40, Tryz.ntmps40
  go_wp2_with fail
  go_loopw [6] (fun i wr => ∃ j kk : Nat, j ≤ 6 ∧ i = .int .i64 j ∧ St wr g zs kk ∧ kk ≤ k + j * (3 * M + 10) ∧ Hid (rightSeedsV zs M (6 - j) kk = RV) ∧ w.grownBy wr (some g)) (fun i _ => 6 - (intOf i).toNat)
  case atStart => exact ⟨0, k, by omega, rfl, h, by omega, hRV, grown_refl _ _⟩
  case round =>
    clear h hRV
    obtain ⟨j, kk, hj, rfl, hst, hkk, hG, hgr⟩ := hrel
    have hb1 : j * (3 * M + 10) ≤ 6 * (3 * M + 10) := Nat.mul_le_mul_right _ hj
    by_cases hlt : j < 6
    · have hji : (j : Int) < 6 := by omega
      have hb2 : (j + 1) * (3 * M + 10) = j * (3 * M + 10) + (3 * M + 10) := by rw [Nat.succ_mul]
      have hb3 : (j + 1) * (3 * M + 10) ≤ 6 * (3 * M + 10) := Nat.mul_le_mul_right _ (by omega)
      have hstp := Lib.hid (show RV = if seedErr (seedsV zs kk M).1 = 0 then seedsV zs kk M else rightSeedsV zs M (6 - (j + 1)) (seedsV zs kk M).2 by rw [← hG.out, show 6 - j = (6 - (j + 1)) + 1 by omega]; exact hSt.out _ _)
      clear hG
      have hS1 := Lib.hid (hSd.out kk _ hst (by omega) hgr)
      generalize seedsV zs kk M = SV at *
      obtain ⟨l, k2⟩ := SV
      dsimp only at *
      go_wp2_with fail
      refine hS1.out.mono ?_; rintro e w1 ⟨A, n, c, rfl, ho, hl, hn, s1, hk2, g1⟩
      dsimp only at ho hl s1 hk2
      have hgr1 := grown_trans hgr g1
      have hR := RN.of_own sdE_len ho hl (by omega)
      have hcp := Lib.hid (own_cap ho rfl)
      have hbo := Lib.hid (fun i (hi : (Value.slice A n c).ownBlock = some i) => Nat.le_trans hgr.size (ho.lt i hi).1)
      have hF := Lib.hid (seedsFault_c A n c l w1 hR)
      clear hst hgr g1 ho hS1
      go_wp2_with fail
      refine hF.out.mono ?_; rintro e w2 ⟨rfl, B2⟩
      have s2 := s1.below B2
      have hR2 := hR.below B2
      have hgr2 := grown_trans hgr1 (grown_of_below B2)
      clear s1 hR hgr1 hF B2
      by_cases h0 : seedErr l = 0
      · have h0' := Lib.hid h0
        have hd : (seedErr l == 0) = true := by simpa using h0
        have hRV : RV = (l, k2) := by rw [hstp.out, if_pos h0]
        subst hRV
        clear h0 hstp
        obtain ⟨E, hE⟩ : ∃ E, seedErr l = E := ⟨_, rfl⟩
        rw [hE] at hd ⊢
        clear hE
        go_wp2
        go_ret
        exact ⟨A, n, c, rfl, hR2, h0'.out, hn, s2, by dsimp only; omega, hgr2, hcp.out, hbo.out⟩
      · have hd : (seedErr l == 0) = false := beq_eq_false_iff_ne.2 h0
        have hG2 := Lib.hid (show rightSeedsV zs M (6 - (j + 1)) k2 = RV by rw [hstp.out, if_neg h0])
        clear h0 hstp
        generalize seedErr l = E at hd ⊢
        go_wp2
        go_roundw
        case rel => exact ⟨j + 1, k2, by omega, by go_num, s2, by omega, hG2, hgr2⟩
        case measure => simp [intOf]; omega
    · obtain rfl : j = 6 := by omega
      have hRV : RV = ([], kk) := by rw [← hG.out, show 6 - 6 = 0 from rfl, hZ.out]
      subst hRV
      go_wp2
      go_ret
      exact ⟨none, 0, 0, rfl, RN.nil_ _ _ _ _ _, rfl, by omega, hst, by dsimp only; omega, hgr, .inl ⟨rfl, rfl, rfl⟩, fun i hi => by simp [Value.ownBlock] at hi⟩
def NoS (l : List Sd) : Prop := ∀ x ∈ l, x.who ≠ ⟨#[122, 122]⟩
theorem zz_s (s : ByteArray) : (⟨#[115]⟩ : ByteArray) ++ s ≠ ⟨#[122, 122]⟩ := by
  intro h
  have h2 := congrArg (fun z : ByteArray => z.data.toList) h
  simp at h2
theorem NoS.acc (zs : Zs) : ∀ (kk : Nat) (l : List Int), NoS (sdAcc zs kk l)
  | _, [] => fun x h => (by cases h)
  | kk, y :: r => fun x hx => by
    unfold sdAcc at hx
    rcases List.mem_cons.1 hx with rfl | h
    · exact zz_s _
    · exact NoS.acc zs (kk + 2) r x h
theorem NoS.fin (zs : Zs) (kk N : Nat) {l : List Sd} (h : NoS l) : NoS (sdFin zs kk N l).1 := by
  unfold sdFin
  split
  · exact h
  · split
    · intro x hx
      rcases List.mem_or_eq_of_mem_set hx with h1 | rfl
      · exact h x h1
      · have hm := @pickV_mem _ _ zs (kk + 2) [(l.getD (nextV zs (kk + 1) (N : Int)).toNat ⟨⟨#[]⟩, 0⟩).who, ⟨#[]⟩, ⟨#[115, 48]⟩] (by simp)
        dsimp only
        simp only [List.mem_cons, List.not_mem_nil, or_false] at hm
        rcases hm with h2 | h2 | h2
        · rw [h2, List.getD_eq_getElem?_getD]
          cases h3 : l[(nextV zs (kk + 1) (N : Int)).toNat]? with
          | none => simp
          | some y => exact h y (List.mem_of_getElem? h3)
        · rw [h2]; decide
        · rw [h2]; decide
    · exact h
end Go.Proofs.YtklggnglaeagpaaGreatDoor
