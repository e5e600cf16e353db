/- EverybodySwimsOnce: a draw has everybody once, in heats as great as Sizes says, and without circles nobody is in an earlier heat than a slower one: the walk. Printed by wip/mkl50.py. -/
import Derived.Test.YtffhobmkbabllaaGreatDoorP50
import Derived.Test.YtffhobmkbabllaaGreatDoorPoolM
import Derived.Test.YtffhobmkbabllaaGreatDoorSeedM
import Derived.Test.YtffhobmkbabllaaGreatDoorSizeM
import Derived.Test.YtffhobmkbabllaaGreatDoorScrP
import Derived.Test.YtffhobmkbabllaaGreatDoorReady
import Derived.Deep.RegionHeld3
namespace Go.Proofs.YtffhobmkbabllaaGreatDoor
open Go.RowKit Go.Shelf Go.Lib Go.Sort
set_option linter.unusedVariables false

set_option maxRecDepth 100000 in
theorem who50_c (p1 : Nat) (s : ByteArray) (x : Sp) (w : World) (h1 : w.heap[p1]? = some (.cells #[.string s] 9 (0, 0))) :
    Calls Tryz.prog 67 #[.agg (spE x).toArray, .pointer (some ⟨p1, 0, none⟩)] w fun e w' => e = .returned (.bool (decide (x.who = s))) ∧ Below w.heap.size w w' := by
  obtain ⟨xw, xh, xl⟩ := x
  dsimp only [spE] at *
  have hBn := below_new w (.cells #[.string xw, .int .i64 xh, .int .i64 xl] 90)
  have hn0 := heap_alloc_new w (.cells #[.string xw, .int .i64 xh, .int .i64 xl] 90)
  have a0 := (blk_facts (blk_below h1 hBn)).1 0
  have x0 := (blk_facts hn0).1 0
  have hl1 := lt_of_heap h1
  by_cases e1 : xw = s
  · have b1 : (xw.toList == s.toList) = true := by rw [e1]; exact beq_self_eq_true _
    rw [decide_eq_true e1]
    clear hn0 h1 e1
    go_enter Tryz.func67, Tryz.ntmps67
    go_wp2
    go_ret
    exact ⟨by first | rfl | simp_all, hBn⟩
  · have b1 : (xw.toList == s.toList) = false := str_neS e1
    rw [decide_eq_false e1]
    clear hn0 h1 e1
    go_enter Tryz.func67, Tryz.ntmps67
    go_wp2
    go_ret
    exact ⟨by first | rfl | simp_all, hBn⟩
set_option maxRecDepth 100000 in
theorem idx50_c (p : Sp → Bool) (p1 : Nat) (A : Option Addr) (n c : Nat) (l : List Sp) (w : World) (h : RSp w A n l) (hP : ∀ (x : Sp) W, Below w.heap.size w W → Calls Tryz.prog 67 #[.agg (spE x).toArray, .pointer (some ⟨p1, 0, none⟩)] W fun e w' => e = .returned (.bool (p x)) ∧ Below W.heap.size W w') :
    Calls Tryz.prog 66 #[.slice A n c, .func (.func 67) #[] #[.pointer (some ⟨p1, 0, none⟩)]] w fun e w' => ∃ i, e = .returned (.int .i64 i) ∧ IdxSp p l n i ∧ Below w.heap.size w w' := by
  have hz := Lib.hid (fun x W B => hP x W B)
  have hR := Lib.hid (fun W B => h.below (w' := W) B)
  have hl := Lib.hid h.len
  have hbd := h.bd
  clear hP h
  go_enter Tryz.func66, Tryz.ntmps66
  go_wp2_with fail
  go_loopw [8] (fun i wr => ∃ k : Nat, k ≤ n ∧ i = .int .i64 k ∧ Below w.heap.size w wr ∧ Hid (∀ x ∈ l.take k, p x = false)) (fun i _ => n - (intOf i).toNat)
  case atStart => exact ⟨0, Nat.zero_le _, rfl, Below.refl _ _, Lib.hid (fun x hx => by simp at hx)⟩
  case round =>
    rename World => wr
    obtain ⟨k, hk, rfl, hB, hF⟩ := hrel
    by_cases hlt : k < n
    · obtain ⟨b, off, x, rfl, hbl, hx, c0, c1, c2⟩ := RSp_at3 (hR.out _ hB) hlt
      have hx' := Lib.hid hx
      have hzx := Lib.hid (hz.out x wr hB)
      have hpx := Lib.hid (show p x = p x from rfl)
      obtain ⟨pb, hpb⟩ : ∃ pb, p x = pb := ⟨_, rfl⟩
      rw [hpb] at hzx
      have hpb' := Lib.hid hpb
      obtain ⟨who, heat, lane⟩ := x
      dsimp only [spE] at *
      clear hx hpb hpx
      cases pb
      · have hF2 := Lib.hid (show ∀ x ∈ l.take (k + 1), p x = false from fun x hx => by
          rw [List.take_add_one, hx'.out] at hx
          rcases List.mem_append.1 hx with hx | hx
          · exact hF.out x hx
          · simp at hx; subst hx; exact hpb'.out)
        clear hF hx' hpb'
        go_wp2_with fail
        refine hzx.out.mono ?_; rintro e w1 ⟨rfl, B1⟩
        have hB1 := below_next hB B1
        go_wp2
        go_roundw
        case rel => exact ⟨k + 1, by omega, by go_num, hB1, hF2⟩
        case measure => simp [intOf]; omega
      · have hI := Lib.hid (show IdxSp p l n (k : Int) from .inr ⟨k, rfl, hlt, ⟨_, hx'.out, hpb'.out⟩, hF.out⟩)
        clear hF hx' hpb'
        go_wp2_with fail
        refine hzx.out.mono ?_; rintro e w1 ⟨rfl, B1⟩
        have hB1 := below_next hB B1
        go_wp2
        go_ret
        exact ⟨_, rfl, hI.out, hB1⟩
    · obtain rfl : k = n := by omega
      have hI := Lib.hid (show IdxSp p l k (-1) from .inl ⟨rfl, fun x hx => hF.out x (by rw [List.take_of_length_le (by rw [hl.out]; exact Nat.le_refl _)]; exact hx)⟩)
      go_wp2
      go_ret
      exact ⟨_, rfl, hI.out, hB⟩
/-- the heat of who came last, from the fastest one on -/
def LastOk (O : List ByteArray) (D : List Sp) (j : Nat) (L : Int) : Prop := (j = 0 ∧ L = 60) ∨ ∃ x ∈ D, 0 < j ∧ O[j - 1]? = some x.who ∧ L = x.heat
theorem lastOk_le {p : Pl} {O : List ByteArray} {D : List Sp} (h : DrOk p O D) (hc : p.ci = 1) {j : Nat} {L : Int} (hl : LastOk O D j L) {x : Sp} (hx : x ∈ D) (ho : O[j]? = some x.who) : x.heat ≤ L := by
  rcases hl with ⟨_, rfl⟩ | ⟨y, hy, h1, h2, rfl⟩
  · exact (h.ok.all x hx).2.1.2
  · exact h.ord hc (j - 1) j y x (by omega) h2 ho hy hx
theorem cnt_snoc {D : List Sp} {j : Nat} {x : Sp} (h : D[j]? = some x) (hh : Int) : ((D.take (j + 1)).filter (inH hh)).length = ((D.take j).filter (inH hh)).length + if x.heat = hh then 1 else 0 := by
  rw [List.take_add_one, h, List.filter_append, List.length_append]
  congr 1
  by_cases e : x.heat = hh
  · rw [if_pos e]; simp [inH, e]
  · rw [if_neg e]; simp [inH, e]
set_option maxHeartbeats 12800000 in
set_option maxRecDepth 100000 in
theorem everybodySwimsOnce_walk (a0 : Option Addr) (len0 cap0 : Nat) (z0 : List Int) (w : World) (w0 : IsRow .i64 w a0 len0 cap0 z0) (htab : Tb w) :
    Calls Tryz.prog 8 #[.slice a0 len0 cap0] w fun e w' => e = .returned (.bool true) ∧ Below w.heap.size w w' := by
  have hs := law_start w0
  clear w0
  generalize z0.take len0 = zs at *
  go_enter Tryz.func8, Tryz.ntmps8
  go_wp2_with fail
  have hs' : St (w.alloc (.cells #[.slice a0 len0 cap0, .int .i64 0] 25)) w.heap.size zs 0 := hs
  have hB1 := below_new w (.cells #[.slice a0 len0 cap0, .int .i64 0] 25)
  refine (poolOf_c _ zs 0 _ hs' (by omega)).mono ?_; rintro e w2 ⟨lo, hi, le, ci, k2, rfl, p0, p1, p2, p3, s2, hk2, g2⟩
  have hB2 := hB1.trans (grown_below g2 (Nat.le_refl _) hB1.size)
  have hbd : PlBd ⟨lo, hi, le, ci⟩ := ⟨p0, p1⟩
  clear hs hs' hB1 g2 p0 p1 p2 p3
  go_wp2_with fail
  refine (rightSeeds_c _ zs k2 30 _ w s2 (by omega) (by omega) htab hB2 (Nat.le_refl _)).mono ?_; rintro e w3 ⟨A, n, c, x, k3, rfl, hx, hx0, hn, s3, hk3, g3, _⟩
  have hB3 := hB2.trans (grown_below g3 (Nat.le_refl _) hB2.size)
  clear s2 g3 hB2 htab s3 hk2 hk3
  have hb0 : PoolB w3.heap.size ⟨lo, hi, le, ci⟩ (w3.alloc (.cells #[.int .i64 lo, .int .i64 hi, .int .i64 le, .int .i64 ci] 72)) := heap_alloc_new w3 _
  have K : KX w (fun v => RSd v A n x ∧ PoolB w3.heap.size ⟨lo, hi, le, ci⟩ v) (w3.alloc (.cells #[.int .i64 lo, .int .i64 hi, .int .i64 le, .int .i64 ci] 72)) := ⟨⟨hx.alloc _, hb0⟩, fun a b q B => ⟨q.1.below B, PoolB.keep _ _ q.2 B⟩, hB3.alloc hB3.size _⟩
  have hxl := Lib.hid hx.len
  clear hx hB3 hb0
  have hPF := Lib.hid (fun W => poolFault_c ⟨lo, hi, le, ci⟩ hbd W)
  obtain ⟨z0, z1, z2, z3⟩ := K.x.2.at_
  dsimp only [Pl.val] at *
  go_wp2_with fail
  generalize w3.alloc (.cells #[.int .i64 lo, .int .i64 hi, .int .i64 le, .int .i64 ci] 72) = w4 at *
  generalize w3.heap.size = b4 at *
  by_cases hP : poolErr ⟨lo, hi, le, ci⟩ = 0
  rotate_left
  · have hd : (poolErr ⟨lo, hi, le, ci⟩ != 0) = true := by simpa using hP
    clear hP
    generalize poolErr ⟨lo, hi, le, ci⟩ = PE at *
    refine (hPF.out _).mono ?_; rintro e wN ⟨rfl, BN⟩
    have K2 := K.below BN
    clear K BN hPF
    go_wp2_with fail
    refine (ready_c _).mono ?_; rintro e wM ⟨rfl, BM⟩
    have hB := (K2.below BM).bel
    go_wp2
    go_ret
    exact ⟨rfl, hB⟩
  rw [hP] at hPF
  have hp := poolErr_ok hP
  refine (hPF.out _).mono ?_; rintro e wN ⟨rfl, BN⟩
  replace K := K.below BN
  clear BN hPF z0 z1 z2 z3
  have hn40 : x.length < 40 := by rw [hxl.out]; omega
  have hlan : 1 ≤ hi - lo + 1 := by have := hp.1.2; dsimp only at this; omega
  have hz := szErr_small (lanes := hi - lo + 1) (many := (x.length : Int)) hlan (by omega) (by omega)
  obtain ⟨hS1, hS2, hS3⟩ := szV_facts (lanes := hi - lo + 1) (le := le) (many := (x.length : Int)) hlan hp.2.2.1 (by omega) hz
  have hol := orderW_len hx0 hn40
  obtain ⟨R, hR⟩ := drawR_ex (ci := ci) hp.2.2.2.1 (InvH.start (S := szV (hi - lo + 1) le x.length) (who := orderW x) (fun y hy => (hS1 y hy).1) (by rw [hol]; exact hS2.symm))
  have hOnd : (orderW x).Nodup := by
    unfold orderW
    rw [if_pos hx0]
    exact (((ordS_perm hn40).map Sd.who).nodup_iff).2 (seedNodup50 hx0)
  have hOk : ∀ s ∈ orderW x, keyB s = true := fun s hs => by
    unfold orderW at hs
    rw [if_pos hx0] at hs
    obtain ⟨y, hy, rfl⟩ := List.mem_map.1 hs
    exact ((seedErr_ok hx0).2 y ((ordS_perm hn40).mem_iff.1 hy)).1
  have hF := Lib.hid (fun D hD => draw_ok (p := ⟨lo, hi, le, ci⟩) hp hOnd hOk (by rw [hol]; exact hz) (by rw [hol]; omega) (R := R) (by rw [hol]; exact hR) (D := D) hD)
  have hDr := Lib.hid (fun W h => drawTop_c ⟨lo, hi, le, ci⟩ hp A n c x W h hx0 (by omega) R (by rw [← hxl.out]; exact hR))
  have hOr := Lib.hid (fun W h => order48_c A n c x W h (by omega))
  rw [hx0] at hOr
  have hSi := Lib.hid (fun W => sizesTop_c ⟨lo, hi, le, ci⟩ hbd (n : Int) W)
  have hse : sizeErr ⟨lo, hi, le, ci⟩ (n : Int) = 0 := by unfold sizeErr; rw [if_neg (not_not_intro hP), if_pos (by omega), ← hxl.out]; exact hz
  have hsl : sizeL ⟨lo, hi, le, ci⟩ (n : Int) = szV (hi - lo + 1) le x.length := by unfold sizeL; rw [if_pos ⟨hP, by omega⟩, ← hxl.out]
  rw [hse, hsl] at hSi
  have hCS := Lib.hid (fun A n c D W h => checkStarts_c ⟨lo, hi, le, ci⟩ hbd A n c D W h)
  have hSb := Lib.hid hS1
  have hSn := Lib.hid hS3
  have hlo := hp.1.1
  have hhi := hp.2.1
  dsimp only at hlo hhi
  generalize hSS : szV (hi - lo + 1) le x.length = S at *
  have hSS' := Lib.hid hSS
  clear hSS
  have hol' := Lib.hid hol
  generalize orderW x = O at *
  clear hS1 hS2 hS3 hz hR hlan hP hse hsl hOnd hOk hp hx0 hol
  unfold RetNm at hOr
  unfold RetI at hSi
  unfold RetDT at hDr
  dsimp only [Pl.val] at *
  obtain ⟨z0, z1, z2, z3⟩ := K.x.2.at_
  dsimp only at z0 z1 z2 z3
  go_wp2_with fail
  refine (hDr.out _ K.x.1).mono ?_; rintro e w5 ⟨A5, n5, c5, D, rfl, hD, hDs, B5⟩
  replace K := (K.below B5).add (Y := fun v => RSp v A5 n5 D) hD (fun _ _ h B => h.below B)
  have hQ := Lib.hid (hF.out D hDs)
  have hDl := Lib.hid hD.len
  clear B5 hDr hD hDs hF z0 z1 z2 z3
  obtain ⟨z0, z1, z2, z3⟩ := K.x.1.2.at_
  dsimp only at z0 z1 z2 z3
  go_wp2_with fail
  refine (hSi.out _).mono ?_; rintro e w6 ⟨A6, n6, c6, rfl, hS, B6⟩
  replace K := (K.below B6).add (Y := fun v => RI 3 v A6 n6 S) hS (fun _ _ h B => h.below B)
  have hSl := Lib.hid hS.len
  clear B6 hSi hS z0 z1 z2 z3
  go_wp2_with fail
  refine (hOr.out _ K.x.1.1.1).mono ?_; rintro e w7 ⟨A7, n7, c7, rfl, hO, B7⟩
  replace K := (K.below B7).add (Y := fun v => RS 9 v A7 n7 O) hO (fun _ _ h B => h.below B)
  have hOl := Lib.hid hO.len
  clear B7 hOr hO
  have hn5 : n5 = n := by rw [← hDl.out, ← hxl.out, hQ.out.len, hol'.out]
  have hn7 : n7 = n := by rw [← hOl.out, ← hxl.out, hol'.out]
  have v5 : ((n5 : Int) != (n : Int)) = false := by rw [hn5]; simp
  have hC5 := Lib.hid (fun W h => hCS.out A5 n5 c5 D W h)
  rw [(SOk.iff _ _).2 hQ.out.ok] at hC5
  have hb5 : n5 ≤ 30 := by omega
  have hb7 : n7 ≤ 30 := by omega
  clear hn5 hn7 hCS
  obtain ⟨z0, z1, z2, z3⟩ := K.x.1.1.1.2.at_
  dsimp only at z0 z1 z2 z3
  go_wp2_with fail
  refine (hC5.out _ K.x.1.1.2).mono ?_; rintro e w8 ⟨rfl, B8⟩
  replace K := K.below B8
  clear B8 hC5 z0 z1 z2 z3 v5
  have hn6 : n6 ≤ 60 := by rw [← hSl.out]; exact hSn.out
  go_wp2_with fail
  go_loopw [12, 13, 74] (fun _ _ iv wr => ∃ k : Nat, k ≤ n6 ∧ iv = .int .i64 k ∧ KX w (fun v => (((RSd v A n x ∧ PoolB b4 ⟨lo, hi, le, ci⟩ v) ∧ RSp v A5 n5 D) ∧ RI 3 v A6 n6 S) ∧ RS 9 v A7 n7 O) wr) (fun _ _ iv _ => n6 - (intOf iv).toNat)
  case atStart => exact ⟨0, Nat.zero_le _, rfl, K⟩
  case round =>
    clear K
    rename World => wr
    obtain ⟨k, hk, rfl, K⟩ := hrel
    by_cases hlt : k < n6
    · obtain ⟨b6, o6, sk, hA6, hl6, hsk, cs⟩ := R1.at_ K.x.1.2 (k := k) hlt
      have hb := hSb.out sk (List.mem_of_getElem? hsk)
      have hfull := Lib.hid (show (((D.take n5).filter (inH ((k : Int) + 1))).length : Int) = sk by
        rw [List.take_of_length_le (by rw [hDl.out]; exact Nat.le_refl _)]
        have h1 := hQ.out.cnt k
        dsimp only at h1
        rw [hol'.out, hSS'.out] at h1
        have h1 := h1 (lt_of_at hsk)
        rw [h1, List.getD_eq_getElem?_getD, hsk]; rfl)
      subst hA6
      have w1 : IntKind.i64.wrap ((k : Int) + 1) = (k : Int) + 1 := IntWalk.i64_in _ (by omega)
      clear hsk
      go_wp2_with fail
      go_loopw [13, 81] (fun mv jv wr => ∃ (j : Nat) (v : Int), j ≤ n5 ∧ jv = .int .i64 j ∧ mv = .int .i64 v ∧ Hid (v = sk - (((D.take j).filter (inH ((k : Int) + 1))).length : Int)) ∧ KX w (fun v => (((RSd v A n x ∧ PoolB b4 ⟨lo, hi, le, ci⟩ v) ∧ RSp v A5 n5 D) ∧ RI 3 v (some ⟨b6, o6, none⟩) n6 S) ∧ RS 9 v A7 n7 O) wr) (fun _ jv _ => n5 - (intOf jv).toNat)
      case atStart => exact ⟨0, sk, Nat.zero_le _, rfl, rfl, Lib.hid (by simp), K⟩
      case round =>
        clear K cs hl6
        rename World => wy
        obtain ⟨j, v, hj, rfl, rfl, hv, K⟩ := hrel
        have hvb : -40 ≤ v ∧ v ≤ 20 := by
          have h1 := hv.out
          have h2 := List.length_filter_le (inH ((k : Int) + 1)) (D.take j)
          rw [List.length_take] at h2
          omega
        by_cases hlj : j < n5
        · obtain ⟨b5, o5, y, rfl, hl5, hy, c0, c1, c2⟩ := RSp_at3 K.x.1.1.2 hlj
          have hcn := Lib.hid (cnt_snoc hy ((k : Int) + 1))
          have K5 := K.below (below_new wy (.cells #[.string y.who, .int .i64 y.heat, .int .i64 y.lane] 90))
          have x1 := (blk_facts (heap_alloc_new wy (.cells #[.string y.who, .int .i64 y.heat, .int .i64 y.lane] 90))).1 1
          obtain ⟨yw, yh, yl⟩ := y
          dsimp only at *
          clear hy K
          by_cases he : yh = (k : Int) + 1
          · have hv2 := Lib.hid (show v - 1 = sk - (((D.take (j + 1)).filter (inH ((k : Int) + 1))).length : Int) by rw [hcn.out, if_pos he, hv.out]; push_cast; omega)
            have e1 : (yh == (k : Int) + 1) = true := by rw [he]; exact beq_self_eq_true _
            have w2 : IntKind.i64.wrap (v - 1) = v - 1 := IntWalk.i64_in _ (by omega)
            clear hcn hv he
            go_wp2
            go_roundw
            case rel => exact ⟨j + 1, _, by omega, by go_num, rfl, hv2, K5⟩
            case measure => simp [intOf]; omega
          · have hv2 := Lib.hid (show v = sk - (((D.take (j + 1)).filter (inH ((k : Int) + 1))).length : Int) by rw [hcn.out, if_neg he, hv.out]; simp)
            have e1 : (yh == (k : Int) + 1) = false := beq_eq_false_iff_ne.2 he
            clear hcn hv he
            go_wp2
            go_roundw
            case rel => exact ⟨j + 1, _, by omega, by go_num, rfl, hv2, K5⟩
            case measure => simp [intOf]; omega
        · obtain rfl : j = n5 := by omega
          obtain rfl : v = 0 := by have h1 := hv.out; have h2 := hfull.out; omega
          clear hv hfull hvb
          go_wp2
          go_roundw
          case rel => exact ⟨k + 1, by omega, by first | rfl | go_num, K⟩
          case measure => simp [intOf]; omega
    · obtain rfl : k = n6 := by omega
      go_wp2_with fail
      go_loopw [16, 19, 98] (fun lv _ jv wr => ∃ (j : Nat) (L : Int), j ≤ n7 ∧ jv = .int .i64 j ∧ lv = .int .i64 L ∧ Hid (LastOk O D j L) ∧ KX w (fun v => (((RSd v A n x ∧ PoolB b4 ⟨lo, hi, le, ci⟩ v) ∧ RSp v A5 n5 D) ∧ RI 3 v A6 k S) ∧ RS 9 v A7 n7 O) wr) (fun _ _ jv _ => n7 - (intOf jv).toNat)
      case atStart => exact ⟨0, 60, Nat.zero_le _, rfl, rfl, Lib.hid (.inl ⟨rfl, rfl⟩), K⟩
      case round =>
        clear K
        rename World => wy
        obtain ⟨j, L, hj, rfl, rfl, hL, K⟩ := hrel
        by_cases hlj : j < n7
        · obtain ⟨b7, o7, s, rfl, hl7, hs, cs⟩ := R1.at_ K.x.2 (k := j) hlj
          have K5 := K.below (below_new wy (.cells #[.string s] 9))
          have hI := Lib.hid (idx50_c (fun q => decide (q.who = s)) wy.heap.size A5 n5 c5 D _ K5.x.1.1.2 (fun q W BW => who50_c wy.heap.size s q W (blk_below (heap_alloc_new wy _) BW)))
          have hs' := Lib.hid hs
          clear hs K
          go_wp2_with fail
          refine hI.out.mono ?_; rintro e w9 ⟨i, rfl, hi9, B9⟩
          have K6 := K5.below B9
          clear K5 hI B9 cs
          obtain ⟨kk, rfl, hkk, y, hy, hyw⟩ : ∃ kk : Nat, i = (kk : Int) ∧ kk < n5 ∧ ∃ y, D[kk]? = some y ∧ y.who = s := by
            rcases hi9 with ⟨_, h2⟩ | ⟨kk, h1, h2, ⟨y, h3, h4⟩, _⟩
            · obtain ⟨y, h3, h4⟩ := hQ.out.all s (List.mem_of_getElem? hs'.out)
              have this : decide (y.who = s) = false := h2 y h3
              rw [h4] at this
              simp at this
            · exact ⟨kk, h1, h2, y, h3, of_decide_eq_true h4⟩
          clear hi9
          have hL2 := Lib.hid (show LastOk O D (j + 1) y.heat from .inr ⟨y, List.mem_of_getElem? hy, by omega, by rw [Nat.add_sub_cancel, hs'.out, hyw], rfl⟩)
          have hle := Lib.hid (fun (hc : ci = 1) => lastOk_le hQ.out hc hL.out (List.mem_of_getElem? hy) (by rw [hs'.out, hyw]))
          obtain ⟨z0, z1, z2, z3⟩ := K6.x.1.1.1.2.at_
          dsimp only at z0 z1 z2 z3
          obtain ⟨b5, o5, y', rfl, hl5, hy', c0, c1, c2⟩ := RSp_at3 K6.x.1.1.2 hkk
          obtain rfl : y' = y := by rw [hy] at hy'; exact (Option.some.inj hy').symm
          obtain ⟨yw, yh, yl⟩ := y'
          dsimp only at *
          have q1 : ¬ (kk : Int) < 0 := by omega
          have q2 : (kk : Int) < (n5 : Int) := by omega
          clear hs' hy hy' hyw hL
          by_cases hc : ci = 1
          · have h9 := hle.out hc
            have e1 : (ci == 1) = true := by rw [hc]; rfl
            have e2 : decide (L < yh) = false := decide_eq_false (by omega)
            have e3 : ¬ L < yh := by omega
            clear hle hc h9
            go_wp2
            go_roundw
            case rel => exact ⟨j + 1, _, by omega, by go_num, rfl, hL2, K6⟩
            case measure => simp [intOf]; omega
          · have e1 : (ci == 1) = false := beq_eq_false_iff_ne.2 hc
            clear hle hc
            go_wp2
            go_roundw
            case rel => exact ⟨j + 1, _, by omega, by go_num, rfl, hL2, K6⟩
            case measure => simp [intOf]; omega
        · obtain rfl : j = n7 := by omega
          go_wp2_with fail
          refine (ready_c _).mono ?_; rintro e wM ⟨rfl, BM⟩
          have hB := (K.below BM).bel
          go_wp2
          go_ret
          exact ⟨rfl, hB⟩
end Go.Proofs.YtffhobmkbabllaaGreatDoor
