import Derived.Test.YtlddeeagnlgciaaGreatDoorPassL
import Derived.Test.YtlddeeagnlgciaaGreatDoorWhereR
import Derived.IntWalk
import Derived.Test.YtlddeeagnlgciaaGreatDoorEqWh
/- race.lap, race.meet, race.ahead; the reference's lapAt, equalIn. -/
namespace Go.Proofs.YtlddeeagnlgciaaGreatDoor
open Go.RowKit
set_option linter.unusedVariables false

set_option maxHeartbeats 1600000 in
set_option maxRecDepth 100000 in
theorem lap_c (A : Option Addr) (n c : Nat) (l : List Int) (t : Int) (w : World) (h : RI 3 w A n l) (hn : n ≤ 1000) (hb : ∀ x ∈ l, 0 ≤ x ∧ x ≤ 360000) (hx : ∃ x ∈ l, t < x) :
    Calls Tryz.prog 227 #[.slice A n c, .int .i64 t] w fun e w' => e = .returned (.tuple #[.int .i64 (lapP l t).1, .int .i64 (lapP l t).2.1, .int .i64 (lapP l t).2.2]) ∧ Below w.heap.size w w' := by
  obtain ⟨K, xK, h1, h2, h3⟩ := first_after l hx
  have hKn : K < n := by have := lt_of_at h2; rw [h.len] at this; exact this
  have hG := Lib.hid (fun k x i last (hx : l[k]? = some x) => lapGo_at (t := t) (k := i) (f := last) hx)
  have hP : Hid (lapGo t (l.drop 0) ((0 : Nat) : Int) 0 = lapP l t) := Lib.hid rfl
  have h1' := Lib.hid h1
  have hb' := Lib.hid hb
  clear h1 hb hx
  generalize lapP l t = LP at *
  generalize lapGo t = LG at *
  obtain ⟨p1, p2, p3⟩ := LP
  dsimp only
  go_enter Tryz.func227, Tryz.ntmps227
  go_wp2_with fail
  go_loopw [4, 5] (fun u v wr => ∃ (k : Nat) (f : Int), k ≤ K ∧ u = .int .i64 k ∧ v = .int .i64 f ∧ 0 ≤ f ∧ f ≤ 360000 ∧ Below w.heap.size w wr ∧ Hid (LG (l.drop k) k f = (p1, p2, p3))) (fun u _ _ => K - (intOf u).toNat)
  case atStart => exact ⟨0, 0, Nat.zero_le _, rfl, rfl, by decide, by decide, Below.refl _ _, hP⟩
  case round =>
    obtain ⟨k, f, hk, rfl, rfl, hf0, hf1, hB, hH⟩ := hrel
    obtain ⟨bX, oX, x, rfl, lX, hxk, cX⟩ := (h.below hB).at_ (k := k) (by omega)
    have hbx := hb'.out x (List.mem_of_getElem? hxk)
    have hS := Lib.hid (hG.out k x k f hxk)
    have hkn : (k : Int) < (n : Int) := by omega
    have w1 : IntKind.i64.wrap ((k : Int) + 1) = (k : Int) + 1 := IntWalk.i64_in _ (by omega)
    have w2 : IntKind.i64.wrap (x - f) = x - f := IntWalk.i64_in _ (by omega)
    by_cases hlt : k < K
    · have hxt := h1'.out k x hlt hxk
      have hN := Lib.hid (show LG (l.drop (k + 1)) ((k + 1 : Nat) : Int) x = (p1, p2, p3) by rw [← hH.out, hS.out, if_neg (by omega)]; rfl)
      clear hS hxk
      go_wp2
      go_roundw
      case rel => exact ⟨k + 1, x, by omega, by go_num, rfl, by omega, by omega, hB, hN⟩
      case measure => simp [intOf]; omega
    · obtain rfl : K = k := by omega
      rw [h2] at hxk
      injection hxk with hxk
      subst hxk
      have hN := Lib.hid (show ((K : Int), f, xK - f) = (p1, p2, p3) by rw [← hH.out, hS.out, if_pos h3])
      have hno : ¬ xK ≤ t := by omega
      clear hS hH hP
      have hN2 := hN.out
      injection hN2 with q1 q2
      injection q2 with q2 q3
      subst q1 q2 q3
      clear hN
      go_wp2_with fail
      go_region_with (fail)
      have hB4 := below_drewN hB 1
      go_wp2
      go_ret3
      exact ⟨rfl, hB4⟩
set_option maxHeartbeats 1600000 in
set_option maxRecDepth 100000 in
theorem lapAt_c (A : Option Addr) (n c : Nat) (l : List Int) (t : Int) (w : World) (h : RI 3 w A n l) (hn : n ≤ 1000) (hb : ∀ x ∈ l, 0 ≤ x ∧ x ≤ 360000) (hx : ∃ x ∈ l, t < x) :
    Calls Tryz.prog 177 #[.slice A n c, .int .i64 t] w fun e w' => e = .returned (.tuple #[.int .i64 (lapP l t).1, .int .i64 (lapP l t).2.1, .int .i64 (lapP l t).2.2]) ∧ Below w.heap.size w w' := by
  obtain ⟨K, xK, h1, h2, h3⟩ := first_after l hx
  have hKn : K < n := by have := lt_of_at h2; rw [h.len] at this; exact this
  have hG := Lib.hid (fun k x i last (hx : l[k]? = some x) => lapGo_at (t := t) (k := i) (f := last) hx)
  have hP : Hid (lapGo t (l.drop 0) ((0 : Nat) : Int) 0 = lapP l t) := Lib.hid rfl
  have h1' := Lib.hid h1
  have hb' := Lib.hid hb
  clear h1 hb hx
  generalize lapP l t = LP at *
  generalize lapGo t = LG at *
  obtain ⟨p1, p2, p3⟩ := LP
  dsimp only
  go_enter Tryz.func177, Tryz.ntmps177
  go_wp2_with fail
  go_loopw [5, 11] (fun v u wr => ∃ (k : Nat) (f : Int), k ≤ K ∧ u = .int .i64 k ∧ v = .int .i64 f ∧ 0 ≤ f ∧ f ≤ 360000 ∧ Below w.heap.size w wr ∧ Hid (LG (l.drop k) k f = (p1, p2, p3))) (fun _ u _ => K - (intOf u).toNat)
  case atStart => exact ⟨0, 0, Nat.zero_le _, rfl, rfl, by decide, by decide, Below.refl _ _, hP⟩
  case round =>
    obtain ⟨k, f, hk, rfl, rfl, hf0, hf1, hB, hH⟩ := hrel
    obtain ⟨bX, oX, x, rfl, lX, hxk, cX⟩ := (h.below hB).at_ (k := k) (by omega)
    have hbx := hb'.out x (List.mem_of_getElem? hxk)
    have hS := Lib.hid (hG.out k x k f hxk)
    have hkn : k < n := by omega
    have w2 : IntKind.i64.wrap (x - f) = x - f := IntWalk.i64_in _ (by omega)
    by_cases hlt : k < K
    · have hxt := h1'.out k x hlt hxk
      have hN := Lib.hid (show LG (l.drop (k + 1)) ((k + 1 : Nat) : Int) x = (p1, p2, p3) by rw [← hH.out, hS.out, if_neg (by omega)]; rfl)
      have hno : ¬ t < x := by omega
      clear hS hxk
      go_wp2
      go_roundw
      case rel => exact ⟨k + 1, x, by omega, by go_num, rfl, by omega, by omega, hB, hN⟩
      case measure => simp [intOf]; omega
    · obtain rfl : K = k := by omega
      rw [h2] at hxk
      injection hxk with hxk
      subst hxk
      have hN := Lib.hid (show ((K : Int), f, xK - f) = (p1, p2, p3) by rw [← hH.out, hS.out, if_pos h3])
      clear hS hH hP
      have hN2 := hN.out
      injection hN2 with q1 q2
      injection q2 with q2 q3
      subst q1 q2 q3
      clear hN
      go_wp2
      go_ret3
      exact ⟨rfl, hB⟩
/-- bounds of a lap -/
theorem lapP_bd {l : List Int} {t : Int} (hr : risingF l 0 = true) (hb : ∀ x ∈ l, 0 ≤ x ∧ x ≤ 360000) (hn : l.length ≤ 1000) (hx : ∃ x ∈ l, t < x) : 0 ≤ (lapP l t).1 ∧ (lapP l t).1 ≤ 1000 ∧ 0 ≤ (lapP l t).2.1 ∧ (lapP l t).2.1 ≤ 360000 ∧ 0 < (lapP l t).2.2 ∧ (lapP l t).2.2 ≤ 360000 := by
  obtain ⟨k, x, h1, h2, h3⟩ := first_after l hx
  have hxb := hb x (List.mem_of_getElem? h2)
  have hkl := lt_of_at h2
  generalize hy : (if k = 0 then (0 : Int) else l.getD (k - 1) 0) = y
  rw [lapP_found h1 h2 h3 hy.symm]
  have hyx : 0 ≤ y ∧ y < x := by
    by_cases hk : k = 0
    · subst hk; rw [if_pos rfl] at hy; subst hy; exact ⟨by omega, rise_gt hr h2⟩
    · rw [if_neg hk] at hy
      obtain ⟨z, hz⟩ := at_of_lt (l := l) (k := k - 1) (by omega)
      rw [getD_of hz] at hy
      subst hy
      exact ⟨(hb z (List.mem_of_getElem? hz)).1, rise_lt hr (by omega) hz h2⟩
  exact ⟨by show (0 : Int) ≤ (k : Int); omega, by show (k : Int) ≤ 1000; omega, hyx.1, by show y ≤ 360000; omega, by show 0 < x - y; omega, by show x - y ≤ 360000; omega⟩
end Go.Proofs.YtlddeeagnlgciaaGreatDoor

/- The time at which two meet: race.meet, the reference's equalIn. Printed by genmeet.py. -/
namespace Go.Proofs.YtlddeeagnlgciaaGreatDoor
open Go.RowKit
set_option linter.unusedVariables false

set_option maxHeartbeats 3200000 in
set_option maxRecDepth 100000 in
theorem meet_c (A B : Option Addr) (n c m d : Nat) (la lb : List Int) (t : Int) (w : World) (ha : RI 3 w A n la) (hb : RI 3 w B m lb) (hn : n ≤ 1000) (hm : m ≤ 1000) (hba : ∀ x ∈ la, 0 ≤ x ∧ x ≤ 360000) (hbb : ∀ x ∈ lb, 0 ≤ x ∧ x ≤ 360000) (hra : risingF la 0 = true) (hrb : risingF lb 0 = true) (hxa : ∃ x ∈ la, t < x) (hxb : ∃ x ∈ lb, t < x) (h1 : 0 < (meetP la lb t).2) (h2 : 0 ≤ (meetP la lb t).1) :
    Calls Tryz.prog 174 #[.slice A n c, .slice B m d, .int .i64 t] w fun e w' => e = .returned (fracV (meetP la lb t).1 (meetP la lb t).2) ∧ Below w.heap.size w w' := by
  obtain ⟨i0, i1, f0, f1, x0, x1⟩ := lapP_bd hra hba (by rw [ha.len]; exact hn) hxa
  obtain ⟨k0, k1, g0, g1, y0, y1⟩ := lapP_bd hrb hbb (by rw [hb.len]; exact hm) hxb
  have hLa := Lib.hid (fun W h => lap_c A n c la t W h hn hba hxa)
  have hLb := Lib.hid (fun W h => lap_c B m d lb t W h hm hbb hxb)
  have hM : meetP la lb t = if (lapP lb t).2.2 - (lapP la t).2.2 < 0 then (-((lapP la t).2.1 * (lapP lb t).2.2 - (lapP lb t).2.1 * (lapP la t).2.2 - ((lapP la t).1 - (lapP lb t).1) * (lapP la t).2.2 * (lapP lb t).2.2), -((lapP lb t).2.2 - (lapP la t).2.2)) else ((lapP la t).2.1 * (lapP lb t).2.2 - (lapP lb t).2.1 * (lapP la t).2.2 - ((lapP la t).1 - (lapP lb t).1) * (lapP la t).2.2 * (lapP lb t).2.2, (lapP lb t).2.2 - (lapP la t).2.2) := rfl
  generalize meetP la lb t = MP at *
  generalize lapP la t = LA at *
  generalize lapP lb t = LB at *
  obtain ⟨i, f, x⟩ := LA
  obtain ⟨k, g, y⟩ := LB
  obtain ⟨M1, M2⟩ := MP
  dsimp only at *
  clear hba hbb hra hrb hxa hxb
  obtain ⟨a0, a1⟩ := mul_bd f0 f1 (Int.le_of_lt y0) y1
  obtain ⟨b0, b1⟩ := mul_bd g0 g1 (Int.le_of_lt x0) x1
  obtain ⟨c0, c1⟩ := mul_bd i0 i1 (Int.le_of_lt x0) x1
  obtain ⟨d0, d1⟩ := mul_bd k0 k1 (Int.le_of_lt x0) x1
  obtain ⟨e0, e1⟩ := mul_bd c0 c1 (Int.le_of_lt y0) y1
  obtain ⟨r0, r1⟩ := mul_bd d0 d1 (Int.le_of_lt y0) y1
  have s1 : (i - k) * x = i * x - k * x := Int.sub_mul _ _ _
  have s2 : (i - k) * x * y = i * x * y - k * x * y := by rw [s1, Int.sub_mul]
  have m1 : IntKind.i64.wrap (f * y) = f * y := IntWalk.i64_in _ (by omega)
  have m2 : IntKind.i64.wrap (g * x) = g * x := IntWalk.i64_in _ (by omega)
  have m3 : IntKind.i64.wrap (f * y - g * x) = f * y - g * x := IntWalk.i64_in _ (by omega)
  have m4 : IntKind.i64.wrap (i - k) = i - k := IntWalk.i64_in _ (by omega)
  have m5 : IntKind.i64.wrap ((i - k) * x) = (i - k) * x := IntWalk.i64_in _ (by omega)
  have m6 : IntKind.i64.wrap ((i - k) * x * y) = (i - k) * x * y := IntWalk.i64_in _ (by omega)
  have m7 : IntKind.i64.wrap (f * y - g * x - (i - k) * x * y) = f * y - g * x - (i - k) * x * y := IntWalk.i64_in _ (by omega)
  have m8 : IntKind.i64.wrap (y - x) = y - x := IntWalk.i64_in _ (by omega)
  have m9 : IntKind.i64.wrap (-(f * y - g * x - (i - k) * x * y)) = -(f * y - g * x - (i - k) * x * y) := IntWalk.i64_in _ (by omega)
  have m10 : IntKind.i64.wrap (-(y - x)) = -(y - x) := IntWalk.i64_in _ (by omega)
  have hMb : M1 ≤ 4611686018427387904 ∧ M2 ≤ 4611686018427387904 := by
    by_cases hq : y - x < 0
    · rw [if_pos hq] at hM; injection hM with q1 q2; omega
    · rw [if_neg hq] at hM; injection hM with q1 q2; omega
  have hFr := Lib.hid (fun W => frac_c M1 M2 W h2 h1 hMb.1 hMb.2)
  obtain ⟨NN, DD, hV⟩ : ∃ NN DD, fracV M1 M2 = .agg #[.int .i64 NN, .int .i64 DD] := ⟨_, _, rfl⟩
  rw [hV] at hFr ⊢
  clear hV
  clear a0 a1 b0 b1 c0 c1 d0 d1 e0 e1 r0 r1 s1 s2 i0 i1 f0 f1 k0 k1 g0 g1 x0 x1 y0 y1 h1 h2 hMb
  have hM' := Lib.hid hM
  clear hM
  have hb0 := heap_alloc_new w (.cells #[.int .i64 0, .int .i64 0] 86)
  have hB0 := below_new w (.cells #[.int .i64 0, .int .i64 0] 86)
  go_enter Tryz.func174, Tryz.ntmps174
  go_wp2_with fail
  refine (hLa.out _ (ha.alloc _)).mono ?_; rintro e w1 ⟨rfl, B1⟩
  have hb1 := blk_below hb0 B1
  have hB1 := below_next hB0 B1
  have hb' := (hb.alloc (.cells #[.int .i64 0, .int .i64 0] 86)).below B1
  clear hb0 hB0 B1 hLa
  go_wp2_with fail
  refine (hLb.out _ hb').mono ?_; rintro e w2 ⟨rfl, B2⟩
  have hb2 := blk_below hb1 B2
  have hB2 := below_next hB1 B2
  clear hb1 hB1 B2 hLb hb'
  by_cases hq : y - x < 0
  · have hMe := hM'.out
    rw [if_pos hq] at hMe
    injection hMe with q1 q2
    subst q1 q2
    clear hM'
    go_wp2_with fail
    refine (hFr.out _).mono ?_; rintro e w3 ⟨rfl, B3⟩
    obtain ⟨Z, Y⟩ := blk_facts (blk_below hb2 B3)
    have hB3 := below_next hB2 B3
    clear hb2 hB2 B3 hFr
    go_wp2
    refine bodyPost_ret (v := .agg #[.int .i64 NN, .int .i64 DD]) (by simp [results, Tryz.results174, go_sem, Z]) rfl ⟨rfl, ?_⟩
    exact (hB3.setCell (by simp) _).setCell (by simp) _
  · have hMe := hM'.out
    rw [if_neg hq] at hMe
    injection hMe with q1 q2
    subst q1 q2
    clear hM'
    go_wp2_with fail
    refine (hFr.out _).mono ?_; rintro e w3 ⟨rfl, B3⟩
    obtain ⟨Z, Y⟩ := blk_facts (blk_below hb2 B3)
    have hB3 := below_next hB2 B3
    clear hb2 hB2 B3 hFr
    go_wp2
    refine bodyPost_ret (v := .agg #[.int .i64 NN, .int .i64 DD]) (by simp [results, Tryz.results174, go_sem, Z]) rfl ⟨rfl, ?_⟩
    exact (hB3.setCell (by simp) _).setCell (by simp) _

set_option maxHeartbeats 3200000 in
set_option maxRecDepth 100000 in
theorem equalIn_c (A B : Option Addr) (n c m d : Nat) (la lb : List Int) (t : Int) (w : World) (ha : RI 3 w A n la) (hb : RI 3 w B m lb) (hn : n ≤ 1000) (hm : m ≤ 1000) (hba : ∀ x ∈ la, 0 ≤ x ∧ x ≤ 360000) (hbb : ∀ x ∈ lb, 0 ≤ x ∧ x ≤ 360000) (hra : risingF la 0 = true) (hrb : risingF lb 0 = true) (hxa : ∃ x ∈ la, t < x) (hxb : ∃ x ∈ lb, t < x) (h1 : 0 < (meetP la lb t).2) (h2 : 0 ≤ (meetP la lb t).1) :
    Calls Tryz.prog 118 #[.slice A n c, .slice B m d, .int .i64 t] w fun e w' => e = .returned (fracV (meetP la lb t).1 (meetP la lb t).2) ∧ Below w.heap.size w w' := by
  obtain ⟨i0, i1, f0, f1, x0, x1⟩ := lapP_bd hra hba (by rw [ha.len]; exact hn) hxa
  obtain ⟨k0, k1, g0, g1, y0, y1⟩ := lapP_bd hrb hbb (by rw [hb.len]; exact hm) hxb
  have hLa := Lib.hid (fun W h => lapAt_c A n c la t W h hn hba hxa)
  have hLb := Lib.hid (fun W h => lapAt_c B m d lb t W h hm hbb hxb)
  have hM : meetP la lb t = if (lapP lb t).2.2 - (lapP la t).2.2 < 0 then (-((lapP la t).2.1 * (lapP lb t).2.2 - (lapP lb t).2.1 * (lapP la t).2.2 - ((lapP la t).1 - (lapP lb t).1) * (lapP la t).2.2 * (lapP lb t).2.2), -((lapP lb t).2.2 - (lapP la t).2.2)) else ((lapP la t).2.1 * (lapP lb t).2.2 - (lapP lb t).2.1 * (lapP la t).2.2 - ((lapP la t).1 - (lapP lb t).1) * (lapP la t).2.2 * (lapP lb t).2.2, (lapP lb t).2.2 - (lapP la t).2.2) := rfl
  generalize meetP la lb t = MP at *
  generalize lapP la t = LA at *
  generalize lapP lb t = LB at *
  obtain ⟨i, f, x⟩ := LA
  obtain ⟨k, g, y⟩ := LB
  obtain ⟨M1, M2⟩ := MP
  dsimp only at *
  clear hba hbb hra hrb hxa hxb
  obtain ⟨a0, a1⟩ := mul_bd f0 f1 (Int.le_of_lt y0) y1
  obtain ⟨b0, b1⟩ := mul_bd g0 g1 (Int.le_of_lt x0) x1
  obtain ⟨c0, c1⟩ := mul_bd i0 i1 (Int.le_of_lt x0) x1
  obtain ⟨d0, d1⟩ := mul_bd k0 k1 (Int.le_of_lt x0) x1
  obtain ⟨e0, e1⟩ := mul_bd c0 c1 (Int.le_of_lt y0) y1
  obtain ⟨r0, r1⟩ := mul_bd d0 d1 (Int.le_of_lt y0) y1
  have s1 : (i - k) * x = i * x - k * x := Int.sub_mul _ _ _
  have s2 : (i - k) * x * y = i * x * y - k * x * y := by rw [s1, Int.sub_mul]
  have m1 : IntKind.i64.wrap (f * y) = f * y := IntWalk.i64_in _ (by omega)
  have m2 : IntKind.i64.wrap (g * x) = g * x := IntWalk.i64_in _ (by omega)
  have m3 : IntKind.i64.wrap (f * y - g * x) = f * y - g * x := IntWalk.i64_in _ (by omega)
  have m4 : IntKind.i64.wrap (i - k) = i - k := IntWalk.i64_in _ (by omega)
  have m5 : IntKind.i64.wrap ((i - k) * x) = (i - k) * x := IntWalk.i64_in _ (by omega)
  have m6 : IntKind.i64.wrap ((i - k) * x * y) = (i - k) * x * y := IntWalk.i64_in _ (by omega)
  have m7 : IntKind.i64.wrap (f * y - g * x - (i - k) * x * y) = f * y - g * x - (i - k) * x * y := IntWalk.i64_in _ (by omega)
  have m8 : IntKind.i64.wrap (y - x) = y - x := IntWalk.i64_in _ (by omega)
  have m9 : IntKind.i64.wrap (-(f * y - g * x - (i - k) * x * y)) = -(f * y - g * x - (i - k) * x * y) := IntWalk.i64_in _ (by omega)
  have m10 : IntKind.i64.wrap (-(y - x)) = -(y - x) := IntWalk.i64_in _ (by omega)
  have hMb : M1 ≤ 4611686018427387904 ∧ M2 ≤ 4611686018427387904 := by
    by_cases hq : y - x < 0
    · rw [if_pos hq] at hM; injection hM with q1 q2; omega
    · rw [if_neg hq] at hM; injection hM with q1 q2; omega
  have hFr := Lib.hid (fun W => lowest_c M1 M2 W h2 h1 hMb.1 hMb.2)
  obtain ⟨NN, DD, hV⟩ : ∃ NN DD, fracV M1 M2 = .agg #[.int .i64 NN, .int .i64 DD] := ⟨_, _, rfl⟩
  rw [hV] at hFr ⊢
  clear hV
  clear a0 a1 b0 b1 c0 c1 d0 d1 e0 e1 r0 r1 s1 s2 i0 i1 f0 f1 k0 k1 g0 g1 x0 x1 y0 y1 h1 h2 hMb
  have hM' := Lib.hid hM
  clear hM
  have hb0 := heap_alloc_new w (.cells #[.int .i64 0, .int .i64 0] 86)
  have hB0 := below_new w (.cells #[.int .i64 0, .int .i64 0] 86)
  go_enter Tryz.func118, Tryz.ntmps118
  go_wp2_with fail
  refine (hLa.out _ (ha.alloc _)).mono ?_; rintro e w1 ⟨rfl, B1⟩
  have hb1 := blk_below hb0 B1
  have hB1 := below_next hB0 B1
  have hb' := (hb.alloc (.cells #[.int .i64 0, .int .i64 0] 86)).below B1
  clear hb0 hB0 B1 hLa
  go_wp2_with fail
  refine (hLb.out _ hb').mono ?_; rintro e w2 ⟨rfl, B2⟩
  have hb2 := blk_below hb1 B2
  have hB2 := below_next hB1 B2
  clear hb1 hB1 B2 hLb hb'
  by_cases hq : y - x < 0
  · have hMe := hM'.out
    rw [if_pos hq] at hMe
    injection hMe with q1 q2
    subst q1 q2
    clear hM'
    go_wp2_with fail
    refine (hFr.out _).mono ?_; rintro e w3 ⟨rfl, B3⟩
    obtain ⟨Z, Y⟩ := blk_facts (blk_below hb2 B3)
    have hB3 := below_next hB2 B3
    clear hb2 hB2 B3 hFr
    go_wp2
    refine bodyPost_ret (v := .agg #[.int .i64 NN, .int .i64 DD]) (by simp [results, Tryz.results118, go_sem, Z]) rfl ⟨rfl, ?_⟩
    exact (hB3.setCell (by simp) _).setCell (by simp) _
  · have hMe := hM'.out
    rw [if_neg hq] at hMe
    injection hMe with q1 q2
    subst q1 q2
    clear hM'
    go_wp2_with fail
    refine (hFr.out _).mono ?_; rintro e w3 ⟨rfl, B3⟩
    obtain ⟨Z, Y⟩ := blk_facts (blk_below hb2 B3)
    have hB3 := below_next hB2 B3
    clear hb2 hB2 B3 hFr
    go_wp2
    refine bodyPost_ret (v := .agg #[.int .i64 NN, .int .i64 DD]) (by simp [results, Tryz.results118, go_sem, Z]) rfl ⟨rfl, ?_⟩
    exact (hB3.setCell (by simp) _).setCell (by simp) _
end Go.Proofs.YtlddeeagnlgciaaGreatDoor

/- race.ahead; a swimmer by name: race.find, the reference's SplitsOf; small errors. -/
namespace Go.Proofs.YtlddeeagnlgciaaGreatDoor
open Go.RowKit
set_option linter.unusedVariables false

set_option maxHeartbeats 1600000 in
set_option maxRecDepth 100000 in
theorem ahead_c' (r : Race) (A B : Option Addr) (n c m d : Nat) (la lb : List Int) (t : Int) (w : World) (ha : RI 3 w A n la) (hb : RI 3 w B m lb) (ha0 : wholeErr r la = 0) (hb0 : wholeErr r lb = 0) (ht0 : 0 ≤ t) (ht1 : t ≤ 360000) :
    Calls Tryz.prog 173 #[r.val, .slice A n c, .slice B m d, .int .i64 t] w fun e w' => e = .returned (.int .i64 (sideP r.course (r.metres * r.legs) la lb t)) ∧ Below w.heap.size w w' := by
  have hWa := Lib.hid (fun W h => where_c r A n c la t W h ha0 ht0 ht1)
  have hWb := Lib.hid (fun W h => where_c r B m d lb t W h hb0 ht0 ht1)
  obtain ⟨a0, a1, a2, a3⟩ := farP_bd ha0 ht0 ht1
  obtain ⟨b0, b1, b2, b3⟩ := farP_bd hb0 ht0 ht1
  have hS : Hid (Lib.compareInt ((farP r.course (r.metres * r.legs) la t).1 * (farP r.course (r.metres * r.legs) lb t).2) ((farP r.course (r.metres * r.legs) lb t).1 * (farP r.course (r.metres * r.legs) la t).2) = sideP r.course (r.metres * r.legs) la lb t) := Lib.hid rfl
  generalize sideP r.course (r.metres * r.legs) la lb t = SP at *
  generalize farP r.course (r.metres * r.legs) la t = PA at *
  generalize farP r.course (r.metres * r.legs) lb t = PB at *
  obtain ⟨p1, p2⟩ := PA
  obtain ⟨q1, q2⟩ := PB
  dsimp only at *
  clear ha0 hb0
  have w1 : IntKind.i64.wrap (p1 * q2) = p1 * q2 := by have := mul_in a0 a1 (Int.le_of_lt b2) b3; exact IntWalk.i64_in _ (by omega)
  have w2 : IntKind.i64.wrap (q1 * p2) = q1 * p2 := by have := mul_in b0 b1 (Int.le_of_lt a2) a3; exact IntWalk.i64_in _ (by omega)
  have hcon := Lib.hid (fun W' => Tryz.cmp_Compare_int (p1 * q2) (q1 * p2) W')
  obtain ⟨key, metres, stroke, course, legs, sex, young, old⟩ := r
  dsimp only [Race.val, Race.cells] at *
  have hr0 := heap_alloc_new w (.cells #[.string key, .int .i64 metres, .int .i64 stroke, .int .i64 course, .int .i64 legs, .int .i64 sex, .int .i64 young, .int .i64 old] 27)
  have zz := (blk_facts hr0).1
  go_enter Tryz.func173, Tryz.ntmps173
  go_wp2_with fail
  refine (hWa.out _ (ha.alloc _)).mono ?_; rintro e w1 ⟨rfl, B1⟩
  have hr1 := blk_below hr0 B1
  have hB1 := below_box B1
  have hb1 := hb.below hB1
  have z1 := (blk_facts hr1).1
  clear hr0 zz B1 hWa
  go_wp2_with fail
  refine (hWb.out _ hb1).mono ?_; rintro e w2 ⟨rfl, B2⟩
  have hB2 := below_next hB1 B2
  clear hr1 hB1 z1 B2 hWb
  go_wp2_with fail
  refine (hcon.out _).mono ?_; rintro e w' ⟨rfl, rfl⟩
  rw [hS.out]
  go_wp2
  go_ret
  exact ⟨rfl, hB2⟩
/-- the first swimmer of a name: the number, or nothing -/
def whoIx (w0 : ByteArray) : List Sw → Nat → Option Nat
  | [], _ => none
  | x :: l, k => if x.who = w0 then some k else whoIx w0 l (k + 1)
theorem whoIx_at {w0 : ByteArray} {l : List Sw} {j : Nat} {x : Sw} (h : l[j]? = some x) (k : Nat) : whoIx w0 (l.drop j) k = if x.who = w0 then some k else whoIx w0 (l.drop (j + 1)) (k + 1) := by rw [drop_at h]; rfl
/-- a swimmer's splits in memory: which slice -/
def spOf (w0 : ByteArray) (l : List Sw) : Option Sw := l.find? fun x => decide (x.who = w0)
def spV : Option Sw → Value
  | some x => .slice x.A x.n x.c
  | none => .slice none 0 0
theorem spOf_at {w0 : ByteArray} {l : List Sw} {j : Nat} {x : Sw} (h : l[j]? = some x) : spOf w0 (l.drop j) = if x.who = w0 then some x else spOf w0 (l.drop (j + 1)) := by
  rw [drop_at h]
  unfold spOf
  rw [List.find?_cons]
  by_cases hw : x.who = w0 <;> simp [hw]
set_option maxHeartbeats 1600000 in
set_option maxRecDepth 100000 in
theorem splitsOf_c (A : Option Addr) (n c : Nat) (l : List Sw) (w0 : ByteArray) (w : World) (h : RSw w A n l) :
    Calls Tryz.prog 39 #[.slice A n c, .string w0] w fun e w' => e = .returned (spV (spOf w0 l)) ∧ Below w.heap.size w w' := by
  have hl := Lib.hid h.len
  have hbd := h.bd
  have hG := Lib.hid (fun k x (hx : l[k]? = some x) => spOf_at (w0 := w0) hx)
  have hP : Hid (spV (spOf w0 (l.drop 0)) = spV (spOf w0 l)) := Lib.hid rfl
  have hG0 := Lib.hid (show spOf w0 [] = none from rfl)
  generalize spV (spOf w0 l) = V at *
  generalize spOf w0 = SO at *
  go_enter Tryz.func39, Tryz.ntmps39
  go_wp2_with fail
  go_loopw [9] (fun i wr => ∃ k : Nat, k ≤ n ∧ i = .int .i64 k ∧ Below w.heap.size w wr ∧ Hid (spV (SO (l.drop k)) = V)) (fun i _ => n - (intOf i).toNat)
  case atStart => exact ⟨0, Nat.zero_le _, rfl, Below.refl _ _, hP⟩
  case round =>
    obtain ⟨k, hk, rfl, hB, hH⟩ := hrel
    by_cases hlt : k < n
    · obtain ⟨b, off, x, rfl, hbl, hx, c0, c1, _⟩ := (h.below hB).at2 hlt
      have hS := Lib.hid (hG.out k x hx)
      have hB5 := hB.alloc hB.size (.cells #[.string x.who, .slice x.A x.n x.c] 34)
      have hx5 := heap_alloc_new wr (.cells #[.string x.who, .slice x.A x.n x.c] 34)
      have z0 := (blk_facts hx5).1 0
      have z1 := (blk_facts hx5).1 1
      obtain ⟨who, xA, xn, xc, xs⟩ := x
      dsimp only at *
      clear hx hx5
      by_cases hw : who = w0
      · have hN := Lib.hid (show Value.slice xA xn xc = V by rw [← hH.out, hS.out, if_pos hw]; rfl)
        have hq : (who.toList == w0.toList) = true := by rw [hw]; simp
        clear hS hw
        go_wp2
        go_ret
        exact ⟨by rw [← hN.out]; rfl, hB5⟩
      · have hN := Lib.hid (show spV (SO (l.drop (k + 1))) = V by rw [← hH.out, hS.out, if_neg hw])
        have hq : (who.toList == w0.toList) = false := str_neWh hw
        clear hS hw
        go_wp2
        go_roundw
        case rel => exact ⟨k + 1, by omega, by go_num, hB5, hN⟩
        case measure => simp [intOf]; omega
    · obtain rfl : k = n := by omega
      have hN := Lib.hid (show Value.slice none 0 0 = V by rw [← hH.out, drop_end (by rw [hl.out]; exact Nat.le_refl _), hG0.out]; rfl)
      go_wp2
      go_ret
      exact ⟨by rw [← hN.out]; rfl, hB⟩
def fstW (w0 : ByteArray) : List Sw → Int → Int
  | [], _ => -1
  | x :: r, k => if x.who = w0 then k else fstW w0 r (k + 1)
theorem fstW_at {w0 : ByteArray} {l : List Sw} {j : Nat} {x : Sw} (k : Int) (h : l[j]? = some x) : fstW w0 (l.drop j) k = if x.who = w0 then k else fstW w0 (l.drop (j + 1)) (k + 1) := by rw [drop_at h]; rfl
/-- the number leads to the same swimmer -/
theorem fstW_spOf (w0 : ByteArray) : ∀ (l : List Sw) (k : Nat), (spOf w0 l = none ∧ fstW w0 l k = -1) ∨ ∃ (j : Nat) (x : Sw), fstW w0 l k = ((k + j : Nat) : Int) ∧ l[j]? = some x ∧ spOf w0 l = some x ∧ x.who = w0
  | [], k => .inl ⟨rfl, rfl⟩
  | y :: r, k => by
    unfold fstW
    by_cases hy : y.who = w0
    · exact .inr ⟨0, y, by rw [if_pos hy]; rfl, rfl, by simp [spOf, hy], hy⟩
    · rw [if_neg hy]
      have e : ((k : Int) + 1) = ((k + 1 : Nat) : Int) := by omega
      have hs : spOf w0 (y :: r) = spOf w0 r := by simp [spOf, hy]
      rw [e, hs]
      rcases fstW_spOf w0 r (k + 1) with h | ⟨j, x, h1, h2, h3, h4⟩
      · exact .inl h
      · exact .inr ⟨j + 1, x, by rw [h1]; congr 1; omega, by simpa using h2, h3, h4⟩
set_option maxHeartbeats 1600000 in
set_option maxRecDepth 100000 in
theorem findIs_c (who w0 : ByteArray) (A : Option Addr) (xn xc B : Nat) (W : World) (hB : W.cell? ⟨B, 0, none⟩ = some (.string w0)) (lB : B < W.heap.size) :
    Calls Tryz.prog 171 #[.agg #[.string who, .slice A xn xc], .pointer (some ⟨B, 0, none⟩)] W fun e w' => e = .returned (.bool (decide (who = w0))) ∧ Below W.heap.size W w' := by
  have hn5 := heap_alloc_new W (.cells #[.string who, .slice A xn xc] 34)
  have y0 := (blk_facts hn5).1 0
  have y1 := (blk_facts hn5).1 1
  have cB : (W.alloc (.cells #[.string who, .slice A xn xc] 34)).cell? ⟨B, 0, none⟩ = some (.string w0) := (World.cell?_alloc_lt W _ ⟨B, 0, none⟩ lB).trans hB
  have hBl := below_new W (.cells #[.string who, .slice A xn xc] 34)
  clear hn5 hB
  by_cases h : who = w0
  · subst h
    go_enter Tryz.func171, Tryz.ntmps171
    go_wp2
    go_ret
    exact ⟨by simp, hBl⟩
  · have hne : (who.toList == w0.toList) = false := str_neWh h
    have hd : decide (who = w0) = false := decide_eq_false h
    rw [hd]
    clear h hd
    go_enter Tryz.func171, Tryz.ntmps171
    go_wp2
    go_ret
    exact ⟨by simp, hBl⟩
set_option maxHeartbeats 1600000 in
set_option maxRecDepth 100000 in
theorem findIx_c (A : Option Addr) (m d : Nat) (l : List Sw) (w0 : ByteArray) (B : Nat) (w : World) (h : RSw w A m l) (hm : m ≤ 1000) (hB : w.cell? ⟨B, 0, none⟩ = some (.string w0)) (lB : B < w.heap.size) :
    Calls Tryz.prog 170 #[.slice A m d, .func (.func 171) #[] #[.pointer (some ⟨B, 0, none⟩)]] w fun e w' => e = .returned (.int .i64 (fstW w0 l 0)) ∧ Below w.heap.size w w' := by
  have hl := Lib.hid h.len
  have hW := Lib.hid (fun who A xn xc W (hb : Below w.heap.size w W) => findIs_c who w0 A xn xc B W ((hb.cell (p := ⟨B, 0, none⟩) lB).trans hB) (Nat.lt_of_lt_of_le lB hb.size))
  generalize hE : fstW w0 l 0 = E
  have hE' := Lib.hid hE
  clear hE hB lB
  go_enter Tryz.func170, Tryz.ntmps170
  go_wp2_with fail
  go_loopw [8] (fun i wr => ∃ k : Nat, k ≤ m ∧ i = .int .i64 k ∧ Below w.heap.size w wr ∧ Hid (fstW w0 (l.drop k) k = E)) (fun i _ => m - (intOf i).toNat)
  case atStart => exact ⟨0, Nat.zero_le _, rfl, Below.refl _ _, Lib.hid hE'.out⟩
  case round =>
    obtain ⟨k, hk, rfl, hBl, hF⟩ := hrel
    by_cases hlt : k < m
    · obtain ⟨bs, os, x, hA, hbl, hx, c0, c1, hI⟩ := (h.below hBl).at2 hlt
      subst hA
      have hT := Lib.hid (fstW_at (w0 := w0) (k : Int) hx)
      obtain ⟨who, xA, xn, xc, xs⟩ := x
      dsimp only at *
      clear hx hI
      go_wp2_with fail
      refine (hW.out _ _ _ _ _ hBl).mono ?_; rintro e w2 ⟨rfl, B2⟩
      have hB2 := below_next hBl B2
      by_cases hq : who = w0
      · have hq' := Lib.hid hq
        rw [decide_eq_true hq]
        clear hq
        go_wp2
        go_ret
        exact ⟨ret_i (by rw [← hF.out, hT.out, if_pos hq'.out]), hB2⟩
      · have hq' := Lib.hid hq
        rw [decide_eq_false hq]
        clear hq
        go_wp2
        go_roundw
        case rel => exact ⟨k + 1, by omega, by go_num, hB2, Lib.hid (by rw [← hF.out, hT.out, if_neg hq'.out]; rfl)⟩
        case measure => simp [intOf]; omega
    · obtain rfl : k = m := by omega
      go_wp2
      go_ret
      exact ⟨ret_i (by rw [← hF.out, drop_end (by rw [hl.out]; exact Nat.le_refl _)]; rfl), hBl⟩
theorem find_c (A : Option Addr) (m d : Nat) (l : List Sw) (w0 : ByteArray) (w : World) (h : RSw w A m l) (hm : m ≤ 1000) :
    Calls Tryz.prog 113 #[.slice A m d, .string w0] w fun e w' => e = .returned (.int .i64 (fstW w0 l 0)) ∧ Below w.heap.size w w' := by
  have hb0 := heap_alloc_new w (.cells #[.string w0] 9)
  have hI := Lib.hid (findIx_c A m d l w0 w.heap.size (w.alloc (.cells #[.string w0] 9)) (h.alloc _) hm ((blk_facts hb0).1 0) (lt_of_heap hb0))
  clear hb0
  generalize fstW w0 l 0 = E at *
  go_enter Tryz.func113, Tryz.ntmps113
  go_wp2_with fail
  refine hI.out.mono ?_; rintro e w1 ⟨rfl, B1⟩
  have hB1 := below_box B1
  clear hI
  go_wp2
  go_ret
  exact ⟨rfl, hB1⟩
end Go.Proofs.YtlddeeagnlgciaaGreatDoor
