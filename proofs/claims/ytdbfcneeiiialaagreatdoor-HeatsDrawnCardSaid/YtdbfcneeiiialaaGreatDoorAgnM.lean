import Derived.Test.YtdbfcneeiiialaaGreatDoorDelC
import Derived.Test.YtdbfcneeiiialaaGreatDoorScrP
import Derived.Test.YtdbfcneeiiialaaGreatDoorSymB
import Derived.Test.YtdbfcneeiiialaaGreatDoorP50
import Derived.Test.YtdbfcneeiiialaaGreatDoorDrawP
import Derived.Test.YtdbfcneeiiialaaGreatDoorGoneC
/- slices.DeleteFunc of seeds in a row of the call's own by any test: tumbref1.AgainOf$1. Printed by wip/mkdels.py. -/
namespace Go.Proofs.YtdbfcneeiiialaaGreatDoor
open Go.RowKit Go.Shelf Go.Lib Go.Sort
set_option linter.unusedVariables false

def Idx46 (p : Sd → Bool) (l : List Sd) (n : Nat) (i : Int) : Prop := (i = -1 ∧ ∀ x ∈ l, p x = false) ∨ ∃ k : Nat, i = (k : Int) ∧ k < n ∧ (∃ x, l[k]? = some x ∧ p x = true) ∧ ∀ x ∈ l.take k, p x = false
set_option maxRecDepth 100000 in
theorem index46_c (p : Sd → Bool) (p1 : Nat) (A : Option Addr) (n c : Nat) (l : List Sd) (w : World) (h : RSd w A n l) (hP : ∀ (x : Sd) W, Below w.heap.size w W → Calls Tryz.prog 131 #[.agg (sdE x).toArray, .pointer (some ⟨p1, 0, none⟩)] W fun e w' => e = .returned (.bool (p x)) ∧ Below W.heap.size W w') :
    Calls Tryz.prog 202 #[.slice A n c, .func (.func 131) #[] #[.pointer (some ⟨p1, 0, none⟩)]] w fun e w' => ∃ i, e = .returned (.int .i64 i) ∧ Idx46 p l n i ∧ Below w.heap.size w w' := by
  have hz := Lib.hid (fun x W B => hP x W B)
  have hR := Lib.hid (fun W B => h.below (w' := W) B)
  have hl := Lib.hid h.len
  have hbd := h.bd
  clear hP h
  go_enter Tryz.func202, Tryz.ntmps202
  go_wp2_with fail
  go_loopw [8] (fun i wr => ∃ k : Nat, k ≤ n ∧ i = .int .i64 k ∧ Below w.heap.size w wr ∧ Hid (∀ x ∈ l.take k, p x = false)) (fun i _ => n - (intOf i).toNat)
  case atStart => exact ⟨0, Nat.zero_le _, rfl, Below.refl _ _, Lib.hid (fun x hx => by simp at hx)⟩
  case round =>
    rename World => wr
    obtain ⟨k, hk, rfl, hB, hF⟩ := hrel
    by_cases hlt : k < n
    · obtain ⟨b, off, x, rfl, hbl, hx, c0, c1⟩ := RSd_at2 (hR.out _ hB) hlt
      have hx' := Lib.hid hx
      have hzx := Lib.hid (hz.out x wr hB)
      have hpx := Lib.hid (show p x = p x from rfl)
      obtain ⟨pb, hpb⟩ : ∃ pb, p x = pb := ⟨_, rfl⟩
      rw [hpb] at hzx
      have hpb' := Lib.hid hpb
      obtain ⟨who, time⟩ := x
      dsimp only [sdE] at *
      clear hx hpb hpx
      cases pb
      · have hF2 := Lib.hid (show ∀ x ∈ l.take (k + 1), p x = false from fun x hx => by
          rw [List.take_add_one, hx'.out] at hx
          rcases List.mem_append.1 hx with hx | hx
          · exact hF.out x hx
          · simp at hx; subst hx; exact hpb'.out)
        clear hF hx' hpb'
        go_wp2_with fail
        refine hzx.out.mono ?_; rintro e w1 ⟨rfl, B1⟩
        have hB1 := below_next hB B1
        go_wp2
        go_roundw
        case rel => exact ⟨k + 1, by omega, by go_num, hB1, hF2⟩
        case measure => simp [intOf]; omega
      · have hI := Lib.hid (show Idx46 p l n (k : Int) from .inr ⟨k, rfl, hlt, ⟨_, hx'.out, hpb'.out⟩, hF.out⟩)
        clear hF hx' hpb'
        go_wp2_with fail
        refine hzx.out.mono ?_; rintro e w1 ⟨rfl, B1⟩
        have hB1 := below_next hB B1
        go_wp2
        go_ret
        exact ⟨_, rfl, hI.out, hB1⟩
    · obtain rfl : k = n := by omega
      have hI := Lib.hid (show Idx46 p l k (-1) from .inl ⟨rfl, fun x hx => hF.out x (by rw [List.take_of_length_le (by rw [hl.out]; exact Nat.le_refl _)]; exact hx)⟩)
      go_wp2
      go_ret
      exact ⟨_, rfl, hI.out, hB⟩
theorem strike46 (p : Sd → Bool) (R l : List Sd) (i j : Nat) (x : Sd) (hR : R.take i = (l.take j).filter fun y => !p y) (hD : R.drop j = l.drop j) (hij : i ≤ j) (hx : l[j]? = some x) (hl : R.length = l.length) :
    (p x = true → R.take i = (l.take (j + 1)).filter fun y => !p y) ∧ (p x = false → (R.set i x).take (i + 1) = (l.take (j + 1)).filter fun y => !p y) ∧ R.drop (j + 1) = l.drop (j + 1) ∧ (R.set i x).drop (j + 1) = l.drop (j + 1) := by
  have hj := lt_of_at hx
  have ht : (l.take (j + 1)).filter (fun y => !p y) = (l.take j).filter (fun y => !p y) ++ if p x = false then [x] else [] := by
    rw [List.take_add_one, hx, List.filter_append]
    congr 1
    by_cases h : p x = true <;> simp [h]
  have hd : R.drop (j + 1) = l.drop (j + 1) := by
    have h1 : (R.drop j).drop 1 = (l.drop j).drop 1 := by rw [hD]
    rw [List.drop_drop, List.drop_drop] at h1
    exact h1
  refine ⟨fun h => by rw [ht, if_neg (by simp [h]), List.append_nil, hR], fun h => ?_, hd, ?_⟩
  · rw [ht, if_pos h, List.take_add_one, List.getElem?_set_self (by omega), List.take_set_of_le (Nat.le_refl _), hR]
    rfl
  · rw [List.drop_set_of_lt (by omega)]
    exact hd
set_option maxHeartbeats 3200000 in
set_option maxRecDepth 100000 in
theorem delete46_c (p : Sd → Bool) (p1 : Nat) (base : Nat) (u : Value) (n : Nat) (l : List Sd) (w : World) (hown : w.ownsRow base 40 2 u n (l.flatMap sdE)) (hn : n ≤ 1000) (hbw : base ≤ w.heap.size) (hP : ∀ (x : Sd) W, Keep 40 w W → Below base w W → Calls Tryz.prog 131 #[.agg (sdE x).toArray, .pointer (some ⟨p1, 0, none⟩)] W fun e w' => e = .returned (.bool (p x)) ∧ Below W.heap.size W w') :
    Calls Tryz.prog 130 #[u, .func (.func 131) #[] #[.pointer (some ⟨p1, 0, none⟩)]] w fun e w' => ∃ A' n' c', e = .returned (.slice A' n' c') ∧ w'.ownsRow base 40 2 (.slice A' n' c') n' ((l.filter fun y => !p y).flatMap sdE) ∧ n' ≤ n ∧ Below base w w' := by
  obtain ⟨A, c, rfl⟩ := own_shape hown
  have hlen := own_len sdE_len (by decide) hown
  have hR0 := RN.of_own sdE_len hown hlen (by omega)
  have hI := Lib.hid (index46_c p p1 A n c l w hR0 (fun x W B => hP x W (Keep.of_below B) (B.mono hbw)))
  have hz := Lib.hid hP
  have hbel := Lib.hid (fun w' (B : Below w.heap.size w w') => show Below base w w' from B.mono hbw)
  have hkb := Lib.hid (fun w' (B : Below w.heap.size w w') => Keep.of_below (T := 40) B)
  have hlen' := Lib.hid hlen
  clear hR0 hP
  go_enter Tryz.func130, Tryz.ntmps130
  go_wp2_with fail
  refine hI.out.mono ?_; rintro e w1 ⟨i, rfl, hix, B1⟩
  have ho1 := own_below hown B1
  have hB1 := hbel.out _ B1
  have hK1 := hkb.out _ B1
  clear hI hown
  rcases hix with ⟨rfl, hall⟩ | ⟨k, rfl, hk, ⟨y, hy, hy0⟩, hall⟩
  · have hf : (l.filter fun y => !p y) = l := List.filter_eq_self.2 (fun x hx => by simpa using hall x hx)
    have hf' := Lib.hid hf
    clear hall hf hz
    go_wp2
    go_ret
    exact ⟨A, n, c, rfl, by rw [hf'.out]; exact ho1, Nat.le_refl _, hB1⟩
  · obtain ⟨g, rfl, hg⟩ := own_someN ho1 (by omega)
    have hne : ((k : Int) == -1) = false := beq_eq_false_iff_ne.2 (by omega)
    have hz1 : base ≤ w1.heap.size := Nat.le_trans hbw B1.size
    have hT0 : l.take k = (l.take (k + 1)).filter fun y => !p y := by
      rw [List.take_add_one, hy, List.filter_append, List.filter_eq_self.2 (fun x hx => by simpa using hall x hx)]
      simp [hy0]
    have hT0' := Lib.hid hT0
    clear hT0 hall hy hy0
    go_wp2_with fail
    go_loopw [5, 6] (fun iv jv wr => ∃ (i j : Nat) (R : List Sd), iv = .int .i64 i ∧ jv = .int .i64 j ∧ i < j ∧ j ≤ n ∧ Hid (R.length = n) ∧ wr.ownsRow base 40 2 (.slice (some ⟨g, 0, none⟩) n c) n (R.flatMap sdE) ∧ Below base w wr ∧ base ≤ wr.heap.size ∧ Keep 40 w wr ∧ Hid (R.take i = (l.take j).filter fun y => !p y) ∧ Hid (R.drop j = l.drop j)) (fun _ jv _ => n - (intOf jv).toNat)
    case atStart => exact ⟨k, k + 1, l, rfl, by go_num, by omega, by omega, hlen', ho1, hB1, hz1, hK1, hT0', Lib.hid rfl⟩
    case round =>
      clear ho1 hB1 hz1 hK1
      rename World => wr
      obtain ⟨i, j, R, rfl, rfl, hij, hj, hRl, hown, hB, hzz, hK, hRt, hRd⟩ := hrel
      by_cases hlt : j < n
      · obtain ⟨x, hx⟩ := at_of_lt (l := l) (k := j) (by rw [hlen'.out]; exact hlt)
        have hRx : R[j]? = some x := by
          have h1 : (R.drop j)[0]? = (l.drop j)[0]? := by rw [hRd.out]
          rw [List.getElem?_drop, List.getElem?_drop, Nat.add_zero] at h1
          rw [h1, hx]
        obtain ⟨q1, q2, q3, q4⟩ := strike46 p R l i j x hRt.out hRd.out (by omega) hx (by rw [hRl.out, hlen'.out])
        have hRR : RSd wr (some ⟨g, 0, none⟩) n R := RN.of_own sdE_len hown hRl.out (by omega)
        obtain ⟨b, off, x2, hA, hbl, hx2, c0, c1⟩ := RSd_at2 hRR hlt
        injection hA with hA
        injection hA with e1 e2
        subst e1 e2
        rw [hRx] at hx2
        obtain rfl := Option.some.inj hx2
        obtain ⟨r, hr⟩ := at_of_lt (l := R) (k := i) (by rw [hRl.out]; omega)
        have hst1 := Lib.hid (sd_set2 (l := R) (k := i) (lt_of_at hr) x)
        rw [Nat.zero_add] at c0 c1
        have hn5 := heap_alloc_new wr (.cells (sdE x).toArray 40)
        have hBn := below_new wr (.cells (sdE x).toArray 40)
        have hzx := Lib.hid (hz.out x (wr.alloc (.cells (sdE x).toArray 40)) (hK.trans (Keep.of_below hBn)) (hB.trans (hBn.mono hzz)))
        obtain ⟨pb, hpb⟩ : ∃ pb, p x = pb := ⟨_, rfl⟩
        rw [hpb] at hzx q1 q2
        have hq1 := Lib.hid q1
        have hq2 := Lib.hid q2
        have hq3 := Lib.hid q3
        have hq4 := Lib.hid q4
        obtain ⟨who, time⟩ := x
        dsimp only [sdE] at *
        have hown5 := own_below hown hBn
        have hB5 := hB.trans (hBn.mono hzz)
        have hK5 := hK.trans (Keep.of_below hBn)
        have hz5 : base ≤ (wr.alloc (.cells #[.string who, .int .i64 time] 40)).heap.size := Nat.le_trans hzz hBn.size
        clear hx hRx hx2 hr hRR q1 q2 q3 q4 hRt hRd hown hB hpb hBn hK
        cases pb
        rotate_left
        · have hT := Lib.hid (hq1.out (by first | rfl | trivial))
          clear hq1 hq2 hq4 hst1
          go_wp2_with fail
          refine hzx.out.mono ?_; rintro e w5 ⟨rfl, B5⟩
          have hown6 := own_below hown5 B5
          have hB6 := hB5.trans (B5.mono hz5)
          have hz6 : base ≤ w5.heap.size := Nat.le_trans hz5 B5.size
          have hK6 := hK5.trans (Keep.of_below B5)
          clear hown5 B5 hB5 hn5 hK5
          go_wp2
          go_roundw
          case rel => exact ⟨i, j + 1, R, rfl, by go_num, by omega, by omega, hRl, hown6, hB6, hz6, hK6, hT, hq3⟩
          case measure => simp [intOf]; omega
        · have hT := Lib.hid (hq2.out (by first | rfl | trivial))
          clear hq1 hq2 hq3
          go_wp2_with fail
          refine hzx.out.mono ?_; rintro e w5 ⟨rfl, B5⟩
          have hown6 := own_below hown5 B5
          have hB6 := hB5.trans (B5.mono hz5)
          have hz6 : base ≤ w5.heap.size := Nat.le_trans hz5 B5.size
          have hK6 := hK5.trans (Keep.of_below B5)
          have hb6 := blk_below hn5 B5
          have y0 := (blk_facts hb6).1 0
          have y1 := (blk_facts hb6).1 1
          have f0 := hown6.frozenAt (i * 2)
          have f1 := hown6.frozenAt (i * 2 + 1)
          obtain ⟨b', off', r', hA', _, hr', d0, d1⟩ := RSd_at2 (RN.of_own sdE_len hown6 hRl.out (by omega)) (k := i) (by omega)
          injection hA' with hA'
          injection hA' with e1 e2
          subst e1 e2
          rw [Nat.zero_add] at d0 d1
          have hs1 := hown6.stored (i * 2) (.string who)
          have hs2 := hs1.1.stored (i * 2 + 1) (.int .i64 time)
          have hgr := (grown_trans hs1.2 hs2.2)
          rw [hst1.out] at hs2
          have ho7 := hs2.1
          have hB7 := below_own hB6 hown6 hgr hz6 (Nat.le_refl _)
          have hK7 := hK6.trans (keep_ownSp hown6 hgr)
          have hz7 := Nat.le_trans hz6 hgr.size
          have hRl7 := Lib.hid (show (R.set i ⟨who, time⟩).length = n by rw [List.length_set]; exact hRl.out)
          have H7 := Lib.hid (And.intro ho7 (And.intro hB7 (And.intro hz7 hK7)))
          clear hs1 hs2 hgr ho7 hB7 hz7 hK7 hown6 hB6 hst1 hr' hK6 hown5 B5 hB5 hn5 hK5
          go_wp2
          go_roundw
          case rel => exact ⟨i + 1, j + 1, _, by go_num, by go_num, by omega, by omega, hRl7, H7.out.1, H7.out.2.1, H7.out.2.2.1, H7.out.2.2.2, hT, hq4⟩
          case measure => simp [intOf]; omega
      · obtain rfl : j = n := by omega
        have hfin : R.take i = l.filter fun y => !p y := by rw [hRt.out, List.take_of_length_le (by rw [hlen'.out]; exact Nat.le_refl _)]
        have hk := own_takeN hown (k := i) (by omega)
        have hfl : (R.flatMap sdE).take (i * 2) = (R.take i).flatMap sdE := flat_take R i
        rw [hfl, hfin] at hk
        have hzc : (Builtin.zeroCells (Value.agg #[.string ⟨#[]⟩, .int .i64 0]).cells (j - i)).toList.length = (j - i) * 2 := by rw [Array.length_toList, size_zeroCells]; rfl
        have hzo : ∀ v ∈ (Builtin.zeroCells (Value.agg #[.string ⟨#[]⟩, .int .i64 0]).cells (j - i)).toList, v.oneCell' = true := zc_one (j - i)
        obtain ⟨cur, hgb, hcs, hcap⟩ := own_blk hown
        have hcl : ∀ ty, (Builtin.clear_ #[26] ty #[.slice (some ⟨g, i * 2, none⟩) (j - i) (c - i)]).run Tryz.prog wr = .ok (.tuple #[]) (wr.setCells g (i * 2) (Builtin.zeroCells (Value.agg #[.string ⟨#[]⟩, .int .i64 0]).cells (j - i)).toList) :=
          fun ty => run_clearN wr _ _ ty _ Tryz.underlying26 Tryz.zeroValue40 g (i * 2) (j - i) (c - i) (by omega) hzo (fun t ht => by rw [(blk_facts hgb).1, Array.getElem?_eq_getElem (by omega)]; rfl) (fun t ht => (blk_facts hgb).2 _)
        obtain ⟨h8, h9⟩ := own_setCells (Builtin.zeroCells (Value.agg #[.string ⟨#[]⟩, .int .i64 0]).cells (j - i)).toList (i * 2) wr hk (Nat.le_refl _)
        have hB9 := below_own hB hk h9 hzz (Nat.le_refl _)
        have hci : ¬ c = i := by omega
        have j0 : (0 : Int) ≤ (i : Int) := by omega
        have j1 : (i : Int) ≤ (j : Int) := by omega
        have j2 : (j : Int) ≤ (c : Int) := by omega
        have j3 : (i : Int) ≤ (c : Int) := by omega
        generalize (Builtin.zeroCells (Value.agg #[.string ⟨#[]⟩, .int .i64 0]).cells (j - i)).toList = zcs at *
        clear hzc hzo hgb hown hk hfl hfin hRt hRd hcs
        go_wp2
        go_ret
        exact ⟨_, i, c, rfl, h8, by omega, hB9⟩
set_option maxRecDepth 100000 in
theorem idxG46_c (F : Nat) (hcf : ∀ (args : Array Value) (W : World), (callFunc F args).run Tryz.prog W = .ok (.enter F args) W) (caps : Array Value) (p : Sd → Bool) (A : Option Addr) (n c : Nat) (l : List Sd) (w : World) (h : RSd w A n l) (hP : ∀ (x : Sd), x ∈ l → ∀ W, Below w.heap.size w W → Calls Tryz.prog F (#[.agg (sdE x).toArray] ++ caps) W fun e w' => e = .returned (.bool (p x)) ∧ Below W.heap.size W w') :
    Calls Tryz.prog 202 #[.slice A n c, .func (.func F) #[] caps] w fun e w' => ∃ i : Int, e = .returned (.int .i64 i) ∧ ((i = -1 ∧ ∀ x ∈ l, p x = false) ∨ ∃ (k : Nat) (x : Sd), i = k ∧ l[k]? = some x ∧ p x = true) ∧ Below w.heap.size w w' := by
  have hz := Lib.hid hP
  have hR := Lib.hid (fun W B => h.below (w' := W) B)
  have hl := Lib.hid h.len
  have hbd := h.bd
  clear hP h
  go_enter Tryz.func202, Tryz.ntmps202
  go_wp2_with fail
  go_loopw [8] (fun i wr => ∃ k : Nat, k ≤ n ∧ i = .int .i64 k ∧ Below w.heap.size w wr ∧ Hid (∀ x ∈ l.take k, p x = false)) (fun i _ => n - (intOf i).toNat)
  case atStart => exact ⟨0, Nat.zero_le _, rfl, Below.refl _ _, Lib.hid (fun x hx => by simp at hx)⟩
  case round =>
    rename World => wr
    obtain ⟨k, hk, rfl, hB, hF⟩ := hrel
    by_cases hlt : k < n
    · obtain ⟨b, off, x, rfl, hbl, hx, c0, c1⟩ := RSd_at2 (hR.out _ hB) hlt
      have hx' := Lib.hid hx
      have hzx := Lib.hid (hz.out x (List.mem_of_getElem? hx) wr hB)
      obtain ⟨pb, hpb⟩ : ∃ pb, p x = pb := ⟨_, rfl⟩
      rw [hpb] at hzx
      have hpb' := Lib.hid hpb
      obtain ⟨wo, ht⟩ := x
      dsimp only [sdE] at *
      clear hx hpb
      cases pb
      · have hF2 := Lib.hid (show ∀ x ∈ l.take (k + 1), p x = false from fun x hx => by
          rw [List.take_add_one, hx'.out] at hx
          rcases List.mem_append.1 hx with hx | hx
          · exact hF.out x hx
          · simp at hx; subst hx; exact hpb'.out)
        clear hF hx' hpb'
        go_wp2_with fail
        refine hzx.out.mono ?_; rintro e w1 ⟨rfl, B1⟩
        have hB1 := below_next hB B1
        go_wp2
        go_roundw
        case rel => exact ⟨k + 1, by omega, by go_num, hB1, hF2⟩
        case measure => simp [intOf]; omega
      · go_wp2_with fail
        refine hzx.out.mono ?_; rintro e w1 ⟨rfl, B1⟩
        have hB1 := below_next hB B1
        go_wp2
        go_ret
        exact ⟨_, rfl, .inr ⟨k, _, rfl, hx'.out, hpb'.out⟩, hB1⟩
    · obtain rfl : k = n := by omega
      have hI := Lib.hid (show ∀ x ∈ l, p x = false from fun x hx => hF.out x (by rw [List.take_of_length_le (by rw [hl.out]; exact Nat.le_refl _)]; exact hx))
      go_wp2
      go_ret
      exact ⟨_, rfl, .inl ⟨rfl, hI.out⟩, hB⟩
theorem hasG46_c (F : Nat) (hcf : ∀ (args : Array Value) (W : World), (callFunc F args).run Tryz.prog W = .ok (.enter F args) W) (caps : Array Value) (p : Sd → Bool) (A : Option Addr) (n c : Nat) (l : List Sd) (w : World) (h : RSd w A n l) (hP : ∀ (x : Sd), x ∈ l → ∀ W, Below w.heap.size w W → Calls Tryz.prog F (#[.agg (sdE x).toArray] ++ caps) W fun e w' => e = .returned (.bool (p x)) ∧ Below W.heap.size W w') :
    Calls Tryz.prog 123 #[.slice A n c, .func (.func F) #[] caps] w fun e w' => e = .returned (.bool (l.any p)) ∧ Below w.heap.size w w' := by
  have hI := Lib.hid (idxG46_c F hcf caps p A n c l w h hP)
  clear hP h
  go_enter Tryz.func123, Tryz.ntmps123
  go_wp2_with fail
  refine hI.out.mono ?_; rintro e w1 ⟨i, rfl, hi, B1⟩
  have hi' : Hid (decide (0 ≤ i) = l.any p) := Lib.hid (by
    rcases hi with ⟨rfl, hi⟩ | ⟨k, x, rfl, hx, hp⟩
    · rw [decide_eq_false (by decide), eq_comm, List.any_eq_false]
      intro x hx
      simp [hi x hx]
    · rw [decide_eq_true (by omega), eq_comm, List.any_eq_true]
      exact ⟨_, List.mem_of_getElem? hx, hp⟩)
  clear hi
  go_wp2
  go_ret
  exact ⟨by rw [← hi'.out]; rfl, B1⟩
theorem same46_c (x : Sd) (s : ByteArray) (b2 : Nat) (W : World) (hb : W.heap[b2]? = some (.cells #[.string s] 9 (0, 0))) :
    Calls Tryz.prog 124 (#[.agg (sdE x).toArray] ++ #[.pointer (some ⟨b2, 0, none⟩)]) W fun e w' => e = .returned (.bool (decide (x.who = s))) ∧ Below W.heap.size W w' := by
  obtain ⟨who, time⟩ := x
  dsimp only [sdE] at *
  have z0 := (blk_facts (heap_alloc_new W (.cells #[.string who, .int .i64 time] 40))).1 0
  have zs := (blk_facts (blk_alloc hb (.cells #[.string who, .int .i64 time] 40))).1 0
  have hB := below_new W (.cells #[.string who, .int .i64 time] 40)
  have lb := lt_of_heap hb
  clear hb
  by_cases h : who = s
  · subst h
    go_enter Tryz.func124, Tryz.ntmps124
    go_wp2
    go_ret
    exact ⟨by simp, hB⟩
  · have hn := str_ne h
    have h' := Lib.hid h
    clear h
    go_enter Tryz.func124, Tryz.ntmps124
    go_wp2
    go_ret
    exact ⟨by simp [h'.out], hB⟩
theorem any_who46 (l : List Sd) (s : ByteArray) : (l.any fun x => decide (x.who = s)) = Lib.containsS (l.map Sd.who) s := by
  rw [Bool.eq_iff_iff, List.any_eq_true, Lib.containsS_iff, List.mem_map]
  constructor
  · rintro ⟨x, h1, h2⟩; exact ⟨x, h1, of_decide_eq_true h2⟩
  · rintro ⟨x, h1, h2⟩; exact ⟨x, h1, decide_eq_true h2⟩
theorem member46_c (A : Option Addr) (n c : Nat) (l : List Sd) (s : ByteArray) (b4 : Nat) (w : World) (h : RSd w A n l) (hb : w.heap[b4]? = some (.cells #[.slice A n c] 26 (0, 0))) :
    Calls Tryz.prog 122 (#[.string s] ++ #[.pointer (some ⟨b4, 0, none⟩)]) w fun e w' => e = .returned (.bool (Lib.containsS (l.map Sd.who) s)) ∧ Below w.heap.size w w' := by
  have z4 := (blk_facts (blk_alloc hb (.cells #[.string s] 9))).1 0
  have lb := lt_of_heap hb
  have hbs := heap_alloc_new w (.cells #[.string s] 9)
  have hB := below_new w (.cells #[.string s] 9)
  have hCF := Lib.hid (hasG46_c 124 (enters_of Tryz.func124 (by kernel_rfl) rfl) #[.pointer (some ⟨w.heap.size, 0, none⟩)] (fun x => decide (x.who = s)) A n c l _ (h.below hB) (fun x _ W B => same46_c x s w.heap.size W (blk_below hbs B)))
  rw [any_who46] at hCF
  generalize Lib.containsS (l.map Sd.who) s = R at *
  clear h hb hbs
  go_enter Tryz.func122, Tryz.ntmps122
  go_wp2_with fail
  refine hCF.out.mono ?_; rintro e w1 ⟨rfl, B1⟩
  have hB1 := below_next hB B1
  go_wp2
  go_ret
  exact ⟨rfl, hB1⟩
set_option maxRecDepth 100000 in
theorem delC46_c (p1 : Nat) (A : Option Addr) (n c : Nat) (a : List ByteArray) (y : Sd) (w : World) (h : RS 9 w A n a) (h1 : w.heap[p1]? = some (.cells #[.slice A n c] 99 (0, 0))) :
    Calls Tryz.prog 131 #[.agg (sdE y).toArray, .pointer (some ⟨p1, 0, none⟩)] w fun e w' => e = .returned (.bool (Lib.containsS a y.who)) ∧ Below w.heap.size w w' := by
  have hR := Lib.hid (fun W B => h.below (w' := W) B)
  have hC := Lib.hid (fun W h => containsN_c A n c a y.who W h)
  obtain ⟨who, time⟩ := y
  dsimp only [sdE] at *
  generalize Lib.containsS a who = R at *
  have hBn := below_new w (.cells #[.string who, .int .i64 time] 40)
  have hn0 := heap_alloc_new w (.cells #[.string who, .int .i64 time] 40)
  have hp1 := blk_below h1 hBn
  have a10 := (blk_facts hp1).1 0
  have x0 := (blk_facts hn0).1 0
  have hl1 := lt_of_heap h1
  clear hn0 h1 hp1 h
  go_enter Tryz.func131, Tryz.ntmps131
  go_wp2_with fail
  refine (hC.out _ (hR.out _ hBn)).mono ?_; rintro e w1 ⟨rfl, rfl⟩
  go_wp2
  go_ret
  exact ⟨rfl, hBn⟩
end Go.Proofs.YtdbfcneeiiialaaGreatDoor

/- heat.Again and tumbref1.AgainOf. -/
namespace Go.Proofs.YtdbfcneeiiialaaGreatDoor
open Go.RowKit Go.Shelf Go.Lib Go.Sort
set_option linter.unusedVariables false

/-- D is a draw of seeds -/
def Drw (p : Pl) (l : List Sd) (D : List Sp) : Prop := ∃ R, DrawR (szV (p.hi - p.lo + 1) p.le l.length) p.ci (orderW l) R ∧ SpSorted (stOut (laneV p.lo p.hi) 0 R) D
theorem order_nd {l : List Sd} (h0 : seedErr l = 0) (hn : l.length < 40) : (orderW l).Nodup ∧ ∀ s ∈ orderW l, keyB s = true := by
  unfold orderW
  rw [if_pos h0]
  refine ⟨(((ordS_perm hn).map Sd.who).nodup_iff).2 (seedNodup50 h0), fun s hs => ?_⟩
  obtain ⟨y, hy, rfl⟩ := List.mem_map.1 hs
  exact ((seedErr_ok h0).2 y ((ordS_perm hn).mem_iff.1 hy)).1
theorem Drw.ok {p : Pl} (hp : PlOk p) {l : List Sd} (h0 : seedErr l = 0) (hn : l.length < 40) {R : List (List ByteArray)} (hR : DrawR (szV (p.hi - p.lo + 1) p.le l.length) p.ci (orderW l) R) {D : List Sp} (hD : SpSorted (stOut (laneV p.lo p.hi) 0 R) D) : DrOk p (orderW l) D := by
  have hol := orderW_len h0 hn
  have hz := szErr_small (lanes := p.hi - p.lo + 1) (many := (l.length : Int)) (by have := hp.1.2; omega) (by omega) (by omega)
  exact draw_ok hp (order_nd h0 hn).1 (order_nd h0 hn).2 (by rw [hol]; exact hz) (by rw [hol]; omega) (R := R) (by rw [hol]; exact hR) hD
theorem Drw.ex {p : Pl} (hp : PlOk p) {l : List Sd} (h0 : seedErr l = 0) (hn : l.length < 40) : ∃ D, Drw p l D := by
  have hlan : 1 ≤ p.hi - p.lo + 1 := by have := hp.1.2; omega
  have hz := szErr_small (lanes := p.hi - p.lo + 1) (many := (l.length : Int)) hlan (by omega) (by omega)
  obtain ⟨hS1, hS2, hS3⟩ := szV_facts (lanes := p.hi - p.lo + 1) (le := p.le) (many := (l.length : Int)) hlan hp.2.2.1 (by omega) hz
  obtain ⟨R, hR⟩ := drawR_ex (ci := p.ci) hp.2.2.2.1 (InvH.start (S := szV (p.hi - p.lo + 1) p.le l.length) (who := orderW l) (fun y hy => (hS1 y hy).1) (by rw [orderW_len h0 hn]; exact hS2.symm))
  have hs := insL_spec spSWO (stOut (laneV p.lo p.hi) 0 R)
  refine ⟨insL (ltOf spCf) (stOut (laneV p.lo p.hi) 0 R), R, hR, hs.1, List.pairwise_iff_getElem.2 fun i j hi hj hij => hs.2 i j _ _ hij (List.getElem?_eq_getElem hi) (List.getElem?_eq_getElem hj)⟩
theorem Drw.len {p : Pl} (hp : PlOk p) {l : List Sd} (h0 : seedErr l = 0) (hn : l.length < 40) {D : List Sp} (h : Drw p l D) : D.length = l.length := by
  obtain ⟨R, hR, hD⟩ := h
  rw [(Drw.ok hp h0 hn hR hD).len, orderW_len h0 hn]
theorem Drw.uniq {p : Pl} (hp : PlOk p) {l : List Sd} (h0 : seedErr l = 0) (hn : l.length < 40) {R : List (List ByteArray)} (hR : DrawR (szV (p.hi - p.lo + 1) p.le l.length) p.ci (orderW l) R) {D D2 : List Sp} (hD : SpSorted (stOut (laneV p.lo p.hi) 0 R) D) (hD2 : SpSorted (stOut (laneV p.lo p.hi) 0 R) D2) : D2 = D := by
  have ho := (Drw.ok hp h0 hn hR hD).ok.ord
  have hd : D.Pairwise fun x y => ¬ (x.heat = y.heat ∧ x.lane = y.lane) := ho.imp (fun h => by unfold spB at h; omega)
  have h1 : SpSortF D D := ⟨List.Perm.refl _, hD.2⟩
  have h2 : SpSortF D D2 := ⟨hD2.1.trans hD.1.symm, hD2.2⟩
  exact spSort_uniq hd h2 h1
/-- heat.draw of right seeds -/
theorem drawD_c (p : Pl) (hp : PlOk p) (A : Option Addr) (n c : Nat) (l : List Sd) (w : World) (h : RSd w A n l) (h0 : seedErr l = 0) (hn : n < 40) (D : List Sp) (hD : Drw p l D) :
    Calls Tryz.prog 120 #[p.val, .slice A n c] w fun e w' => ∃ A' c', e = .returned (.tuple #[.slice A' n c', .int .i64 0]) ∧ RSp w' A' n D ∧ Below w.heap.size w w' := by
  obtain ⟨_, hso⟩ := seedErr_ok h0
  have hst : ∀ x ∈ l, 0 ≤ x.time ∧ x.time ≤ 360000 := fun x hx => (hso x hx).2
  have hl := h.len
  have hln : l.length < 40 := by rw [hl]; exact hn
  have hz := szErr_small (lanes := p.hi - p.lo + 1) (many := (n : Int)) (by have := hp.1.2; omega) (by omega) (by omega)
  have hDl := hD.len hp h0 hln
  obtain ⟨R, hR, hDs⟩ := hD
  refine (draw_c p hp A n c (ordS l) w (fun W' B => (orderedS_c A n c l W' (h.below B) hn hst).mono fun e w' ⟨A', c', h1, h2, h3⟩ => ⟨A', c', h1, RN.of_own sdE_len h2 (by rw [ordS_len hln]; exact hl) (by omega), by rcases own_cap h2 rfl with ⟨_, h4, _⟩ | ⟨_, _, h4⟩ <;> omega, h3⟩) (by rw [ordS_len hln]; exact hl) (by omega) R (fun _ => by have hR2 := hR; unfold orderW at hR2; rw [if_pos h0, hl] at hR2; exact hR2)).mono ?_
  rintro e w' (⟨h9, _⟩ | ⟨_, A', n', c', D2, h1, h2, h3, h4⟩)
  · exact absurd hz h9
  · obtain rfl := Drw.uniq hp h0 hln hR hDs h3
    obtain rfl : n' = n := by rw [← h2.len, hDl, hl]
    exact ⟨A', c', h1, h2, h4⟩
/-- tumbref1.DrawOf of right seeds -/
theorem drawOfD_c (p : Pl) (hp : PlOk p) (A : Option Addr) (n c : Nat) (l : List Sd) (w : World) (h : RSd w A n l) (h0 : seedErr l = 0) (hn : n < 40) (D : List Sp) (hD : Drw p l D) :
    Calls Tryz.prog 52 #[p.val, .slice A n c] w fun e w' => ∃ A' c', e = .returned (.tuple #[.slice A' n c', .int .i64 0]) ∧ RSp w' A' n D ∧ Below w.heap.size w w' := by
  have hl := h.len
  have hln : l.length < 40 := by rw [hl]; exact hn
  have hol := orderW_len h0 hln
  have hz := szErr_small (lanes := p.hi - p.lo + 1) (many := (n : Int)) (by have := hp.1.2; omega) (by omega) (by omega)
  have hDl := hD.len hp h0 hln
  obtain ⟨R, hR, hDs⟩ := hD
  have hO : ∀ W', Below w.heap.size w W' → Calls Tryz.prog 129 #[.slice A n c] W' fun e w' => ∃ A' c', e = .returned (.slice A' n c') ∧ RS 9 w' A' n (orderW l) ∧ n ≤ c' ∧ Below W'.heap.size W' w' := fun W' B => (orderRefS_c A n c l W' (h.below B) hn h0).mono fun e w' ⟨A', n', c', h1, h2, h3, h4⟩ => by
    have hn' : n' = n := by rw [← h2.len, hol, hl]
    subst hn'
    exact ⟨A', c', h1, h2, h3, h4⟩
  refine (drawOf_c p hp A n c (orderW l) w hO (by rw [hol, hl]) (by omega) R (fun _ => by rw [hl] at hR; exact hR)).mono ?_
  rintro e w' (⟨h9, _⟩ | ⟨_, A', n', c', D2, h1, h2, hn3, h3, h4⟩)
  · rw [hol, hl] at h9; exact absurd hz h9
  · obtain rfl := Drw.uniq hp h0 hln hR hDs h3
    have h5 := own_len spE_len (by decide) h2
    obtain rfl : n' = n := by rw [← h5, hDl, hl]
    exact ⟨A', c', h1, RN.of_own spE_len h2 h5 (by omega), h4⟩
/-- who is left -/
def lessS (who : List ByteArray) (l : List Sd) : List Sd := l.filter fun x => !Lib.containsS who x.who
/-- how many start elsewhere -/
def movedN (D1 D2 : List Sp) : Nat := (D2.filter fun x => !decide (x ∈ D1)).length
theorem moved_at {D1 D2 : List Sp} {k : Nat} {x : Sp} (h : D2[k]? = some x) : movedN D1 (D2.take (k + 1)) = movedN D1 (D2.take k) + if x ∈ D1 then 0 else 1 := by
  unfold movedN
  rw [List.take_add_one, h, List.filter_append, List.length_append]
  congr 1
  by_cases e : x ∈ D1
  · rw [if_pos e]; simp [e]
  · rw [if_neg e]; simp [e]
theorem less_at {who : List ByteArray} {l : List Sd} {k : Nat} {x : Sd} (h : l[k]? = some x) : lessS who (l.take (k + 1)) = lessS who (l.take k) ++ if Lib.containsS who x.who = true then [] else [x] := by
  unfold lessS
  rw [List.take_add_one, h, List.filter_append]
  congr 1
  by_cases e : Lib.containsS who x.who = true
  · rw [if_pos e]; simp [e]
  · rw [if_neg e]; simp [e]
theorem less_ok {who : List ByteArray} {l : List Sd} (h : seedErr l = 0) : seedErr (lessS who l) = 0 := by
  have hs := List.filter_sublist (p := fun x : Sd => !Lib.containsS who x.who) (l := l)
  have hnd := seedNodup50 h
  obtain ⟨h1, h2⟩ := seedErr_ok h
  have hg : ∀ q : List Sd, (∀ x ∈ q, keyB x.who = true ∧ 0 ≤ x.time ∧ x.time ≤ 360000) → sdGo q = 0 := by
    intro q
    induction q with
    | nil => intro _; rfl
    | cons x r ih =>
      intro hq
      have h3 := hq x (List.mem_cons_self ..)
      unfold sdGo
      rw [if_neg (by rw [h3.1]; decide), if_neg (not_not_intro h3.2)]
      exact ih fun y hy => hq y (List.mem_cons_of_mem _ hy)
  have hz : sdGo (lessS who l) = 0 := hg _ fun x hx => h2 x (hs.subset hx)
  have hN : ((lessS who l).map Sd.who).Nodup := hnd.sublist (hs.map _)
  have hL : (lessS who l).length ≤ 300 := Nat.le_trans hs.length_le h1
  rw [seedErr_ref, if_neg (by omega), if_neg (not_not_intro hz), if_pos hN]
theorem less_len (who : List ByteArray) (l : List Sd) : (lessS who l).length ≤ l.length := List.length_filter_le _ _
/-- a row under way, all of it new -/
structure SdK (w : World) (u : Value) (acc : List Sd) (wx : World) : Prop where
  o : wx.ownsRow w.heap.size 40 2 u acc.length (acc.flatMap sdE)
  bel : Below w.heap.size w wx
section
variable {w wx w' : World} {u v' : Value} {acc : List Sd}
theorem SdK.below (h : SdK w u acc wx) (B : Below wx.heap.size wx w') : SdK w u acc w' := ⟨own_below h.o B, below_next h.bel B⟩
theorem SdK.app (h : SdK w u acc wx) (x : Sd) (ho : w'.ownsRow w.heap.size 40 2 v' (acc.length + 1) (acc.flatMap sdE ++ sdE x)) (hg : wx.grownBy w' u.ownBlock) : SdK w v' (acc ++ [x]) w' :=
  ⟨by rw [List.length_append, List.flatMap_append]; simpa using ho, below_own h.bel h.o hg h.bel.size (Nat.le_refl _)⟩
theorem SdK.start (w : World) : SdK w (.slice none 0 0) [] w := ⟨World.ownsRow_nil _ _ _ _, Below.refl _ _⟩
end
set_option maxHeartbeats 6400000 in
set_option maxRecDepth 100000 in
theorem again_c (p : Pl) (hp : PlOk p) (A B : Option Addr) (n c m d : Nat) (l : List Sd) (who : List ByteArray) (w : World) (h : RSd w A n l) (hB : RS 9 w B m who) (hcap : (B = none ∧ m = 0 ∧ d = 0) ∨ ∃ b, B = some ⟨b, 0, none⟩ ∧ m ≤ d) (h0 : seedErr l = 0) (hg : goneErr (l.map Sd.who) who = 0) (hn : n < 40) (D1 D2 : List Sp) (hD1 : Drw p l D1) (hD2 : Drw p (lessS who l) D2) :
    Calls Tryz.prog 50 #[p.val, .slice A n c, .slice B m d] w fun e w' => ∃ A' n' c', e = .returned (.tuple #[.slice A' n' c', .int .i64 (movedN D1 D2 : Nat), .int .i64 0]) ∧ RSp w' A' n' D2 ∧ Below w.heap.size w w' := by
  have hB1 : Below w.heap.size w ((w.alloc (.cells p.cells 97)).alloc (.cells #[.slice A n c] 26)) := below_next (below_new w (.cells p.cells 97)) (below_new _ (.cells #[.slice A n c] 26))
  have hx0 := heap_alloc_new (w.alloc (.cells p.cells 97)) (.cells #[.slice A n c] 26)
  rw [alloc_size] at hx0
  have hp0 : PoolB w.heap.size p ((w.alloc (.cells p.cells 97)).alloc (.cells #[.slice A n c] 26)) := blk_alloc (heap_alloc_new w _) _
  have hl := Lib.hid h.len
  have K : KX w (fun v => ((RSd v A n l ∧ RS 9 v B m who) ∧ PoolB w.heap.size p v) ∧ v.heap[w.heap.size + 1]? = some (.cells #[.slice A n c] 26 (0, 0))) ((w.alloc (.cells p.cells 97)).alloc (.cells #[.slice A n c] 26)) := ⟨⟨⟨⟨h.below hB1, hB.below hB1⟩, hp0⟩, hx0⟩, fun a b q B => ⟨⟨⟨q.1.1.1.below B, q.1.1.2.below B⟩, PoolB.keep _ _ q.1.2 B⟩, blk_below q.2 B⟩, hB1⟩
  have hCB := Lib.hid (fun W h => checkBothH_c p hp A n c l W h)
  rw [h0] at hCB
  have hWh := Lib.hid (fun W (q : ((RSd W A n l ∧ RS 9 W B m who) ∧ PoolB w.heap.size p W) ∧ W.heap[w.heap.size + 1]? = some (.cells #[.slice A n c] 26 (0, 0))) => checkWhoG_c 122 (enters_of Tryz.func122 (by kernel_rfl) rfl) #[.pointer (some ⟨w.heap.size + 1, 0, none⟩)] B m d (l.map Sd.who) who W q.1.1.2 hcap (fun s W2 B2 => member46_c A n c l s (w.heap.size + 1) W2 (q.1.1.1.below B2) (blk_below q.2 B2)))
  rw [hg] at hWh
  have hDr1 := Lib.hid (fun W h => drawD_c p hp A n c l W h h0 hn D1 hD1)
  have hDr2 := Lib.hid (fun A' n' c' W h hn' => drawD_c p hp A' n' c' (lessS who l) W h (less_ok h0) hn' D2 hD2)
  have hCn := Lib.hid (fun W h x => containsN_c B m d who x W h)
  have hD1l := Lib.hid (hD1.len hp h0 (by rw [hl.out]; exact hn))
  have hCt := Lib.hid (fun A3 c3 W (y : Sp) (hr : RSp W A3 n D1) => containsSp_c A3 n c3 D1 y W hr (by omega))
  clear h hB hcap h0 hg hD1 hD2 hp0 hx0 hB1 hp
  obtain ⟨z0, z1, z2, z3⟩ := K.x.1.2.at_
  have zb := (blk_facts K.x.2).1 0
  obtain ⟨lo, hi, le, ci⟩ := p
  dsimp only [Pl.val, Pl.cells] at *
  go_enter Tryz.func50, Tryz.ntmps50
  go_wp2_with fail
  refine (hCB.out _ K.x.1.1.1).mono ?_; rintro e w1 ⟨rfl, B1⟩
  replace K := K.below B1
  clear hCB B1 z0 z1 z2 z3 zb
  go_wp2_with fail
  refine (hWh.out _ K.x).mono ?_; rintro e w2 ⟨rfl, B2⟩
  replace K := K.below B2
  clear hWh B2
  obtain ⟨z0, z1, z2, z3⟩ := K.x.1.2.at_
  have zb := (blk_facts K.x.2).1 0
  dsimp only at z0 z1 z2 z3
  go_wp2_with fail
  refine (hDr1.out _ K.x.1.1.1).mono ?_; rintro e w3 ⟨A3, c3, rfl, hD3, B3⟩
  replace K := (K.below B3).add (Y := fun v => RSp v A3 n D1) hD3 (fun _ _ h B => h.below B)
  clear hDr1 hD3 B3 z0 z1 z2 z3 zb
  have hCt3 := Lib.hid (fun W y hr => hCt.out A3 c3 W y hr)
  clear hCt
  have zb := (blk_facts K.x.1.2).1 0
  go_wp2_with fail
  go_loopw [13, 43] (fun u i wr => ∃ (k : Nat) (acc : List Sd), k ≤ n ∧ i = .int .i64 k ∧ SdK w3 u acc wr ∧ acc.length ≤ k ∧ Hid (acc = lessS who (l.take k))) (fun _ i _ => n - (intOf i).toNat)
  case atStart => exact ⟨0, [], Nat.zero_le _, rfl, SdK.start w3, Nat.le_refl _, Lib.hid rfl⟩
  case round =>
    clear zb
    rename World => wr
    obtain ⟨k, acc, hk, rfl, S, hak, hacc⟩ := hrel
    obtain ⟨A5, c5, hu⟩ := own_shape S.o
    subst hu
    have Kr := K.below S.bel
    by_cases hlt : k < n
    · obtain ⟨b, off, x, rfl, hbl, hx, c0, c1⟩ := RSd_at2 Kr.x.1.1.1.1 hlt
      have hla := Lib.hid (less_at (who := who) hx)
      obtain ⟨xw, xt⟩ := x
      dsimp only at *
      have hn5 := heap_alloc_new wr (.cells #[.string xw, .int .i64 xt] 40)
      have S5 := S.below (below_new wr (.cells #[.string xw, .int .i64 xt] 40))
      have hC5 := Lib.hid (hCn.out _ ((Kr.below (below_new wr (.cells #[.string xw, .int .i64 xt] 40))).x.1.1.1.2) xw)
      have y0 := (blk_facts hn5).1 0
      have y1 := (blk_facts hn5).1 1
      clear hx S Kr hn5
      go_wp2_with fail
      refine hC5.out.mono ?_; rintro e w5 ⟨rfl, rfl⟩
      clear hC5 c0 c1
      by_cases hc : Lib.containsS who xw = true
      · have hacc2 := Lib.hid (show acc = lessS who (l.take (k + 1)) by rw [hla.out, if_pos hc, List.append_nil]; exact hacc.out)
        rw [hc]
        clear hla hacc hc
        go_wp2
        go_roundw
        case rel => exact ⟨k + 1, acc, by omega, by go_num, S5, by omega, hacc2⟩
        case measure => simp [intOf]; omega
      · have hacc2 := Lib.hid (show acc ++ [(⟨xw, xt⟩ : Sd)] = lessS who (l.take (k + 1)) by rw [hla.out, if_neg hc, ← hacc.out])
        have hc' : Lib.containsS who xw = false := by simpa using hc
        rw [hc']
        have hsz := S5.bel.size
        have hown := S5.o
        clear hla hacc hc hc'
        go_wp2_with (at_builtin; refine wpList_app rfl (.tmp 52) (.tmp 54) 26 rfl Tryz.underlying26 info_seed rfl (by omega) (by omega) hown rfl rfl (by first | rfl | (simp; done)) rfl (by simp [Value.oneCell']) (by omega) hsz ?_; intro v9 w9 ho9 hg9)
        have S9 := S5.app ⟨xw, xt⟩ ho9 hg9
        clear ho9 hg9 S5 hown hsz
        go_roundw
        case rel => exact ⟨k + 1, _, by omega, by go_num, S9, by rw [List.length_append]; show acc.length + 1 ≤ k + 1; omega, hacc2⟩
        case measure => simp [intOf]; omega
    · obtain rfl : k = n := by omega
      have hall : acc = lessS who l := by rw [hacc.out, List.take_of_length_le (by rw [hl.out]; exact Nat.le_refl _)]
      have hr5 : RSd wr A5 acc.length acc := RN.of_own sdE_len S.o rfl (by omega)
      have hD2' := Lib.hid (fun W h => hDr2.out A5 acc.length c5 W h (by omega))
      rw [← hall] at hD2'
      have Kr := Kr.add (Y := fun v => RSd v A5 acc.length acc) hr5 (fun _ _ h B => h.below B)
      clear hall hacc hDr2 S hr5 hCn
      generalize acc.length = n5 at *
      obtain ⟨z0, z1, z2, z3⟩ := Kr.x.1.1.1.2.at_
      dsimp only at z0 z1 z2 z3
      go_wp2_with fail
      refine (hD2'.out _ Kr.x.2).mono ?_; rintro e w6 ⟨A6, c6, rfl, hD6, B6⟩
      replace Kr := (Kr.below B6).add (Y := fun v => RSp v A6 n5 D2) hD6 (fun _ _ h B => h.below B)
      have hl6 := Lib.hid hD6.len
      clear hD2' B6 hD6 z0 z1 z2 z3
      go_wp2_with fail
      go_loopw [17, 68] (fun cv i wr => ∃ j : Nat, j ≤ n5 ∧ i = .int .i64 j ∧ cv = .int .i64 (movedN D1 (D2.take j) : Nat) ∧ KX w (fun v => ((((((RSd v A k l ∧ RS 9 v B m who) ∧ PoolB w.heap.size ⟨lo, hi, le, ci⟩ v) ∧ v.heap[w.heap.size + 1]? = some (.cells #[.slice A k c] 26 (0, 0))) ∧ RSp v A3 k D1) ∧ RSd v A5 n5 acc) ∧ RSp v A6 n5 D2)) wr) (fun _ i _ => n5 - (intOf i).toNat)
      case atStart => exact ⟨0, Nat.zero_le _, rfl, rfl, Kr⟩
      case round =>
        clear Kr K
        rename World => wy
        obtain ⟨j, hj, rfl, rfl, K⟩ := hrel
        by_cases hlj : j < n5
        · obtain ⟨b, off, y, rfl, hbl, hy, c0, c1, c2⟩ := RSp_at3 K.x.2 hlj
          have hmv := Lib.hid (moved_at (D1 := D1) hy)
          have hmb : movedN D1 (D2.take j) ≤ j := by unfold movedN; have := List.length_filter_le (fun x => !decide (x ∈ D1)) (D2.take j); rw [List.length_take] at this; omega
          have K5 := K.below (below_new wy (.cells #[.string y.who, .int .i64 y.heat, .int .i64 y.lane] 111))
          have hn5 := heap_alloc_new wy (.cells #[.string y.who, .int .i64 y.heat, .int .i64 y.lane] 111)
          have y0 := (blk_facts hn5).1 0
          have y1 := (blk_facts hn5).1 1
          have y2 := (blk_facts hn5).1 2
          have hC5 := Lib.hid (hCt3.out _ y K5.x.1.1.2)
          obtain ⟨yw, yh, yl⟩ := y
          dsimp only at *
          clear hy K hn5
          generalize hMV : movedN D1 (D2.take j) = MV at *
          have u1 : IntKind.i64.wrap ((MV : Int) + 1) = (MV : Int) + 1 := IntWalk.i64_in _ (by omega)
          go_wp2_with fail
          refine hC5.out.mono ?_; rintro e w7 ⟨rfl, B7⟩
          have K7 := K5.below B7
          clear hC5 K5 B7 c0 c1 c2 y0 y1 y2
          by_cases hm : (⟨yw, yh, yl⟩ : Sp) ∈ D1
          · have hm2 := Lib.hid (show movedN D1 (D2.take (j + 1)) = MV by rw [hmv.out, if_pos hm]; rfl)
            have hd : decide ((⟨yw, yh, yl⟩ : Sp) ∈ D1) = true := decide_eq_true hm
            rw [hd]
            clear hm hd hmv hMV
            go_wp2
            go_roundw
            case rel => exact ⟨j + 1, by omega, by go_num, by rw [hm2.out], K7⟩
            case measure => simp [intOf]; omega
          · have hm2 := Lib.hid (show movedN D1 (D2.take (j + 1)) = MV + 1 by rw [hmv.out, if_neg hm])
            have hd : decide ((⟨yw, yh, yl⟩ : Sp) ∈ D1) = false := decide_eq_false hm
            rw [hd]
            clear hm hd hmv hMV
            go_wp2
            go_roundw
            case rel => exact ⟨j + 1, by omega, by go_num, by rw [hm2.out]; first | rfl | (push_cast; rfl), K7⟩
            case measure => simp [intOf]; omega
        · obtain rfl : j = n5 := by omega
          have hfin : movedN D1 (D2.take j) = movedN D1 D2 := by rw [List.take_of_length_le (by rw [hl6.out]; exact Nat.le_refl _)]
          have hb := K.bel
          have hr := K.x.2
          have hfin' := Lib.hid hfin
          clear hfin K
          go_wp2
          go_ret3
          exact ⟨A6, j, c6, by rw [← hfin'.out]; rfl, hr, hb⟩
set_option maxHeartbeats 6400000 in
set_option maxRecDepth 100000 in
theorem againOf_c (p : Pl) (hp : PlOk p) (A B : Option Addr) (n c m d : Nat) (l : List Sd) (who : List ByteArray) (w : World) (h : RSd w A n l) (hB : RS 9 w B m who) (h0 : seedErr l = 0) (hn : n < 40) (D1 D2 : List Sp) (hD1 : Drw p l D1) (hD2 : Drw p (lessS who l) D2) :
    Calls Tryz.prog 53 #[p.val, .slice A n c, .slice B m d] w fun e w' => ∃ A' n' c', e = .returned (.tuple #[.slice A' n' c', .int .i64 (movedN D1 D2 : Nat), .int .i64 0]) ∧ RSp w' A' n' D2 ∧ Below w.heap.size w w' := by
  have hB1 : Below w.heap.size w ((w.alloc (.cells p.cells 97)).alloc (.cells #[.slice B m d] 99)) := below_next (below_new w (.cells p.cells 97)) (below_new _ (.cells #[.slice B m d] 99))
  have hx0 := heap_alloc_new (w.alloc (.cells p.cells 97)) (.cells #[.slice B m d] 99)
  rw [alloc_size] at hx0
  have hp0 : PoolB w.heap.size p ((w.alloc (.cells p.cells 97)).alloc (.cells #[.slice B m d] 99)) := blk_alloc (heap_alloc_new w _) _
  have hl := Lib.hid h.len
  have K : KX w (fun v => ((RSd v A n l ∧ RS 9 v B m who) ∧ PoolB w.heap.size p v) ∧ v.heap[w.heap.size + 1]? = some (.cells #[.slice B m d] 99 (0, 0))) ((w.alloc (.cells p.cells 97)).alloc (.cells #[.slice B m d] 99)) := ⟨⟨⟨⟨h.below hB1, hB.below hB1⟩, hp0⟩, hx0⟩, fun a b q B => ⟨⟨⟨q.1.1.1.below B, q.1.1.2.below B⟩, PoolB.keep _ _ q.1.2 B⟩, blk_below q.2 B⟩, hB1⟩
  have hDr1 := Lib.hid (fun W h => drawOfD_c p hp A n c l W h h0 hn D1 hD1)
  have hDr2 := Lib.hid (fun A' n' c' W h hn' => drawOfD_c p hp A' n' c' (lessS who l) W h (less_ok h0) hn' D2 hD2)
  have hD1l := Lib.hid (hD1.len hp h0 (by rw [hl.out]; exact hn))
  have hCt := Lib.hid (fun A3 c3 W (y : Sp) (hr : RSp W A3 n D1) => containsSp_c A3 n c3 D1 y W hr (by omega))
  have hCl := Lib.hid (fun W h => cloneSd_c A n c l W h (by omega))
  have hDe := Lib.hid (fun base u W (ho : W.ownsRow base 40 2 u n (l.flatMap sdE)) (hb : base ≤ W.heap.size) (hr : RS 9 W B m who) (hx : W.heap[w.heap.size + 1]? = some (.cells #[.slice B m d] 99 (0, 0))) => delete46_c (fun x => Lib.containsS who x.who) (w.heap.size + 1) base u n l W ho (by omega) hb (fun x W2 hk hb2 => delC46_c (w.heap.size + 1) B m d who x W2 (hr.keep (T := 40) (by decide) hk) (hk _ _ _ _ (by decide) hx)))
  clear h hB h0 hD1 hD2 hp0 hx0 hB1 hp
  obtain ⟨z0, z1, z2, z3⟩ := K.x.1.2.at_
  obtain ⟨lo, hi, le, ci⟩ := p
  dsimp only [Pl.val, Pl.cells] at *
  go_enter Tryz.func53, Tryz.ntmps53
  go_wp2_with fail
  refine (hDr1.out _ K.x.1.1.1).mono ?_; rintro e w3 ⟨A3, c3, rfl, hD3, B3⟩
  replace K := (K.below B3).add (Y := fun v => RSp v A3 n D1) hD3 (fun _ _ h B => h.below B)
  clear hDr1 hD3 B3 z0 z1 z2 z3
  have hCt3 := Lib.hid (fun W y hr => hCt.out A3 c3 W y hr)
  clear hCt
  go_wp2_with fail
  refine (hCl.out _ K.x.1.1.1.1).mono ?_; rintro e w4 ⟨A4, c4, rfl, ho4, B4⟩
  have hz4 := B4.size
  have hb4 := Lib.hid (fun W (B : Below w3.heap.size w4 W) => show Below w3.heap.size w3 W from B4.trans B)
  have K4 := K.below B4
  clear hCl B4
  go_wp2_with fail
  refine (hDe.out _ _ _ ho4 hz4 K4.x.1.1.1.2 K4.x.1.2).mono ?_; rintro e w5 ⟨A5, n5, c5, rfl, ho5, hn5, B5⟩
  replace K := K.below (hb4.out _ B5)
  have hl5 := own_len sdE_len (by decide) ho5
  have hr5 : RSd w5 A5 n5 (lessS who l) := RN.of_own sdE_len ho5 hl5 (by omega)
  have hD2' := Lib.hid (fun W h => hDr2.out A5 n5 c5 W h (by omega))
  have Kr := K.add (Y := fun v => RSd v A5 n5 (lessS who l)) hr5 (fun _ _ h B => h.below B)
  clear hDe ho4 K4 hb4 B5 ho5 hl5 hr5 hDr2 K
  obtain ⟨z0, z1, z2, z3⟩ := Kr.x.1.1.1.2.at_
  dsimp only at z0 z1 z2 z3
  go_wp2_with fail
  refine (hD2'.out _ Kr.x.2).mono ?_; rintro e w6 ⟨A6, c6, rfl, hD6, B6⟩
  replace Kr := (Kr.below B6).add (Y := fun v => RSp v A6 n5 D2) hD6 (fun _ _ h B => h.below B)
  have hl6 := Lib.hid hD6.len
  clear hD2' B6 hD6 z0 z1 z2 z3
  generalize lessS who l = acc at *
  go_wp2_with fail
  go_loopw [14, 38] (fun cv i wr => ∃ j : Nat, j ≤ n5 ∧ i = .int .i64 j ∧ cv = .int .i64 (movedN D1 (D2.take j) : Nat) ∧ KX w (fun v => ((((((RSd v A n l ∧ RS 9 v B m who) ∧ PoolB w.heap.size ⟨lo, hi, le, ci⟩ v) ∧ v.heap[w.heap.size + 1]? = some (.cells #[.slice B m d] 99 (0, 0))) ∧ RSp v A3 n D1) ∧ RSd v A5 n5 acc) ∧ RSp v A6 n5 D2)) wr) (fun _ i _ => n5 - (intOf i).toNat)
  case atStart => exact ⟨0, Nat.zero_le _, rfl, rfl, Kr⟩
  case round =>
    clear Kr
    rename World => wy
    obtain ⟨j, hj, rfl, rfl, K⟩ := hrel
    by_cases hlj : j < n5
    · obtain ⟨b, off, y, rfl, hbl, hy, c0, c1, c2⟩ := RSp_at3 K.x.2 hlj
      have hmv := Lib.hid (moved_at (D1 := D1) hy)
      have hmb : movedN D1 (D2.take j) ≤ j := by unfold movedN; have := List.length_filter_le (fun x => !decide (x ∈ D1)) (D2.take j); rw [List.length_take] at this; omega
      have K5 := K.below (below_new wy (.cells #[.string y.who, .int .i64 y.heat, .int .i64 y.lane] 111))
      have hn5' := heap_alloc_new wy (.cells #[.string y.who, .int .i64 y.heat, .int .i64 y.lane] 111)
      have y0 := (blk_facts hn5').1 0
      have y1 := (blk_facts hn5').1 1
      have y2 := (blk_facts hn5').1 2
      have hC5 := Lib.hid (hCt3.out _ y K5.x.1.1.2)
      obtain ⟨yw, yh, yl⟩ := y
      dsimp only at *
      clear hy K hn5'
      generalize hMV : movedN D1 (D2.take j) = MV at *
      have u1 : IntKind.i64.wrap ((MV : Int) + 1) = (MV : Int) + 1 := IntWalk.i64_in _ (by omega)
      go_wp2_with fail
      refine hC5.out.mono ?_; rintro e w7 ⟨rfl, B7⟩
      have K7 := K5.below B7
      clear hC5 K5 B7 c0 c1 c2 y0 y1 y2
      by_cases hm : (⟨yw, yh, yl⟩ : Sp) ∈ D1
      · have hm2 := Lib.hid (show movedN D1 (D2.take (j + 1)) = MV by rw [hmv.out, if_pos hm]; rfl)
        have hd : decide ((⟨yw, yh, yl⟩ : Sp) ∈ D1) = true := decide_eq_true hm
        rw [hd]
        clear hm hd hmv hMV
        go_wp2
        go_roundw
        case rel => exact ⟨j + 1, by omega, by go_num, by rw [hm2.out], K7⟩
        case measure => simp [intOf]; omega
      · have hm2 := Lib.hid (show movedN D1 (D2.take (j + 1)) = MV + 1 by rw [hmv.out, if_neg hm])
        have hd : decide ((⟨yw, yh, yl⟩ : Sp) ∈ D1) = false := decide_eq_false hm
        rw [hd]
        clear hm hd hmv hMV
        go_wp2
        go_roundw
        case rel => exact ⟨j + 1, by omega, by go_num, by rw [hm2.out]; first | rfl | (push_cast; rfl), K7⟩
        case measure => simp [intOf]; omega
    · obtain rfl : j = n5 := by omega
      have hfin : movedN D1 (D2.take j) = movedN D1 D2 := by rw [List.take_of_length_le (by rw [hl6.out]; exact Nat.le_refl _)]
      have hb := K.bel
      have hr := K.x.2
      have hfin' := Lib.hid hfin
      clear hfin K
      go_wp2
      go_ret3
      exact ⟨A6, j, c6, by rw [← hfin'.out]; rfl, hr, hb⟩
end Go.Proofs.YtdbfcneeiiialaaGreatDoor
