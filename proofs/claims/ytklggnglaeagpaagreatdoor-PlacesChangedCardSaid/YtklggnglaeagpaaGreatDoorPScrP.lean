import Derived.Test.YtklggnglaeagpaaGreatDoorPStaN
import Derived.Test.YtklggnglaeagpaaGreatDoorPMkReg
import Derived.Test.YtklggnglaeagpaaGreatDoorPSortB
import Derived.Laws.IdiomCopy
import Derived.Deep.QuietTactic
import Derived.BigQuiet
import Derived.BigGuardPart
import Derived.BigRegion
/- slices.DeleteFunc of api.Start in a row of the call's own, by the closure tumbref1.ScratchOf$1. Printed by wip/gendelx.py. -/
namespace Go.Proofs.YtklggnglaeagpaaGreatDoor
open Go.RowKit Go.Shelf Go.Lib Go.Sort
set_option linter.unusedVariables false

theorem own_takeSp {w : World} {base : Nat} {e : TypeId} {size g n c k : Nat} {xs : List Value} (h : w.ownsRow base e size (.slice (some ⟨g, 0, none⟩) n c) n xs) (hk : k ≤ n) : w.ownsRow base e size (.slice (some ⟨g, 0, none⟩) k c) k (xs.take (k * size)) := by
  have hl := h.1
  have hm : k * size ≤ n * size := Nat.mul_le_mul_right _ hk
  refine ⟨by rw [List.length_take]; omega, ?_⟩
  rcases h.2 with ⟨hv, _⟩ | ⟨g', cap, cur, hv, hb, hg, h1, h2, h3, h4⟩
  · cases hv
  · injection hv with q1 q2 q3
    injection q1 with q1
    injection q1 with q1
    subst q1 q3
    refine .inr ⟨g, c, cur, rfl, hb, hg, by omega, h2, h3, ?_⟩
    rw [← h4, List.take_take]
    congr 1
    omega
theorem own_setCellsSp {base : Nat} {e : TypeId} {size g n c : Nat} {xs : List Value} : ∀ (vs : List Value) (o : Nat) (w : World), w.ownsRow base e size (.slice (some ⟨g, 0, none⟩) n c) n xs → n * size ≤ o → (w.setCells g o vs).ownsRow base e size (.slice (some ⟨g, 0, none⟩) n c) n xs ∧ w.grownBy (w.setCells g o vs) (some g)
  | [], _, w, h, _ => ⟨h, grown_refl _ _⟩
  | v :: r, o, w, h, ho => by
    obtain ⟨h1, h2⟩ := h.stored o v
    rw [List.set_eq_of_length_le (by rw [h.1]; exact ho)] at h1
    obtain ⟨h3, h4⟩ := own_setCellsSp r (o + 1) _ h1 (by omega)
    exact ⟨h3, grown_trans h2 h4⟩
theorem flat_takeSp : ∀ (R : List Sp) (i : Nat), (R.flatMap spE).take (i * 3) = (R.take i).flatMap spE
  | _, 0 => by simp
  | [], i + 1 => by simp
  | x :: r, i + 1 => by
    rw [List.take_succ_cons, List.flatMap_cons, List.flatMap_cons, ← flat_takeSp r i, show (i + 1) * 3 = i * 3 + 3 by omega]
    rfl
theorem zc_oneSp (n : Nat) : ∀ v ∈ (Builtin.zeroCells (Value.agg #[.string ⟨#[]⟩, .int .i64 0, .int .i64 0]).cells n).toList, v.oneCell' = true := by
  intro v hv
  unfold Builtin.zeroCells at hv
  rw [Array.toList_map] at hv
  obtain ⟨a, _, rfl⟩ := List.mem_map.1 hv
  show (#[Value.string ⟨#[]⟩, Value.int .i64 0, Value.int .i64 0][a % 3]!).oneCell' = true
  have h : a % 3 < 3 := Nat.mod_lt _ (by decide)
  have h2 : a % 3 = 0 ∨ a % 3 = 1 ∨ a % 3 = 2 := by omega
  rcases h2 with h | h | h <;> rw [h] <;> rfl
theorem own_blkSp {w : World} {base : Nat} {e : TypeId} {size g n c : Nat} {xs : List Value} (h : w.ownsRow base e size (.slice (some ⟨g, 0, none⟩) n c) n xs) : ∃ cur, w.heap[g]? = some (.cells cur e (0, 0)) ∧ cur.size = c * size ∧ n ≤ c := by
  rcases h.2 with ⟨hv, _⟩ | ⟨g', cap, cur, hv, hb, hg, h1, h2, h3, h4⟩
  · cases hv
  · injection hv with q1 q2 q3
    injection q1 with q1
    injection q1 with q1
    subst q1 q3
    exact ⟨cur, hg, h3, h1⟩
theorem run_clearSp {P : Program} (w : World) (t e ty : TypeId) (z : Value) (ht : P.underlying t = some (.slice e)) (hv : ∀ w, (zeroValue e).run P w = .ok z w) (b o n c : Nat) (hn : 0 < n) (h1 : ∀ v ∈ (Builtin.zeroCells z.cells n).toList, v.oneCell' = true)
    (hc : ∀ j, j < (Builtin.zeroCells z.cells n).toList.length → (w.cell? ⟨b, o + j, none⟩).isSome = true) (hf : ∀ j, j < (Builtin.zeroCells z.cells n).toList.length → w.frozen? ⟨b, o + j, none⟩ = false) :
    (Builtin.clear_ #[t] ty #[.slice (some ⟨b, o, none⟩) n c]).run P w = .ok (.tuple #[]) (w.setCells b o (Builtin.zeroCells z.cells n).toList) := by
  have hst := run_storeCells_cells (P := P) b o (Builtin.zeroCells z.cells n).toList 0 w (by simpa using hc) (by simpa using hf) h1
  simp only [Nat.add_zero] at hst
  obtain ⟨m, rfl⟩ : ∃ m, n = m + 1 := ⟨n - 1, by omega⟩
  simp [Builtin.clear_, run_underlying ht, hv, hst]
theorem flat_setSp (R : List Sp) (i : Nat) (x r : Sp) (h : R[i]? = some r) : ((((R.flatMap spE).set (i * 3) (.string x.who)).set (i * 3 + 1) (.int .i64 x.heat)).set (i * 3 + 2) (.int .i64 x.lane)) = (R.set i x).flatMap spE := by
  have e0 := flat_set spE_len R i r ⟨x.who, r.heat, r.lane⟩ 0 (.string x.who) h (by decide) rfl
  have hi := lt_of_at h
  have g0 : (R.set i ⟨x.who, r.heat, r.lane⟩)[i]? = some ⟨x.who, r.heat, r.lane⟩ := List.getElem?_set_self hi
  have e1 := flat_set spE_len _ i _ ⟨x.who, x.heat, r.lane⟩ 1 (.int .i64 x.heat) g0 (by decide) rfl
  rw [List.set_set] at e1
  have g1 : (R.set i ⟨x.who, x.heat, r.lane⟩)[i]? = some ⟨x.who, x.heat, r.lane⟩ := List.getElem?_set_self hi
  have e2 := flat_set spE_len _ i _ x 2 (.int .i64 x.lane) g1 (by decide) rfl
  rw [List.set_set] at e2
  rw [Nat.add_zero] at e0
  rw [e0, e1, e2]
theorem keep_ownSp {w w' : World} {B n size : Nat} {e : TypeId} {u : Value} {xs : List Value} (h : w.ownsRow B e size u n xs) (hg : w.grownBy w' u.ownBlock) : Keep e w w' := by
  intro b cs e' fz hne hb
  refine (hg.block b (lt_of_heap hb) (fun e0 => ?_)).trans hb
  rcases h.2 with ⟨rfl, _⟩ | ⟨g, cap, cur, rfl, _, hg', _⟩
  · simp [Value.ownBlock] at e0
  · simp only [Value.ownBlock, Option.some.injEq] at e0
    subst e0
    rw [hg'] at hb
    injection hb with hb
    injection hb with _ h3
    exact hne h3.symm
def IdxSp (p : Sp → Bool) (l : List Sp) (n : Nat) (i : Int) : Prop := (i = -1 ∧ ∀ x ∈ l, p x = false) ∨ ∃ k : Nat, i = (k : Int) ∧ k < n ∧ (∃ x, l[k]? = some x ∧ p x = true) ∧ ∀ x ∈ l.take k, p x = false
set_option maxRecDepth 100000 in
theorem indexDSp_c (p : Sp → Bool) (p1 : Nat) (A : Option Addr) (n c : Nat) (l : List Sp) (w : World) (h : RSp w A n l) (hP : ∀ (x : Sp) W, Below w.heap.size w W → Calls Tryz.prog 280 #[.agg (spE x).toArray, .pointer (some ⟨p1, 0, none⟩)] W fun e w' => e = .returned (.bool (p x)) ∧ Below W.heap.size W w') :
    Calls Tryz.prog 361 #[.slice A n c, .func (.func 280) #[] #[.pointer (some ⟨p1, 0, none⟩)]] w fun e w' => ∃ i, e = .returned (.int .i64 i) ∧ IdxSp p l n i ∧ Below w.heap.size w w' := by
  have hz := Lib.hid (fun x W B => hP x W B)
  have hR := Lib.hid (fun W B => h.below (w' := W) B)
  have hl := Lib.hid h.len
  have hbd := h.bd
  clear hP h
  go_enter Tryz.func361, Tryz.ntmps361
  go_wp2_with fail
  go_loopw [8] (fun i wr => ∃ k : Nat, k ≤ n ∧ i = .int .i64 k ∧ Below w.heap.size w wr ∧ Hid (∀ x ∈ l.take k, p x = false)) (fun i _ => n - (intOf i).toNat)
  case atStart => exact ⟨0, Nat.zero_le _, rfl, Below.refl _ _, Lib.hid (fun x hx => by simp at hx)⟩
  case round =>
    rename World => wr
    obtain ⟨k, hk, rfl, hB, hF⟩ := hrel
    by_cases hlt : k < n
    · obtain ⟨b, off, x, rfl, hbl, hx, c0, c1, c2⟩ := RSp_at3 (hR.out _ hB) hlt
      have hx' := Lib.hid hx
      have hzx := Lib.hid (hz.out x wr hB)
      have hpx := Lib.hid (show p x = p x from rfl)
      obtain ⟨pb, hpb⟩ : ∃ pb, p x = pb := ⟨_, rfl⟩
      rw [hpb] at hzx
      have hpb' := Lib.hid hpb
      obtain ⟨who, heat, lane⟩ := x
      dsimp only [spE] at *
      clear hx hpb hpx
      cases pb
      · have hF2 := Lib.hid (show ∀ x ∈ l.take (k + 1), p x = false from fun x hx => by
          rw [List.take_add_one, hx'.out] at hx
          rcases List.mem_append.1 hx with hx | hx
          · exact hF.out x hx
          · simp at hx; subst hx; exact hpb'.out)
        clear hF hx' hpb'
        go_wp2_with fail
        refine hzx.out.mono ?_; rintro e w1 ⟨rfl, B1⟩
        have hB1 := below_next hB B1
        go_wp2
        go_roundw
        case rel => exact ⟨k + 1, by omega, by go_num, hB1, hF2⟩
        case measure => simp [intOf]; omega
      · have hI := Lib.hid (show IdxSp p l n (k : Int) from .inr ⟨k, rfl, hlt, ⟨_, hx'.out, hpb'.out⟩, hF.out⟩)
        clear hF hx' hpb'
        go_wp2_with fail
        refine hzx.out.mono ?_; rintro e w1 ⟨rfl, B1⟩
        have hB1 := below_next hB B1
        go_wp2
        go_ret
        exact ⟨_, rfl, hI.out, hB1⟩
    · obtain rfl : k = n := by omega
      have hI := Lib.hid (show IdxSp p l k (-1) from .inl ⟨rfl, fun x hx => hF.out x (by rw [List.take_of_length_le (by rw [hl.out]; exact Nat.le_refl _)]; exact hx)⟩)
      go_wp2
      go_ret
      exact ⟨_, rfl, hI.out, hB⟩
theorem strikeSp (p : Sp → Bool) (R l : List Sp) (i j : Nat) (x : Sp) (hR : R.take i = (l.take j).filter fun y => !p y) (hD : R.drop j = l.drop j) (hij : i ≤ j) (hx : l[j]? = some x) (hl : R.length = l.length) :
    (p x = true → R.take i = (l.take (j + 1)).filter fun y => !p y) ∧ (p x = false → (R.set i x).take (i + 1) = (l.take (j + 1)).filter fun y => !p y) ∧ R.drop (j + 1) = l.drop (j + 1) ∧ (R.set i x).drop (j + 1) = l.drop (j + 1) := by
  have hj := lt_of_at hx
  have ht : (l.take (j + 1)).filter (fun y => !p y) = (l.take j).filter (fun y => !p y) ++ if p x = false then [x] else [] := by
    rw [List.take_add_one, hx, List.filter_append]
    congr 1
    by_cases h : p x = true <;> simp [h]
  have hd : R.drop (j + 1) = l.drop (j + 1) := by
    have h1 : (R.drop j).drop 1 = (l.drop j).drop 1 := by rw [hD]
    rw [List.drop_drop, List.drop_drop] at h1
    exact h1
  refine ⟨fun h => by rw [ht, if_neg (by simp [h]), List.append_nil, hR], fun h => ?_, hd, ?_⟩
  · rw [ht, if_pos h, List.take_add_one, List.getElem?_set_self (by omega), List.take_set_of_le (Nat.le_refl _), hR]
    rfl
  · rw [List.drop_set_of_lt (by omega)]
    exact hd
set_option maxHeartbeats 3200000 in
set_option maxRecDepth 100000 in
theorem deleteSp_c (p : Sp → Bool) (p1 : Nat) (base : Nat) (u : Value) (n : Nat) (l : List Sp) (w : World) (hown : w.ownsRow base 153 3 u n (l.flatMap spE)) (hn : n ≤ 1000) (hbw : base ≤ w.heap.size) (hP : ∀ (x : Sp) W, Keep 153 w W → Below base w W → Calls Tryz.prog 280 #[.agg (spE x).toArray, .pointer (some ⟨p1, 0, none⟩)] W fun e w' => e = .returned (.bool (p x)) ∧ Below W.heap.size W w') :
    Calls Tryz.prog 278 #[u, .func (.func 280) #[] #[.pointer (some ⟨p1, 0, none⟩)]] w fun e w' => ∃ A' n' c', e = .returned (.slice A' n' c') ∧ w'.ownsRow base 153 3 (.slice A' n' c') n' ((l.filter fun y => !p y).flatMap spE) ∧ n' ≤ n ∧ Below base w w' := by
  obtain ⟨A, c, rfl⟩ := own_shape hown
  have hlen := own_len spE_len (by decide) hown
  have hR0 := RN.of_own spE_len hown hlen (by omega)
  have hI := Lib.hid (indexDSp_c p p1 A n c l w hR0 (fun x W B => hP x W (Keep.of_below B) (B.mono hbw)))
  have hz := Lib.hid hP
  have hbel := Lib.hid (fun w' (B : Below w.heap.size w w') => show Below base w w' from B.mono hbw)
  have hkb := Lib.hid (fun w' (B : Below w.heap.size w w') => Keep.of_below (T := 153) B)
  have hlen' := Lib.hid hlen
  clear hR0 hP
  go_enter Tryz.func278, Tryz.ntmps278
  go_wp2_with fail
  refine hI.out.mono ?_; rintro e w1 ⟨i, rfl, hix, B1⟩
  have ho1 := own_below hown B1
  have hB1 := hbel.out _ B1
  have hK1 := hkb.out _ B1
  clear hI hown
  rcases hix with ⟨rfl, hall⟩ | ⟨k, rfl, hk, ⟨y, hy, hy0⟩, hall⟩
  · have hf : (l.filter fun y => !p y) = l := List.filter_eq_self.2 (fun x hx => by simpa using hall x hx)
    have hf' := Lib.hid hf
    clear hall hf hz
    go_wp2
    go_ret
    exact ⟨A, n, c, rfl, by rw [hf'.out]; exact ho1, Nat.le_refl _, hB1⟩
  · obtain ⟨g, rfl, hg⟩ := own_someN ho1 (by omega)
    have hne : ((k : Int) == -1) = false := beq_eq_false_iff_ne.2 (by omega)
    have hz1 : base ≤ w1.heap.size := Nat.le_trans hbw B1.size
    have hT0 : l.take k = (l.take (k + 1)).filter fun y => !p y := by
      rw [List.take_add_one, hy, List.filter_append, List.filter_eq_self.2 (fun x hx => by simpa using hall x hx)]
      simp [hy0]
    have hT0' := Lib.hid hT0
    clear hT0 hall hy hy0
    go_wp2_with fail
    go_loopw [5, 6] (fun iv jv wr => ∃ (i j : Nat) (R : List Sp), iv = .int .i64 i ∧ jv = .int .i64 j ∧ i < j ∧ j ≤ n ∧ Hid (R.length = n) ∧ wr.ownsRow base 153 3 (.slice (some ⟨g, 0, none⟩) n c) n (R.flatMap spE) ∧ Below base w wr ∧ base ≤ wr.heap.size ∧ Keep 153 w wr ∧ Hid (R.take i = (l.take j).filter fun y => !p y) ∧ Hid (R.drop j = l.drop j)) (fun _ jv _ => n - (intOf jv).toNat)
    case atStart => exact ⟨k, k + 1, l, rfl, by go_num, by omega, by omega, hlen', ho1, hB1, hz1, hK1, hT0', Lib.hid rfl⟩
    case round =>
      clear ho1 hB1 hz1 hK1
      rename World => wr
      obtain ⟨i, j, R, rfl, rfl, hij, hj, hRl, hown, hB, hzz, hK, hRt, hRd⟩ := hrel
      by_cases hlt : j < n
      · obtain ⟨x, hx⟩ := at_of_lt (l := l) (k := j) (by rw [hlen'.out]; exact hlt)
        have hRx : R[j]? = some x := by
          have h1 : (R.drop j)[0]? = (l.drop j)[0]? := by rw [hRd.out]
          rw [List.getElem?_drop, List.getElem?_drop, Nat.add_zero] at h1
          rw [h1, hx]
        obtain ⟨q1, q2, q3, q4⟩ := strikeSp p R l i j x hRt.out hRd.out (by omega) hx (by rw [hRl.out, hlen'.out])
        have hRR : RSp wr (some ⟨g, 0, none⟩) n R := RN.of_own spE_len hown hRl.out (by omega)
        obtain ⟨b, off, x2, hA, hbl, hx2, c0, c1, c2⟩ := RSp_at3 hRR hlt
        injection hA with hA
        injection hA with e1 e2
        subst e1 e2
        rw [hRx] at hx2
        obtain rfl := Option.some.inj hx2
        obtain ⟨r, hr⟩ := at_of_lt (l := R) (k := i) (by rw [hRl.out]; omega)
        have hst1 := Lib.hid (flat_setSp R i x r hr)
        rw [Nat.zero_add] at c0 c1 c2
        have hn5 := heap_alloc_new wr (.cells (spE x).toArray 153)
        have hBn := below_new wr (.cells (spE x).toArray 153)
        have hzx := Lib.hid (hz.out x (wr.alloc (.cells (spE x).toArray 153)) (hK.trans (Keep.of_below hBn)) (hB.trans (hBn.mono hzz)))
        obtain ⟨pb, hpb⟩ : ∃ pb, p x = pb := ⟨_, rfl⟩
        rw [hpb] at hzx q1 q2
        have hq1 := Lib.hid q1
        have hq2 := Lib.hid q2
        have hq3 := Lib.hid q3
        have hq4 := Lib.hid q4
        obtain ⟨who, heat, lane⟩ := x
        dsimp only [spE] at *
        have hown5 := own_below hown hBn
        have hB5 := hB.trans (hBn.mono hzz)
        have hK5 := hK.trans (Keep.of_below hBn)
        have hz5 : base ≤ (wr.alloc (.cells #[.string who, .int .i64 heat, .int .i64 lane] 153)).heap.size := Nat.le_trans hzz hBn.size
        clear hx hRx hx2 hr hRR q1 q2 q3 q4 hRt hRd hown hB hpb hBn hK
        cases pb
        rotate_left
        · have hT := Lib.hid (hq1.out (by first | rfl | trivial))
          clear hq1 hq2 hq4 hst1
          go_wp2_with fail
          refine hzx.out.mono ?_; rintro e w5 ⟨rfl, B5⟩
          have hown6 := own_below hown5 B5
          have hB6 := hB5.trans (B5.mono hz5)
          have hz6 : base ≤ w5.heap.size := Nat.le_trans hz5 B5.size
          have hK6 := hK5.trans (Keep.of_below B5)
          clear hown5 B5 hB5 hn5 hK5
          go_wp2
          go_roundw
          case rel => exact ⟨i, j + 1, R, rfl, by go_num, by omega, by omega, hRl, hown6, hB6, hz6, hK6, hT, hq3⟩
          case measure => simp [intOf]; omega
        · have hT := Lib.hid (hq2.out (by first | rfl | trivial))
          clear hq1 hq2 hq3
          go_wp2_with fail
          refine hzx.out.mono ?_; rintro e w5 ⟨rfl, B5⟩
          have hown6 := own_below hown5 B5
          have hB6 := hB5.trans (B5.mono hz5)
          have hz6 : base ≤ w5.heap.size := Nat.le_trans hz5 B5.size
          have hK6 := hK5.trans (Keep.of_below B5)
          have hb6 := blk_below hn5 B5
          have y0 := (blk_facts hb6).1 0
          have y1 := (blk_facts hb6).1 1
          have y2 := (blk_facts hb6).1 2
          have f0 := hown6.frozenAt (i * 3)
          have f1 := hown6.frozenAt (i * 3 + 1)
          have f2 := hown6.frozenAt (i * 3 + 2)
          obtain ⟨b', off', r', hA', _, hr', d0, d1, d2⟩ := RSp_at3 (RN.of_own spE_len hown6 hRl.out (by omega)) (k := i) (by omega)
          injection hA' with hA'
          injection hA' with e1 e2
          subst e1 e2
          rw [Nat.zero_add] at d0 d1 d2
          have hs1 := hown6.stored (i * 3) (.string who)
          have hs2 := hs1.1.stored (i * 3 + 1) (.int .i64 heat)
          have hs3 := hs2.1.stored (i * 3 + 2) (.int .i64 lane)
          have hgr := (grown_trans (grown_trans hs1.2 hs2.2) hs3.2)
          rw [hst1.out] at hs3
          have ho7 := hs3.1
          have hB7 := below_own hB6 hown6 hgr hz6 (Nat.le_refl _)
          have hK7 := hK6.trans (keep_ownSp hown6 hgr)
          have hz7 := Nat.le_trans hz6 hgr.size
          have hRl7 := Lib.hid (show (R.set i ⟨who, heat, lane⟩).length = n by rw [List.length_set]; exact hRl.out)
          have H7 := Lib.hid (And.intro ho7 (And.intro hB7 (And.intro hz7 hK7)))
          clear hs1 hs2 hs3 hgr ho7 hB7 hz7 hK7 hown6 hB6 hst1 hr' hK6 hown5 B5 hB5 hn5 hK5
          go_wp2
          go_roundw
          case rel => exact ⟨i + 1, j + 1, _, by go_num, by go_num, by omega, by omega, hRl7, H7.out.1, H7.out.2.1, H7.out.2.2.1, H7.out.2.2.2, hT, hq4⟩
          case measure => simp [intOf]; omega
      · obtain rfl : j = n := by omega
        have hfin : R.take i = l.filter fun y => !p y := by rw [hRt.out, List.take_of_length_le (by rw [hlen'.out]; exact Nat.le_refl _)]
        have hk := own_takeSp hown (k := i) (by omega)
        have hfl : (R.flatMap spE).take (i * 3) = (R.take i).flatMap spE := flat_takeSp R i
        rw [hfl, hfin] at hk
        have hzc : (Builtin.zeroCells (Value.agg #[.string ⟨#[]⟩, .int .i64 0, .int .i64 0]).cells (j - i)).toList.length = (j - i) * 3 := by rw [Array.length_toList, size_zeroCells]; rfl
        have hzo : ∀ v ∈ (Builtin.zeroCells (Value.agg #[.string ⟨#[]⟩, .int .i64 0, .int .i64 0]).cells (j - i)).toList, v.oneCell' = true := zc_oneSp (j - i)
        obtain ⟨cur, hgb, hcs, hcap⟩ := own_blkSp hown
        have hcl : ∀ ty, (Builtin.clear_ #[146] ty #[.slice (some ⟨g, i * 3, none⟩) (j - i) (c - i)]).run Tryz.prog wr = .ok (.tuple #[]) (wr.setCells g (i * 3) (Builtin.zeroCells (Value.agg #[.string ⟨#[]⟩, .int .i64 0, .int .i64 0]).cells (j - i)).toList) :=
          fun ty => run_clearSp wr _ _ ty _ Tryz.underlying146 Tryz.zeroValue153 g (i * 3) (j - i) (c - i) (by omega) hzo (fun t ht => by rw [(blk_facts hgb).1, Array.getElem?_eq_getElem (by omega)]; rfl) (fun t ht => (blk_facts hgb).2 _)
        obtain ⟨h8, h9⟩ := own_setCellsSp (Builtin.zeroCells (Value.agg #[.string ⟨#[]⟩, .int .i64 0, .int .i64 0]).cells (j - i)).toList (i * 3) wr hk (Nat.le_refl _)
        have hB9 := below_own hB hk h9 hzz (Nat.le_refl _)
        have hci : ¬ c = i := by omega
        have j0 : (0 : Int) ≤ (i : Int) := by omega
        have j1 : (i : Int) ≤ (j : Int) := by omega
        have j2 : (j : Int) ≤ (c : Int) := by omega
        have j3 : (i : Int) ≤ (c : Int) := by omega
        generalize (Builtin.zeroCells (Value.agg #[.string ⟨#[]⟩, .int .i64 0, .int .i64 0]).cells (j - i)).toList = zcs at *
        clear hzc hzo hgb hown hk hfl hfin hRt hRd hcs
        go_wp2
        go_ret
        exact ⟨_, i, c, rfl, h8, by omega, hB9⟩
end Go.Proofs.YtklggnglaeagpaaGreatDoor

/- slices.Clone of starts; tumbref1.ScratchOf and its closure. -/
namespace Go.Proofs.YtklggnglaeagpaaGreatDoor
open Go.RowKit Go.Shelf Go.Lib Go.Sort
set_option linter.unusedVariables false

theorem sp_src {w : World} {A : Option Addr} {n : Nat} {l : List Sp} (h : RSp w A n l) (hp : 0 < n) : ∃ b off, A = some ⟨b, off, none⟩ ∧ ∀ j u, (l.flatMap spE)[j]? = some u → w.cell? ⟨b, off + j, none⟩ = some u := by
  obtain ⟨b, off, cs, fz, ha, hb, hc⟩ := h.2.2 hp
  refine ⟨b, off, ha, fun j u hu => ?_⟩
  have hj := lt_of_at hu
  rw [flat_len spE_len] at hj
  obtain ⟨x, hx⟩ := at_of_lt (l := l) (k := j / 3) (by omega)
  have hi : j % 3 < 3 := Nat.mod_lt _ (by decide)
  have e : j = (j / 3) * 3 + j % 3 := by omega
  have hf := flat_atC spE_len l (j / 3) (j % 3) x hx hi
  rw [← e, hu] at hf
  rw [cell_of_row w b _ cs _ fz hb]
  have h9 := hc (j / 3) x hx (j % 3) u hf.symm
  rw [show off + j = off + (j / 3) * 3 + j % 3 by omega]
  exact h9
theorem sp_one (l : List Sp) : ∀ u ∈ l.flatMap spE, u.oneCell' = true := by
  intro u hu
  obtain ⟨x, _, hx⟩ := List.mem_flatMap.1 hu
  simp only [spE, List.mem_cons, List.not_mem_nil, or_false] at hx
  rcases hx with rfl | rfl | rfl <;> rfl
set_option maxRecDepth 100000 in
theorem cloneSp_c (A : Option Addr) (n c : Nat) (l : List Sp) (w : World) (h : RSp w A n l) (hn : n ≤ 1000) :
    Calls Tryz.prog 279 #[.slice A n c] w fun e w' => ∃ A' c', e = .returned (.slice A' n c') ∧ w'.ownsRow w.heap.size 153 3 (.slice A' n c') n (l.flatMap spE) ∧ Below w.heap.size w w' := by
  rcases A with _ | ad
  · have hn0 : n = 0 := by
      rcases Nat.eq_zero_or_pos n with h0 | hp
      · exact h0
      · obtain ⟨b, off, cs, fz, e, _⟩ := h.2.2 hp; cases e
    subst hn0
    have hl : l = [] := List.eq_nil_of_length_eq_zero h.len
    subst hl
    have hnil : ∀ W, (binOp .eql 146 (.slice none 0 c) (.slice none 0 0)).run Tryz.prog W = .ok (.bool true) W := fun W => Go.Lib.run_eql_slice_nil W _ _ none 0 c 0 0 Tryz.underlying146
    go_enter Tryz.func279, Tryz.ntmps279
    go_wp2
    go_ret
    exact ⟨none, 0, rfl, World.ownsRow_nil _ _ _ _, Below.refl _ _⟩
  · have hlen := h.len
    have hB := below_new w (.cells #[] 153)
    have hz : w.heap.size ≤ (w.alloc (.cells #[] 153)).heap.size := by simp
    have hown : (w.alloc (.cells #[] 153)).ownsRow w.heap.size 153 3 (.slice (some ⟨w.heap.size, 0, none⟩) 0 0) 0 ([] : List Value) := ⟨rfl, .inr ⟨w.heap.size, 0, #[], rfl, Nat.le_refl _, heap_alloc_new w _, Nat.le_refl _, Nat.zero_le _, by simp, rfl⟩⟩
    have hs := sp_src (h.below hB)
    have hnil : ∀ W, (binOp .eql 146 (.slice (some ad) n c) (.slice none 0 0)).run Tryz.prog W = .ok (.bool false) W := fun W => Go.Lib.run_eql_slice_nil W _ _ (some ad) n c 0 0 Tryz.underlying146
    go_enter Tryz.func279, Tryz.ntmps279
    go_wp2_with (at_builtin; refine wpList_appR rfl (.tmp 5) (.tmp 6) 146 rfl Tryz.underlying146 info_start rfl (by omega) (by omega) hown rfl (fun e => by cases e) hs rfl (by rw [flat_len spE_len, hlen]) (sp_one l) (by omega) hz ?_; intro v4 w4 hown4 hg4)
    have hB4 := below_own hB hown hg4 hz (Nat.le_refl _)
    rw [List.nil_append, Nat.zero_add] at hown4
    obtain ⟨A9, c9, rfl⟩ := own_shape hown4
    go_wp2
    go_ret
    exact ⟨A9, c9, rfl, hown4, hB4⟩
theorem scrC_c (p1 : Nat) (A : Option Addr) (n c : Nat) (a : List ByteArray) (y : Sp) (w : World) (h : RS 9 w A n a) (h1 : w.heap[p1]? = some (.cells #[.slice A n c] 97 (0, 0))) :
    Calls Tryz.prog 280 #[.agg (spE y).toArray, .pointer (some ⟨p1, 0, none⟩)] w fun e w' => e = .returned (.bool (Lib.containsS a y.who)) ∧ Below w.heap.size w w' := by
  have hR := Lib.hid (fun W B => h.below (w' := W) B)
  have hC := Lib.hid (fun W h => containsN_c A n c a y.who W h)
  obtain ⟨who, heat, lane⟩ := y
  dsimp only [spE] at *
  generalize Lib.containsS a who = R at *
  have hBn := below_new w (.cells #[.string who, .int .i64 heat, .int .i64 lane] 153)
  have hn0 := heap_alloc_new w (.cells #[.string who, .int .i64 heat, .int .i64 lane] 153)
  have hp1 := blk_below h1 hBn
  have a10 := (blk_facts hp1).1 0
  have x0 := (blk_facts hn0).1 0
  have hl1 := lt_of_heap h1
  clear hn0 h1 hp1 h
  go_enter Tryz.func280, Tryz.ntmps280
  go_wp2_with fail
  refine (hC.out _ (hR.out _ hBn)).mono ?_; rintro e w1 ⟨rfl, rfl⟩
  go_wp2
  go_ret
  exact ⟨rfl, hBn⟩
/-- heats numbered anew -/
def scrG : Int → Int → List Sp → List Sp
  | _, _, [] => []
  | old, hh, x :: l => ⟨x.who, if x.heat ≠ old then hh + 1 else hh, x.lane⟩ :: scrG x.heat (if x.heat ≠ old then hh + 1 else hh) l
theorem scrG_at (old hh : Int) {l : List Sp} {k : Nat} {x : Sp} (h : l[k]? = some x) : scrG old hh (l.drop k) = ⟨x.who, if x.heat ≠ old then hh + 1 else hh, x.lane⟩ :: scrG x.heat (if x.heat ≠ old then hh + 1 else hh) (l.drop (k + 1)) := by rw [drop_at h]; rfl
theorem scrG_len : ∀ (l : List Sp) (old hh : Int), (scrG old hh l).length = l.length
  | [], _, _ => rfl
  | x :: l, old, hh => by unfold scrG; rw [List.length_cons, List.length_cons, scrG_len l]
def scrL (a : List ByteArray) (l : List Sp) : List Sp := scrG 0 0 (l.filter fun y => !Lib.containsS a y.who)
set_option maxHeartbeats 3200000 in
set_option maxRecDepth 100000 in
theorem scratchOf_c (A B : Option Addr) (n c m d : Nat) (l : List Sp) (a : List ByteArray) (w : World) (h : RSp w A n l) (ha : RS 9 w B m a) (hn : n ≤ 1000) :
    Calls Tryz.prog 205 #[.slice A n c, .slice B m d] w fun e w' => ∃ A' n' c', e = .returned (.slice A' n' c') ∧ w'.ownsRow w.heap.size 153 3 (.slice A' n' c') n' ((scrL a l).flatMap spE) ∧ n' ≤ n ∧ Below w.heap.size w w' := by
  have hB0 := below_new w (.cells #[.slice B m d] 97)
  have hx0 := heap_alloc_new w (.cells #[.slice B m d] 97)
  have hCl := Lib.hid (cloneSp_c A n c l _ (h.below hB0) (by omega))
  have hRa := Lib.hid (ha.below hB0)
  have hz0 : w.heap.size < (w.alloc (.cells #[.slice B m d] 97)).heap.size := by simp
  obtain ⟨LL, hLe⟩ : ∃ LL, scrL a l = LL := ⟨_, rfl⟩
  rw [hLe]
  have hL := Lib.hid (show LL = scrG 0 0 (l.filter fun y => !Lib.containsS a y.who) from hLe.symm)
  clear hLe
  clear ha h
  go_enter Tryz.func205, Tryz.ntmps205
  go_wp2_with fail
  refine hCl.out.mono ?_; rintro e w3 ⟨A3, c3, rfl, own3, B3⟩
  have hb3 := blk_below hx0 B3
  have hr3 := hRa.out.below B3
  have hB3 := below_next hB0 B3
  have hw3 := B3.size
  generalize w.alloc (.cells #[.slice B m d] 97) = w2 at *
  have hD := Lib.hid (deleteSp_c (fun y => Lib.containsS a y.who) w.heap.size w2.heap.size _ n l w3 own3 (by omega) hw3 (fun x W hk hb => scrC_c w.heap.size B m d a x W (hRa.out.below (B3.trans hb)) (blk_below hx0 (B3.trans hb))))
  clear hCl hRa
  go_wp2_with fail
  refine hD.out.mono ?_; rintro e w4 ⟨A4, n4, c4, rfl, own4, hn4, B4⟩
  generalize (l.filter fun y => !Lib.containsS a y.who) = q at *
  have hl4 := Lib.hid (own_len spE_len (by decide) own4)
  have hB4 := hB3.trans (B4.mono (by omega))
  have hz4 : w2.heap.size ≤ w4.heap.size := Nat.le_trans hw3 B4.size
  have hSa := Lib.hid (fun old hh k x (hx : q[k]? = some x) => scrG_at old hh hx)
  have hS0 := Lib.hid (fun old hh => show scrG old hh [] = [] from rfl)
  have hSl := Lib.hid (scrG_len q 0 0)
  generalize scrG = SG at *
  clear hD own3 hr3 hb3 B3 hB3 hB0 hx0
  generalize hbs : w2.heap.size = base at *
  go_wp2_with fail
  go_loopw [5, 6, 7, 15] (fun o hh _ i wr => ∃ (k : Nat) (old nw : Int) (R : List Sp), k ≤ n4 ∧ i = .int .i64 k ∧ o = .int .i64 old ∧ hh = .int .i64 nw ∧ (0 ≤ nw ∧ nw ≤ k) ∧ Hid (R.length = n4) ∧ wr.ownsRow base 153 3 (.slice A4 n4 c4) n4 (R.flatMap spE) ∧ Below w.heap.size w wr ∧ base ≤ wr.heap.size ∧ Hid (R.drop k = q.drop k) ∧ Hid (R.take k ++ SG old nw (q.drop k) = SG 0 0 q)) (fun _ _ _ i _ => n4 - (intOf i).toNat)
  case atStart => exact ⟨0, 0, 0, q, Nat.zero_le _, rfl, rfl, rfl, by omega, hl4, own4, hB4, hz4, Lib.hid rfl, Lib.hid rfl⟩
  case round =>
    clear own4 hB4 hz4
    rename World => wr
    obtain ⟨k, old, nw, R, hk, rfl, rfl, rfl, ⟨nw0, nw1⟩, hRl, hown, hB, hz, hRd, hG⟩ := hrel
    by_cases hlt : k < n4
    · obtain ⟨b, rfl, hbl⟩ := own_someN hown (by omega)
      have hRR : RSp wr (some ⟨b, 0, none⟩) n4 R := RN.of_own spE_len hown hRl.out (by omega)
      obtain ⟨b', off, x, hA, hbl', hx, c0, c1, c2⟩ := RSp_at3 hRR hlt
      injection hA with hA
      injection hA with e1 e2
      subst e1 e2
      rw [Nat.zero_add] at c0 c1 c2
      have hqx : q[k]? = some x := by
        have h1 : (R.drop k)[0]? = (q.drop k)[0]? := by rw [hRd.out]
        rw [List.getElem?_drop, List.getElem?_drop, Nat.add_zero] at h1
        rw [← h1, hx]
      have hst := Lib.hid (hSa.out old nw k x hqx)
      have hfs := Lib.hid (fun v : Int => flat_set spE_len R k x ⟨x.who, v, x.lane⟩ 1 (.int .i64 v) hx (by decide) rfl)
      have htk := Lib.hid (fun y : Sp => show (R.set k y).take (k + 1) = R.take k ++ [y] by
        rw [List.take_add_one, List.take_set_of_le (Nat.le_refl _), List.getElem?_set_self (lt_of_at hx)]; rfl)
      have hdr := Lib.hid (fun y : Sp => show (R.set k y).drop (k + 1) = q.drop (k + 1) by
        rw [List.drop_set_of_lt (by omega)]
        have h1 : (R.drop k).drop 1 = (q.drop k).drop 1 := by rw [hRd.out]
        rw [List.drop_drop, List.drop_drop] at h1
        exact h1)
      obtain ⟨who, heat, lane⟩ := x
      dsimp only at *
      have hn5 := heap_alloc_new wr (.cells #[.string who, .int .i64 heat, .int .i64 lane] 153)
      have hBn := below_new wr (.cells #[.string who, .int .i64 heat, .int .i64 lane] 153)
      have hown5 := own_below hown hBn
      have hB5 := hB.alloc hB.size (.cells #[.string who, .int .i64 heat, .int .i64 lane] 153)
      have hz5 : base ≤ (wr.alloc (.cells #[.string who, .int .i64 heat, .int .i64 lane] 153)).heap.size := Nat.le_trans hz hBn.size
      have y1 := (blk_facts hn5).1 1
      have f1 := hown5.frozenAt (k * 3 + 1)
      obtain ⟨b', off', r', hA', _, hr', d0, d1, d2⟩ := RSp_at3 (RN.of_own spE_len hown5 hRl.out (by omega)) (k := k) (by omega)
      injection hA' with hA'
      injection hA' with e1 e2
      subst e1 e2
      rw [Nat.zero_add] at d0 d1 d2
      clear hx hqx hRd hown hB hz hRR hr' hbl'
      have e9 : IntKind.i64.wrap (nw + 1) = nw + 1 := IntWalk.i64_in _ (by omega)
      have hF := Lib.hid (fun (v : Int) => show Hid (_ ∧ _ ∧ _) from Lib.hid (And.intro (show ((wr.alloc (.cells #[.string who, .int .i64 heat, .int .i64 lane] 153)).setCell ⟨b, k * 3 + 1, none⟩ (.int .i64 v)).ownsRow base 153 3 (.slice (some ⟨b, 0, none⟩) n4 c4) n4 ((R.set k ⟨who, v, lane⟩).flatMap spE) by have h1 := (hown5.stored (k * 3 + 1) (.int .i64 v)).1; rw [hfs.out v] at h1; exact h1) (And.intro (below_own hB5 hown5 (hown5.stored (k * 3 + 1) (.int .i64 v)).2 hB5.size (by have := hz5; omega)) (Nat.le_trans hz5 (hown5.stored (k * 3 + 1) (.int .i64 v)).2.size))))
      clear hown5 hB5 hz5 hfs hn5 hBn
      by_cases hh : heat = old
      · subst hh
        have hG2 := Lib.hid (show (R.set k ⟨who, nw, lane⟩).take (k + 1) ++ SG heat nw (q.drop (k + 1)) = SG 0 0 q by rw [htk.out, ← hG.out, hst.out, if_neg (by simp), List.append_assoc]; rfl)
        have hD2 := Lib.hid (hdr.out ⟨who, nw, lane⟩)
        have H := Lib.hid (hF.out nw).out
        clear hG hst hF htk hdr
        go_wp2
        go_roundw
        case rel => exact ⟨k + 1, heat, nw, R.set k ⟨who, nw, lane⟩, by omega, by go_num, rfl, rfl, by omega, Lib.hid (by rw [List.length_set]; exact hRl.out), H.out.1, H.out.2.1, H.out.2.2, hD2, hG2⟩
        case measure => simp [intOf]; omega
      · have hG2 := Lib.hid (show (R.set k ⟨who, nw + 1, lane⟩).take (k + 1) ++ SG heat (nw + 1) (q.drop (k + 1)) = SG 0 0 q by rw [htk.out, ← hG.out, hst.out, if_pos hh, List.append_assoc]; rfl)
        have hD2 := Lib.hid (hdr.out ⟨who, nw + 1, lane⟩)
        have H := Lib.hid (hF.out (nw + 1)).out
        clear hG hst hF htk hdr
        go_wp2
        go_roundw
        case rel => exact ⟨k + 1, heat, nw + 1, R.set k ⟨who, nw + 1, lane⟩, by omega, by go_num, rfl, rfl, by omega, Lib.hid (by rw [List.length_set]; exact hRl.out), H.out.1, H.out.2.1, H.out.2.2, hD2, hG2⟩
        case measure => simp [intOf]; omega
    · obtain rfl : k = n4 := by omega
      have hRL : R = LL := by
        have h1 := hG.out
        rw [drop_end (by rw [hl4.out]; exact Nat.le_refl _), hS0.out, List.append_nil, List.take_of_length_le (by rw [hRl.out]; exact Nat.le_refl _)] at h1
        rw [h1, hL.out]
      rw [hRL] at hown hRl
      have hrs := own_mono hown (show w.heap.size ≤ base by omega)
      clear hG hown hRd
      go_wp2
      go_ret
      exact ⟨_, _, _, rfl, hrs, hn4, hB⟩
end Go.Proofs.YtklggnglaeagpaaGreatDoor

/- slices.IndexFunc and slices.ContainsFunc of starts, generic in the closure (its number and what it holds). -/
namespace Go.Proofs.YtklggnglaeagpaaGreatDoor
open Go.RowKit Go.Shelf Go.Lib Go.Sort
set_option linter.unusedVariables false

end Go.Proofs.YtklggnglaeagpaaGreatDoor

/- heat.checkWho, generic in the closure; the closures of heat.Scratch. -/
namespace Go.Proofs.YtklggnglaeagpaaGreatDoor
open Go.RowKit Go.Shelf Go.Lib Go.Sort
set_option linter.unusedVariables false

set_option maxHeartbeats 1600000 in
set_option maxRecDepth 100000 in
theorem checkWhoG_c (F : Nat) (hcf : ∀ (args : Array Value) (W : World), (callFunc F args).run Tryz.prog W = .ok (.enter F args) W) (caps : Array Value) (B : Option Addr) (m d : Nat) (of who : List ByteArray) (w : World) (hB : RS 9 w B m who) (hcap : (B = none ∧ m = 0 ∧ d = 0) ∨ ∃ b, B = some ⟨b, 0, none⟩ ∧ m ≤ d) (hP : ∀ s W, Below w.heap.size w W → Calls Tryz.prog F (#[.string s] ++ caps) W fun e w' => e = .returned (.bool (Lib.containsS of s)) ∧ Below W.heap.size W w') :
    Calls Tryz.prog 192 #[.slice B m d, .func (.func F) #[] caps] w fun e w' => e = .returned (.int .i64 (goneErr of who)) ∧ Below w.heap.size w w' := by
  have hl := hB.len
  have hbd := hB.bd
  have hE := Lib.hid (show goneErr of who = if 300 < m then 2 else goneL of [] who by unfold goneErr; rw [hl])
  have hcA := Lib.hid hP
  have hRS := Lib.hid (fun W b => hB.below (w' := W) b)
  have hcB := Lib.hid (fun b k (hk : k ≤ m) (e : B = some ⟨b, 0, none⟩) x W (hW : RS 9 W B m who) => show Calls Tryz.prog 186 #[.slice (some ⟨b, 0, none⟩) k d, .string x] W fun e w' => e = .returned (.bool (Lib.containsS (who.take k) x)) ∧ W = w' from containsN_c _ k d _ x W (RS_takeN (by rw [← e]; exact hW) hk))
  have hGa := Lib.hid (fun k s (h : who[k]? = some s) => goneL_at (of := of) h)
  have hG0 := Lib.hid (fun d => show goneL of d [] = 0 from rfl)
  have hl' := Lib.hid hl
  generalize goneErr of who = E at *
  generalize goneL of = GL at *
  clear hl hP hB
  by_cases hbig : 300 < m
  · obtain rfl : E = 2 := by rw [hE.out, if_pos hbig]
    have q0 : (300 : Int) < (m : Int) := by omega
    clear hE
    go_enter Tryz.func192, Tryz.ntmps192
    go_wp2
    go_ret
    exact ⟨rfl, Below.refl _ _⟩
  have q0 : ¬ (300 : Int) < (m : Int) := by omega
  have hE2 := Lib.hid (show E = GL [] who by rw [hE.out, if_neg hbig])
  clear hE
  go_enter Tryz.func192, Tryz.ntmps192
  go_wp2_with fail
  go_loopw [12] (fun i wr => ∃ k : Nat, k ≤ m ∧ i = .int .i64 k ∧ Below w.heap.size w wr ∧ Hid (GL (who.take k) (who.drop k) = GL [] who)) (fun i _ => m - (intOf i).toNat)
  case atStart => exact ⟨0, Nat.zero_le _, rfl, Below.refl _ _, Lib.hid rfl⟩
  case round =>
    rename World => wr
    obtain ⟨k, hk, rfl, hBe, hG⟩ := hrel
    by_cases hlt : k < m
    · rcases hcap with ⟨rfl, h0, _⟩ | ⟨b, rfl, hmd⟩
      · omega
      obtain ⟨b', off, s, hA, hbl, hs, c0⟩ := (hRS.out _ hBe).at_ hlt
      injection hA with hA
      injection hA with e1 e2
      subst e1 e2
      rw [Nat.zero_add] at c0
      have hst := Lib.hid (show GL [] who = if Lib.containsS of s = true then (if Lib.containsS (who.take k) s = true then 6 else GL (who.take (k + 1)) (who.drop (k + 1))) else 8 by rw [← hG.out, hGa.out k s hs])
      have hcB' := Lib.hid (fun W h => hcB.out b k (by omega) rfl s W h)
      have hcA' := Lib.hid (hcA.out s wr hBe)
      have j0 : (0 : Int) ≤ (k : Int) := by omega
      have j1 : (k : Int) ≤ (d : Int) := by omega
      clear hs hG
      by_cases h1 : Lib.containsS of s = true
      rotate_left
      · obtain rfl : E = 8 := by rw [hE2.out, hst.out, if_neg h1]
        have hd : Lib.containsS of s = false := by simpa using h1
        rw [hd] at hcA'
        clear h1 hd hst hE2
        go_wp2_with fail
        refine hcA'.out.mono ?_; rintro e w1 ⟨rfl, B1⟩
        have hB1 := below_next hBe B1
        go_wp2
        go_ret
        exact ⟨rfl, hB1⟩
      · have hd : Lib.containsS of s = true := h1
        rw [hd] at hcA'
        have hst2 := Lib.hid (show GL [] who = if Lib.containsS (who.take k) s = true then 6 else GL (who.take (k + 1)) (who.drop (k + 1)) by rw [hst.out, if_pos h1])
        clear h1 hd hst
        by_cases h2 : Lib.containsS (who.take k) s = true
        · obtain rfl : E = 6 := by rw [hE2.out, hst2.out, if_pos h2]
          have hd : Lib.containsS (who.take k) s = true := h2
          rw [hd] at hcB'
          clear h2 hd hst2 hE2
          go_wp2_with fail
          refine hcA'.out.mono ?_; rintro e w1 ⟨rfl, B1⟩
          have hB1 := below_next hBe B1
          go_wp2_with fail
          refine (hcB'.out _ (hRS.out _ hB1)).mono ?_; rintro e w2 ⟨rfl, rfl⟩
          clear c0 B1
          go_wp2
          go_ret
          exact ⟨rfl, hB1⟩
        · have hG2 := Lib.hid (show GL (who.take (k + 1)) (who.drop (k + 1)) = GL [] who by rw [hst2.out, if_neg h2])
          have hd : Lib.containsS (who.take k) s = false := by simpa using h2
          rw [hd] at hcB'
          clear h2 hd hst2
          go_wp2_with fail
          refine hcA'.out.mono ?_; rintro e w1 ⟨rfl, B1⟩
          have hB1 := below_next hBe B1
          go_wp2_with fail
          refine (hcB'.out _ (hRS.out _ hB1)).mono ?_; rintro e w2 ⟨rfl, rfl⟩
          clear c0 B1
          go_wp2
          go_roundw
          case rel => exact ⟨k + 1, by omega, by go_num, hB1, hG2⟩
          case measure => simp [intOf]; omega
    · obtain rfl : k = m := by omega
      obtain rfl : E = 0 := by rw [hE2.out, ← hG.out, drop_end (by rw [hl'.out]; exact Nat.le_refl _), hG0.out]
      go_wp2
      go_ret
      exact ⟨rfl, hBe⟩
end Go.Proofs.YtklggnglaeagpaaGreatDoor

/- heat.Scratch. -/
namespace Go.Proofs.YtklggnglaeagpaaGreatDoor
open Go.RowKit Go.Shelf Go.Lib Go.Sort
set_option linter.unusedVariables false

/-- what is carried: the row under way -/
structure ScK (w : World) (u : Value) (acc : List Sp) (wx : World) : Prop where
  o : wx.ownsRow (w.heap.size + 2) 153 3 u acc.length (acc.flatMap spE)
  bel : Below w.heap.size w wx
  z : w.heap.size + 2 ≤ wx.heap.size
section
variable {w wx w' : World} {u : Value} {acc : List Sp}
theorem ScK.below (h : ScK w u acc wx) (B : Below wx.heap.size wx w') : ScK w u acc w' := ⟨own_below h.o B, below_next h.bel B, Nat.le_trans h.z B.size⟩
theorem ScK.set (h : ScK w u acc wx) {b : Nat} (hb : w.heap.size + 2 ≤ b) (hne : ∀ i, u.ownBlock = some i → i ≠ b) (j : Nat) (v : Value) : ScK w u acc (wx.setCell ⟨b, j, none⟩ v) := by
  have hg : wx.grownBy (wx.setCell ⟨b, j, none⟩ v) (some b) := grown_setCell (grown_refl wx _) (.inl rfl) _
  exact ⟨h.o.kept hg (by by_cases e : u.ownBlock = some b; exact absurd rfl (hne b e); exact .inr e), Below.setCell h.bel (by show w.heap.size ≤ b; omega) _, Nat.le_trans h.z hg.size⟩
theorem ScK.app (h : ScK w u acc wx) {v' : Value} (x : Sp) (ho : w'.ownsRow (w.heap.size + 2) 153 3 v' (acc.length + 1) (acc.flatMap spE ++ spE x)) (hg : wx.grownBy w' u.ownBlock) : ScK w v' (acc ++ [x]) w' := by
  refine ⟨?_, below_own h.bel h.o hg h.bel.size (by omega), Nat.le_trans h.z hg.size⟩
  rw [List.length_append, ← flat_snoc]; exact ho
end
end Go.Proofs.YtklggnglaeagpaaGreatDoor
