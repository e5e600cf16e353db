import Derived.Test.YtklggnglaeagpaaGreatDoorPOrdC
import Derived.Test.YtklggnglaeagpaaGreatDoorPSeedM
import Derived.Laws.IdiomCopy
import Derived.Test.YtklggnglaeagpaaGreatDoorPRankM
import Derived.Deep.RegionHeld3
import Derived.Test.YtklggnglaeagpaaGreatDoorPDraws
/- slices.DeleteFunc of seeds in a row of the call's own: who did not finish is struck; heat.finished and tumbref1.finished. -/
namespace Go.Proofs.YtklggnglaeagpaaGreatDoor
open Go.RowKit Go.Shelf Go.Lib Go.Sort
set_option linter.unusedVariables false

theorem own_takeN {w : World} {base : Nat} {e : TypeId} {size g n c k : Nat} {xs : List Value} (h : w.ownsRow base e size (.slice (some ⟨g, 0, none⟩) n c) n xs) (hk : k ≤ n) : w.ownsRow base e size (.slice (some ⟨g, 0, none⟩) k c) k (xs.take (k * size)) := by
  have hl := h.1
  have hm : k * size ≤ n * size := Nat.mul_le_mul_right _ hk
  refine ⟨by rw [List.length_take]; omega, ?_⟩
  rcases h.2 with ⟨hv, _⟩ | ⟨g', cap, cur, hv, hb, hg, h1, h2, h3, h4⟩
  · cases hv
  · injection hv with q1 q2 q3
    injection q1 with q1
    injection q1 with q1
    subst q1 q3
    refine .inr ⟨g, c, cur, rfl, hb, hg, by omega, h2, h3, ?_⟩
    rw [← h4, List.take_take]
    congr 1
    omega
theorem own_setCells {base : Nat} {e : TypeId} {size g n c : Nat} {xs : List Value} : ∀ (vs : List Value) (o : Nat) (w : World), w.ownsRow base e size (.slice (some ⟨g, 0, none⟩) n c) n xs → n * size ≤ o → (w.setCells g o vs).ownsRow base e size (.slice (some ⟨g, 0, none⟩) n c) n xs ∧ w.grownBy (w.setCells g o vs) (some g)
  | [], _, w, h, _ => ⟨h, grown_refl _ _⟩
  | v :: r, o, w, h, ho => by
    obtain ⟨h1, h2⟩ := h.stored o v
    rw [List.set_eq_of_length_le (by rw [h.1]; exact ho)] at h1
    obtain ⟨h3, h4⟩ := own_setCells r (o + 1) _ h1 (by omega)
    exact ⟨h3, grown_trans h2 h4⟩
theorem flat_take : ∀ (R : List Sd) (i : Nat), (R.flatMap sdE).take (i * 2) = (R.take i).flatMap sdE
  | _, 0 => by simp
  | [], i + 1 => by simp
  | x :: r, i + 1 => by
    rw [List.take_succ_cons, List.flatMap_cons, List.flatMap_cons, ← flat_take r i, show (i + 1) * 2 = i * 2 + 2 by omega]
    rfl
theorem zc_one (n : Nat) : ∀ v ∈ (Builtin.zeroCells (Value.agg #[.string ⟨#[]⟩, .int .i64 0]).cells n).toList, v.oneCell' = true := by
  intro v hv
  unfold Builtin.zeroCells at hv
  rw [Array.toList_map] at hv
  obtain ⟨a, _, rfl⟩ := List.mem_map.1 hv
  show (#[Value.string ⟨#[]⟩, Value.int .i64 0][a % 2]!).oneCell' = true
  rcases Nat.mod_two_eq_zero_or_one a with h | h <;> rw [h] <;> rfl
theorem own_blk {w : World} {base : Nat} {e : TypeId} {size g n c : Nat} {xs : List Value} (h : w.ownsRow base e size (.slice (some ⟨g, 0, none⟩) n c) n xs) : ∃ cur, w.heap[g]? = some (.cells cur e (0, 0)) ∧ cur.size = c * size ∧ n ≤ c := by
  rcases h.2 with ⟨hv, _⟩ | ⟨g', cap, cur, hv, hb, hg, h1, h2, h3, h4⟩
  · cases hv
  · injection hv with q1 q2 q3
    injection q1 with q1
    injection q1 with q1
    subst q1 q3
    exact ⟨cur, hg, h3, h1⟩
theorem run_clearN {P : Program} (w : World) (t e ty : TypeId) (z : Value) (ht : P.underlying t = some (.slice e)) (hv : ∀ w, (zeroValue e).run P w = .ok z w) (b o n c : Nat) (hn : 0 < n) (h1 : ∀ v ∈ (Builtin.zeroCells z.cells n).toList, v.oneCell' = true)
    (hc : ∀ j, j < (Builtin.zeroCells z.cells n).toList.length → (w.cell? ⟨b, o + j, none⟩).isSome = true) (hf : ∀ j, j < (Builtin.zeroCells z.cells n).toList.length → w.frozen? ⟨b, o + j, none⟩ = false) :
    (Builtin.clear_ #[t] ty #[.slice (some ⟨b, o, none⟩) n c]).run P w = .ok (.tuple #[]) (w.setCells b o (Builtin.zeroCells z.cells n).toList) := by
  have hst := run_storeCells_cells (P := P) b o (Builtin.zeroCells z.cells n).toList 0 w (by simpa using hc) (by simpa using hf) h1
  simp only [Nat.add_zero] at hst
  obtain ⟨m, rfl⟩ : ∃ m, n = m + 1 := ⟨n - 1, by omega⟩
  simp [Builtin.clear_, run_underlying ht, hv, hst]
set_option maxRecDepth 100000 in
theorem isZeroB_c (x : Sd) (W : World) : Calls Tryz.prog 347 #[.agg (sdE x).toArray] W fun e w' => e = .returned (.bool (decide (x.time = 0))) ∧ Below W.heap.size W w' := by
  obtain ⟨xw, xt⟩ := x
  dsimp only [sdE] at *
  have z1 := (blk_facts (heap_alloc_new W (.cells #[.string xw, .int .i64 xt] 40))).1 1
  have hB := below_new W (.cells #[.string xw, .int .i64 xt] 40)
  by_cases h : xt = 0
  · subst h
    go_enter Tryz.func347, Tryz.ntmps347
    go_wp2
    go_ret
    exact ⟨rfl, hB⟩
  · have e1 : (xt == 0) = false := beq_eq_false_iff_ne.2 h
    have e2 : decide (xt = 0) = false := decide_eq_false h
    rw [e2]
    clear h e2
    go_enter Tryz.func347, Tryz.ntmps347
    go_wp2
    go_ret
    exact ⟨rfl, hB⟩
def IdxZB (l : List Sd) (n : Nat) (i : Int) : Prop := (i = -1 ∧ ∀ x ∈ l, x.time ≠ 0) ∨ ∃ k : Nat, i = (k : Int) ∧ k < n ∧ (∃ x, l[k]? = some x ∧ x.time = 0) ∧ ∀ x ∈ l.take k, x.time ≠ 0
set_option maxRecDepth 100000 in
theorem indexZB_c (A : Option Addr) (n c : Nat) (l : List Sd) (w : World) (h : RSd w A n l) :
    Calls Tryz.prog 413 #[.slice A n c, .func (.func 347) #[] #[]] w fun e w' => ∃ i, e = .returned (.int .i64 i) ∧ IdxZB l n i ∧ Below w.heap.size w w' := by
  have hz := Lib.hid (fun x W => isZeroB_c x W)
  have hl := Lib.hid h.len
  have hbd := h.bd
  go_enter Tryz.func413, Tryz.ntmps413
  go_wp2
  go_loopw [8] (fun i wr => ∃ k : Nat, k ≤ n ∧ i = .int .i64 k ∧ Below w.heap.size w wr ∧ Hid (∀ x ∈ l.take k, x.time ≠ 0)) (fun i _ => n - (intOf i).toNat)
  case atStart => exact ⟨0, Nat.zero_le _, rfl, Below.refl _ _, Lib.hid (fun x hx => by simp at hx)⟩
  case round =>
    obtain ⟨k, hk, rfl, hB, hF⟩ := hrel
    by_cases hlt : k < n
    · obtain ⟨b, off, x, rfl, hbl, hx, c0, c1⟩ := RSd_at2 (h.below hB) hlt
      have hx' := Lib.hid hx
      have hzx := Lib.hid (fun W => hz.out x W)
      obtain ⟨who, time⟩ := x
      dsimp only [sdE] at *
      clear hx
      by_cases h0 : time = 0
      · have hd : decide (time = 0) = true := decide_eq_true h0
        rw [hd] at hzx
        have hI := Lib.hid (show IdxZB l n (k : Int) from .inr ⟨k, rfl, hlt, ⟨_, hx'.out, h0⟩, hF.out⟩)
        clear hd h0 hF hx'
        go_wp2_with fail
        refine (hzx.out _).mono ?_; rintro e w1 ⟨rfl, B1⟩
        have hB1 := below_next hB B1
        go_wp2
        go_ret
        exact ⟨_, rfl, hI.out, hB1⟩
      · have hd : decide (time = 0) = false := decide_eq_false h0
        rw [hd] at hzx
        have hF2 := Lib.hid (show ∀ x ∈ l.take (k + 1), x.time ≠ 0 from fun x hx => by
          rw [List.take_add_one, hx'.out] at hx
          rcases List.mem_append.1 hx with hx | hx
          · exact hF.out x hx
          · simp at hx; subst hx; exact h0)
        clear hd h0 hF hx'
        go_wp2_with fail
        refine (hzx.out _).mono ?_; rintro e w1 ⟨rfl, B1⟩
        have hB1 := below_next hB B1
        go_wp2
        go_roundw
        case rel => exact ⟨k + 1, by omega, by go_num, hB1, hF2⟩
        case measure => simp [intOf]; omega
    · obtain rfl : k = n := by omega
      have hI := Lib.hid (show IdxZB l k (-1) from .inl ⟨rfl, fun x hx => hF.out x (by rw [List.take_of_length_le (by rw [hl.out]; exact Nat.le_refl _)]; exact hx)⟩)
      go_wp2
      go_ret
      exact ⟨_, rfl, hI.out, hB⟩
theorem strikeZB (R l : List Sd) (i j : Nat) (x : Sd) (hR : R.take i = (l.take j).filter fun y => decide (y.time ≠ 0)) (hD : R.drop j = l.drop j) (hij : i ≤ j) (hx : l[j]? = some x) (hl : R.length = l.length) :
    (x.time = 0 → R.take i = (l.take (j + 1)).filter fun y => decide (y.time ≠ 0)) ∧ (x.time ≠ 0 → (R.set i x).take (i + 1) = (l.take (j + 1)).filter fun y => decide (y.time ≠ 0)) ∧ R.drop (j + 1) = l.drop (j + 1) ∧ (R.set i x).drop (j + 1) = l.drop (j + 1) := by
  have hj := lt_of_at hx
  have ht : (l.take (j + 1)).filter (fun y => decide (y.time ≠ 0)) = (l.take j).filter (fun y => decide (y.time ≠ 0)) ++ if x.time ≠ 0 then [x] else [] := by
    rw [List.take_add_one, hx, List.filter_append]
    congr 1
    by_cases h : x.time = 0 <;> simp [h]
  have hd : R.drop (j + 1) = l.drop (j + 1) := by
    have h1 : (R.drop j).drop 1 = (l.drop j).drop 1 := by rw [hD]
    rw [List.drop_drop, List.drop_drop] at h1
    exact h1
  refine ⟨fun h => by rw [ht, if_neg (by simp [h]), List.append_nil, hR], fun h => ?_, hd, ?_⟩
  · rw [ht, if_pos h, List.take_add_one, List.getElem?_set_self (by omega), List.take_set_of_le (Nat.le_refl _), hR]
    rfl
  · rw [List.drop_set_of_lt (by omega)]
    exact hd
set_option maxHeartbeats 1600000 in
set_option maxRecDepth 100000 in
theorem deleteZB_c (base : Nat) (u : Value) (n : Nat) (l : List Sd) (w : World) (hown : w.ownsRow base 40 2 u n (l.flatMap sdE)) (hn : n ≤ 1000) (hbw : base ≤ w.heap.size) :
    Calls Tryz.prog 346 #[u, .func (.func 347) #[] #[]] w fun e w' => ∃ A' n' c', e = .returned (.slice A' n' c') ∧ w'.ownsRow base 40 2 (.slice A' n' c') n' ((l.filter fun y => decide (y.time ≠ 0)).flatMap sdE) ∧ n' ≤ n ∧ Below base w w' := by
  obtain ⟨A, c, rfl⟩ := own_shape hown
  have hlen := own_len sdE_len (by decide) hown
  have hR0 := RN.of_own sdE_len hown hlen (by omega)
  have hI := Lib.hid (indexZB_c A n c l w hR0)
  have hz := Lib.hid (fun x W => isZeroB_c x W)
  have hbel := Lib.hid (fun w' (B : Below w.heap.size w w') => show Below base w w' from B.mono hbw)
  have hlen' := Lib.hid hlen
  clear hR0
  go_enter Tryz.func346, Tryz.ntmps346
  go_wp2_with fail
  refine hI.out.mono ?_; rintro e w1 ⟨i, rfl, hix, B1⟩
  have ho1 := own_below hown B1
  have hB1 := hbel.out _ B1
  clear hI hown
  rcases hix with ⟨rfl, hall⟩ | ⟨k, rfl, hk, ⟨y, hy, hy0⟩, hall⟩
  · have hf : (l.filter fun y => decide (y.time ≠ 0)) = l := List.filter_eq_self.2 (fun x hx => by simpa using hall x hx)
    have hf' := Lib.hid hf
    clear hall hf hz
    go_wp2
    go_ret
    exact ⟨A, n, c, rfl, by rw [hf'.out]; exact ho1, Nat.le_refl _, hB1⟩
  · obtain ⟨g, rfl, hg⟩ := own_someN ho1 (by omega)
    have hne : ((k : Int) == -1) = false := beq_eq_false_iff_ne.2 (by omega)
    have hz1 : base ≤ w1.heap.size := Nat.le_trans hbw B1.size
    have hT0 : l.take k = (l.take (k + 1)).filter fun y => decide (y.time ≠ 0) := by
      rw [List.take_add_one, hy, List.filter_append, List.filter_eq_self.2 (fun x hx => by simpa using hall x hx)]
      simp [hy0]
    have hT0' := Lib.hid hT0
    clear hT0 hall hy hy0
    go_wp2_with fail
    go_loopw [5, 6] (fun iv jv wr => ∃ (i j : Nat) (R : List Sd), iv = .int .i64 i ∧ jv = .int .i64 j ∧ i < j ∧ j ≤ n ∧ Hid (R.length = n) ∧ wr.ownsRow base 40 2 (.slice (some ⟨g, 0, none⟩) n c) n (R.flatMap sdE) ∧ Below base w wr ∧ base ≤ wr.heap.size ∧ Hid (R.take i = (l.take j).filter fun y => decide (y.time ≠ 0)) ∧ Hid (R.drop j = l.drop j)) (fun _ jv _ => n - (intOf jv).toNat)
    case atStart => exact ⟨k, k + 1, l, rfl, by go_num, by omega, by omega, hlen', ho1, hB1, hz1, hT0', Lib.hid rfl⟩
    case round =>
      clear ho1 hB1 hz1
      obtain ⟨i, j, R, rfl, rfl, hij, hj, hRl, hown, hB, hzz, hRt, hRd⟩ := hrel
      by_cases hlt : j < n
      · obtain ⟨x, hx⟩ := at_of_lt (l := l) (k := j) (by rw [hlen'.out]; exact hlt)
        have hRx : R[j]? = some x := by
          have h1 : (R.drop j)[0]? = (l.drop j)[0]? := by rw [hRd.out]
          rw [List.getElem?_drop, List.getElem?_drop, Nat.add_zero] at h1
          rw [h1, hx]
        obtain ⟨q1, q2, q3, q4⟩ := strikeZB R l i j x hRt.out hRd.out (by omega) hx (by rw [hRl.out, hlen'.out])
        have hRR : RSd wr (some ⟨g, 0, none⟩) n R := RN.of_own sdE_len hown hRl.out (by omega)
        obtain ⟨b, off, x2, hA, hbl, hx2, c0, c1⟩ := RSd_at2 hRR hlt
        injection hA with hA
        injection hA with e1 e2
        subst e1 e2
        rw [hRx] at hx2
        obtain rfl := Option.some.inj hx2
        have hRi := at_of_lt (l := R) (k := i) (by rw [hRl.out]; omega)
        obtain ⟨r, hr⟩ := hRi
        have hst1 := Lib.hid (sdr_set R i x.who r hr)
        have hst2 := Lib.hid (sdr_set1 (R.set i ⟨x.who, r.time⟩) i x.time ⟨x.who, r.time⟩ (List.getElem?_set_self (by rw [hRl.out]; omega)))
        rw [Nat.zero_add] at c0 c1
        have hzx := Lib.hid (fun W => hz.out x W)
        have hq1 := Lib.hid q1
        have hq2 := Lib.hid q2
        have hq3 := Lib.hid q3
        have hq4 := Lib.hid q4
        obtain ⟨who, time⟩ := x
        dsimp only [sdE] at *
        have z0 := (blk_facts (heap_alloc_new wr (.cells #[.string who, .int .i64 time] 40))).1 0
        have z1 := (blk_facts (heap_alloc_new wr (.cells #[.string who, .int .i64 time] 40))).1 1
        have hown5 := hown.alloc (.cells #[.string who, .int .i64 time] 40)
        have hB5 := hB.alloc hzz (.cells #[.string who, .int .i64 time] 40)
        have hb5 := heap_alloc_new wr (.cells #[.string who, .int .i64 time] 40)
        clear hx hRx hx2 hr hRR q1 q2 q3 q4 hRt hRd hown hB
        by_cases h0 : time = 0
        · have hd : decide (time = 0) = true := decide_eq_true h0
          rw [hd] at hzx
          have hT := Lib.hid (hq1.out h0)
          clear hd h0 hq1 hq2 hq4 hst1 hst2
          go_wp2_with fail
          refine (hzx.out _).mono ?_; rintro e w5 ⟨rfl, B5⟩
          have hown6 := own_below hown5 B5
          have hB6 := hB5.trans (B5.mono (by simp; omega))
          have hz6 : base ≤ w5.heap.size := Nat.le_trans (by simp; omega) B5.size
          clear hown5 B5 hB5 hb5
          go_wp2
          go_roundw
          case rel => exact ⟨i, j + 1, R, rfl, by go_num, by omega, by omega, hRl, hown6, hB6, hz6, hT, hq3⟩
          case measure => simp [intOf]; omega
        · have hd : decide (time = 0) = false := decide_eq_false h0
          rw [hd] at hzx
          have hT := Lib.hid (hq2.out h0)
          clear hd h0 hq1 hq2 hq3
          go_wp2_with fail
          refine (hzx.out _).mono ?_; rintro e w5 ⟨rfl, B5⟩
          have hown6 := own_below hown5 B5
          have hB6 := hB5.trans (B5.mono (by simp; omega))
          have hz6 : base ≤ w5.heap.size := Nat.le_trans (by simp; omega) B5.size
          have hb6 := blk_below hb5 B5
          have y0 := (blk_facts hb6).1 0
          have y1 := (blk_facts hb6).1 1
          have f0 := hown6.frozenAt (i * 2)
          have f1 := hown6.frozenAt (i * 2 + 1)
          obtain ⟨b', off', r', hA', _, hr', d0, d1⟩ := RSd_at2 (RN.of_own sdE_len hown6 hRl.out (by omega)) (k := i) (by omega)
          injection hA' with hA'
          injection hA' with e1 e2
          subst e1 e2
          rw [Nat.zero_add] at d0 d1
          have hs1 := hown6.stored (i * 2) (.string who)
          rw [hst1.out] at hs1
          have hs2 := hs1.1.stored (i * 2 + 1) (.int .i64 time)
          rw [hst2.out, List.set_set] at hs2
          have hgr := grown_trans hs1.2 hs2.2
          have ho7 := hs2.1
          have hB7 := below_own hB6 hown6 hgr hz6 (Nat.le_refl _)
          have hz7 : base ≤ ((w5.setCell ⟨g, i * 2, none⟩ (.string who)).setCell ⟨g, i * 2 + 1, none⟩ (.int .i64 time)).heap.size := Nat.le_trans hz6 hgr.size
          have hRl7 := Lib.hid (show (R.set i ⟨who, time⟩).length = n by rw [List.length_set]; exact hRl.out)
          clear hs1 hs2 hgr hown6 hB6 hst1 hst2 hr'
          clear hown5 B5 hB5 hb5
          go_wp2
          go_roundw
          case rel => exact ⟨i + 1, j + 1, _, by go_num, by go_num, by omega, by omega, hRl7, ho7, hB7, hz7, hT, hq4⟩
          case measure => simp [intOf]; omega
      · obtain rfl : j = n := by omega
        have hfin : R.take i = l.filter fun y => decide (y.time ≠ 0) := by rw [hRt.out, List.take_of_length_le (by rw [hlen'.out]; exact Nat.le_refl _)]
        have hk := own_takeN hown (k := i) (by omega)
        have hfl : (R.flatMap sdE).take (i * 2) = (R.take i).flatMap sdE := flat_take R i
        rw [hfl, hfin] at hk
        have hzc : (Builtin.zeroCells (Value.agg #[.string ⟨#[]⟩, .int .i64 0]).cells (j - i)).toList.length = (j - i) * 2 := by rw [Array.length_toList, size_zeroCells]; rfl
        have hzo : ∀ v ∈ (Builtin.zeroCells (Value.agg #[.string ⟨#[]⟩, .int .i64 0]).cells (j - i)).toList, v.oneCell' = true := zc_one (j - i)
        obtain ⟨cur, hgb, hcs, hcap⟩ := own_blk hown
        have hcl : ∀ ty, (Builtin.clear_ #[26] ty #[.slice (some ⟨g, i * 2, none⟩) (j - i) (c - i)]).run Tryz.prog wr = .ok (.tuple #[]) (wr.setCells g (i * 2) (Builtin.zeroCells (Value.agg #[.string ⟨#[]⟩, .int .i64 0]).cells (j - i)).toList) :=
          fun ty => run_clearN wr _ _ ty _ Tryz.underlying26 Tryz.zeroValue40 g (i * 2) (j - i) (c - i) (by omega) hzo (fun t ht => by rw [(blk_facts hgb).1, Array.getElem?_eq_getElem (by omega)]; rfl) (fun t ht => (blk_facts hgb).2 _)
        obtain ⟨h8, h9⟩ := own_setCells (Builtin.zeroCells (Value.agg #[.string ⟨#[]⟩, .int .i64 0]).cells (j - i)).toList (i * 2) wr hk (Nat.le_refl _)
        have hB9 := below_own hB hk h9 hzz (Nat.le_refl _)
        have hci : ¬ c = i := by omega
        have j0 : (0 : Int) ≤ (i : Int) := by omega
        have j1 : (i : Int) ≤ (j : Int) := by omega
        have j2 : (j : Int) ≤ (c : Int) := by omega
        have j3 : (i : Int) ≤ (c : Int) := by omega
        generalize (Builtin.zeroCells (Value.agg #[.string ⟨#[]⟩, .int .i64 0]).cells (j - i)).toList = zcs at *
        clear hzc hzo hgb hown hk hfl hfin hRt hRd hcs
        go_wp2
        go_ret
        exact ⟨_, i, c, rfl, h8, by omega, hB9⟩
/-- who did finish, from the fastest one on -/
def finL (l : List Sd) : List Sd := (ordL l).filter fun y => decide (y.time ≠ 0)
theorem finL_ref (l : List Sd) : ordL (l.filter fun y => decide (y.time ≠ 0)) = finL l := (insL_filter sdSWO _ l).symm
theorem finishedRef_c (A : Option Addr) (n c : Nat) (l : List Sd) (w : World) (h : RSd w A n l) (hn : n ≤ 19) (hw : ∀ x ∈ l, 0 ≤ x.time ∧ x.time ≤ 360000) :
    Calls Tryz.prog 270 #[.slice A n c] w fun e w' => ∃ A' n' c', e = .returned (.slice A' n' c') ∧ w'.ownsRow w.heap.size 40 2 (.slice A' n' c') n' ((finL l).flatMap sdE) ∧ n' ≤ n ∧ Below w.heap.size w w' := by
  have hO := Lib.hid (cloneSd_c A n c l w h (by omega))
  have hl := Lib.hid (show ∀ x ∈ l.filter fun y => decide (y.time ≠ 0), 0 < x.time ∧ x.time ≤ 360000 from fun x hx => by
    obtain ⟨h1, h2⟩ := List.mem_filter.1 hx
    have := hw x h1
    have h3 := of_decide_eq_true h2
    omega)
  have hfr := Lib.hid (finL_ref l)
  generalize finL l = F at *
  go_enter Tryz.func270, Tryz.ntmps270
  go_wp2_with fail
  refine hO.out.mono ?_; rintro e w1 ⟨A1, c1, rfl, ho, B1⟩
  have hD := Lib.hid (deleteZB_c w.heap.size _ n _ w1 ho (by omega) B1.size)
  have hB := Lib.hid (fun w' (B : Below w.heap.size w1 w') => B1.trans B)
  have hz1 := B1.size
  clear hO ho
  go_wp2_with fail
  refine hD.out.mono ?_; rintro e w2 ⟨A2, n2, c2, rfl, ho2, hn2, B2⟩
  have hB2 := hB.out _ B2
  have hS := Lib.hid (sdSortF_c _ w2 _ n2 _ ho2 (by omega) hl.out)
  rw [hfr.out] at hS
  have hB3 := Lib.hid (fun w' (hg : w2.grownBy w' (Value.slice A2 n2 c2).ownBlock) => below_own hB2 ho2 hg hB2.size (Nat.le_refl _))
  clear hD B2 ho2
  go_wp2_with fail
  refine hS.out.mono ?_; rintro e w3 ⟨rfl, ho3, hg3⟩
  have hB4 := hB3.out _ hg3
  clear hS hg3 hB3
  go_wp2
  go_ret
  exact ⟨A2, n2, c2, rfl, ho3, hn2, hB4⟩
end Go.Proofs.YtklggnglaeagpaaGreatDoor

/- heat.CheckFinal, heat.Finals: who swims which final. -/
namespace Go.Proofs.YtklggnglaeagpaaGreatDoor
open Go.RowKit
set_option linter.unusedVariables false

structure Fl where
  sz : Int
  mn : Int
  rs : Int
def Fl.val (f : Fl) : Value := .agg #[.int .i64 f.sz, .int .i64 f.mn, .int .i64 f.rs]
def Fl.cells (f : Fl) : Array Value := #[.int .i64 f.sz, .int .i64 f.mn, .int .i64 f.rs]
def FlOk (f : Fl) : Prop := (1 ≤ f.sz ∧ f.sz ≤ 10) ∧ (1 ≤ f.mn ∧ f.mn ≤ 5) ∧ (0 ≤ f.rs ∧ f.rs ≤ 10)
instance (f : Fl) : Decidable (FlOk f) := by unfold FlOk; infer_instance
def finErr (f : Fl) : Int := if FlOk f then 0 else 1
theorem finErr_ok {f : Fl} (h : finErr f = 0) : FlOk f := by
  unfold finErr at h
  split at h
  · assumption
  · cases h
def FinB (b : Nat) (f : Fl) (v : World) : Prop := v.heap[b]? = some (.cells f.cells 128 (0, 0))
theorem FinB.keep {b : Nat} {f : Fl} (a v : World) (h : FinB b f a) (B : Below a.heap.size a v) : FinB b f v := blk_below h B
theorem FinB.at_ {b : Nat} {f : Fl} {v : World} (h : FinB b f v) : v.cell? ⟨b, 0, none⟩ = some (.int .i64 f.sz) ∧ v.cell? ⟨b, 1, none⟩ = some (.int .i64 f.mn) ∧ v.cell? ⟨b, 2, none⟩ = some (.int .i64 f.rs) :=
  ⟨(blk_facts h).1 0, (blk_facts h).1 1, (blk_facts h).1 2⟩
set_option maxHeartbeats 1600000 in
theorem checkFinal_c (f : Fl) (w : World) : Calls Tryz.prog 190 #[f.val] w fun e w' => e = .returned (.int .i64 (finErr f)) ∧ Below w.heap.size w w' := by
  have hE0 := Lib.hid (fun h => show finErr f = 0 from if_pos h)
  have hE1 := Lib.hid (fun h => show finErr f = 1 from if_neg h)
  generalize finErr f = E at *
  obtain ⟨sz, mn, rs⟩ := f
  simp only [FlOk, Fl.val] at *
  have hz := (blk_facts (heap_alloc_new w (.cells #[.int .i64 sz, .int .i64 mn, .int .i64 rs] 128))).1
  have hB := below_new w (.cells #[.int .i64 sz, .int .i64 mn, .int .i64 rs] 128)
  have z0 := hz 0
  have z1 := hz 1
  have z2 := hz 2
  clear hz
  by_cases c0 : 1 ≤ sz ∧ sz ≤ 10
  rotate_left
  · obtain rfl := hE1.out (fun h => c0 h.1)
    have d0 : decide (1 ≤ sz ∧ sz ≤ 10) = false := decide_eq_false c0
    clear hE0 hE1 c0
    go_enter Tryz.func190, Tryz.ntmps190
    go_wp2_with (go_at_call 128; refine (within_c _ _ _ _).mono ?_; rintro e w' ⟨rfl, rfl⟩; rw [d0])
    go_ret
    exact ⟨rfl, hB⟩
  have d0 : decide (1 ≤ sz ∧ sz ≤ 10) = true := decide_eq_true c0
  by_cases c1 : 1 ≤ mn ∧ mn ≤ 5
  rotate_left
  · obtain rfl := hE1.out (fun h => c1 h.2.1)
    have d1 : decide (1 ≤ mn ∧ mn ≤ 5) = false := decide_eq_false c1
    clear hE0 hE1 c0 c1
    go_enter Tryz.func190, Tryz.ntmps190
    go_wp2_with (go_at_call 128; refine (within_c _ _ _ _).mono ?_; rintro e w' ⟨rfl, rfl⟩; first | rw [d0] | rw [d1])
    go_ret
    exact ⟨rfl, hB⟩
  have d1 : decide (1 ≤ mn ∧ mn ≤ 5) = true := decide_eq_true c1
  by_cases c2 : 0 ≤ rs ∧ rs ≤ 10
  rotate_left
  · obtain rfl := hE1.out (fun h => c2 h.2.2)
    have d2 : decide (0 ≤ rs ∧ rs ≤ 10) = false := decide_eq_false c2
    clear hE0 hE1 c0 c1 c2
    go_enter Tryz.func190, Tryz.ntmps190
    go_wp2_with (go_at_call 128; refine (within_c _ _ _ _).mono ?_; rintro e w' ⟨rfl, rfl⟩; first | rw [d0] | rw [d1] | rw [d2])
    go_ret
    exact ⟨rfl, hB⟩
  have d2 : decide (0 ≤ rs ∧ rs ≤ 10) = true := decide_eq_true c2
  obtain rfl := hE0.out ⟨c0, c1, c2⟩
  clear hE0 hE1 c0 c1 c2
  go_enter Tryz.func190, Tryz.ntmps190
  go_wp2_with (go_at_call 128; refine (within_c _ _ _ _).mono ?_; rintro e w' ⟨rfl, rfl⟩; first | rw [d0] | rw [d1] | rw [d2])
  go_ret
  exact ⟨rfl, hB⟩
set_option maxHeartbeats 1600000 in
theorem finalFault_c (f : Fl) (w : World) : Calls Tryz.prog 76 #[f.val] w fun e w' => e = .returned (.int .i64 (finErr f)) ∧ Below w.heap.size w w' := by
  have hE0 := Lib.hid (fun h => show finErr f = 0 from if_pos h)
  have hE1 := Lib.hid (fun h => show finErr f = 1 from if_neg h)
  generalize finErr f = E at *
  obtain ⟨sz, mn, rs⟩ := f
  simp only [FlOk, Fl.val] at *
  have hz := (blk_facts (heap_alloc_new w (.cells #[.int .i64 sz, .int .i64 mn, .int .i64 rs] 128))).1
  have hB := below_new w (.cells #[.int .i64 sz, .int .i64 mn, .int .i64 rs] 128)
  have z0 := hz 0
  have z1 := hz 1
  have z2 := hz 2
  clear hz
  by_cases c0 : 1 ≤ sz ∧ sz ≤ 10
  rotate_left
  · obtain rfl := hE1.out (fun h => c0 h.1)
    have d0 : decide (1 ≤ sz ∧ sz ≤ 10) = false := decide_eq_false c0
    clear hE0 hE1 c0
    go_enter Tryz.func76, Tryz.ntmps76
    go_wp2_with (go_at_call 115; refine (in_c _ _ _ _).mono ?_; rintro e w' ⟨rfl, rfl⟩; rw [d0])
    go_ret
    exact ⟨rfl, hB⟩
  have d0 : decide (1 ≤ sz ∧ sz ≤ 10) = true := decide_eq_true c0
  by_cases c1 : 1 ≤ mn ∧ mn ≤ 5
  rotate_left
  · obtain rfl := hE1.out (fun h => c1 h.2.1)
    have d1 : decide (1 ≤ mn ∧ mn ≤ 5) = false := decide_eq_false c1
    clear hE0 hE1 c0 c1
    go_enter Tryz.func76, Tryz.ntmps76
    go_wp2_with (go_at_call 115; refine (in_c _ _ _ _).mono ?_; rintro e w' ⟨rfl, rfl⟩; first | rw [d0] | rw [d1])
    go_ret
    exact ⟨rfl, hB⟩
  have d1 : decide (1 ≤ mn ∧ mn ≤ 5) = true := decide_eq_true c1
  by_cases c2 : 0 ≤ rs ∧ rs ≤ 10
  rotate_left
  · obtain rfl := hE1.out (fun h => c2 h.2.2)
    have d2 : decide (0 ≤ rs ∧ rs ≤ 10) = false := decide_eq_false c2
    clear hE0 hE1 c0 c1 c2
    go_enter Tryz.func76, Tryz.ntmps76
    go_wp2_with (go_at_call 115; refine (in_c _ _ _ _).mono ?_; rintro e w' ⟨rfl, rfl⟩; first | rw [d0] | rw [d1] | rw [d2])
    go_ret
    exact ⟨rfl, hB⟩
  have d2 : decide (0 ≤ rs ∧ rs ≤ 10) = true := decide_eq_true c2
  obtain rfl := hE0.out ⟨c0, c1, c2⟩
  clear hE0 hE1 c0 c1 c2
  go_enter Tryz.func76, Tryz.ntmps76
  go_wp2_with (go_at_call 115; refine (in_c _ _ _ _).mono ?_; rintro e w' ⟨rfl, rfl⟩; first | rw [d0] | rw [d1] | rw [d2])
  go_ret
  exact ⟨rfl, hB⟩
/-- what number i swims -/
def cls (f : Fl) (i : Nat) : Int := if (i : Int) < f.sz * f.mn then (i : Int) / f.sz + 1 else if (i : Int) < f.sz * f.mn + f.rs then 0 else -1
/-- 1 and how many of a list are faster -/
def fasterN (t : Int) (L : List Sd) : Nat := (L.filter fun y => decide (y.time < t)).length
def rnkS (L : List Sd) (t : Int) : Int := 1 + (fasterN t L : Int)
theorem faster_snoc (t : Int) (L : List Sd) (y : Sd) : fasterN t (L ++ [y]) = fasterN t L + if y.time < t then 1 else 0 := by
  unfold fasterN
  rw [List.filter_append, List.length_append]
  congr 1
  by_cases h : y.time < t
  · rw [if_pos h, List.filter_cons, if_pos (by simpa using h)]; rfl
  · rw [if_neg h, List.filter_cons, if_neg (by simpa using h)]; rfl
structure Pc where
  who : ByteArray
  fin : Int
  rk : Int
def pcE (x : Pc) : List Value := [.string x.who, .int .i64 x.fin, .int .i64 x.rk]
theorem pcE_len : ∀ x, (pcE x).length = 3 := fun _ => rfl
abbrev RPc (w : World) (A : Option Addr) (n : Nat) (l : List Pc) : Prop := RN 3 pcE 144 w A n l
theorem RPc_at3 {w : World} {A : Option Addr} {n : Nat} {l : List Pc} (h : RPc w A n l) {k : Nat} (hk : k < n) : ∃ b off x, A = some ⟨b, off, none⟩ ∧ b < w.heap.size ∧ l[k]? = some x ∧ w.cell? ⟨b, off + k * 3, none⟩ = some (.string x.who) ∧ w.cell? ⟨b, off + k * 3 + 1, none⟩ = some (.int .i64 x.fin) ∧ w.cell? ⟨b, off + k * 3 + 2, none⟩ = some (.int .i64 x.rk) := by
  obtain ⟨b, off, x, hA, hb, hx, hc⟩ := h.at_ hk
  exact ⟨b, off, x, hA, hb, hx, hc 0 _ rfl, hc 1 _ rfl, hc 2 _ rfl⟩
theorem RSd_drewF {w : World} {A : Option Addr} {n : Nat} {l : List Sd} (h : RSd w A n l) : RSd w.drew A n l := h
theorem info_place : (Tryz.prog.info? 144).map (fun i => (i.zero, i.size, i.bytes)) = some (some (.agg #[.string ⟨#[]⟩, .int .i64 0, .int .i64 0]), 3, 32) := by kernel_rfl
/-- the places of swimmers in an order -/
def plc (f : Fl) (L : List Sd) : Nat → List Sd → List Pc
  | _, [] => []
  | i, x :: r => (if 0 ≤ cls f i then [⟨x.who, cls f i, rnkS L x.time⟩] else []) ++ plc f L (i + 1) r
theorem plc_at {f : Fl} {L l : List Sd} {k : Nat} {x : Sd} (h : l[k]? = some x) : plc f L k (l.drop k) = (if 0 ≤ cls f k then [⟨x.who, cls f k, rnkS L x.time⟩] else []) ++ plc f L (k + 1) (l.drop (k + 1)) := by rw [drop_at h]; rfl
theorem flat_snocP (l : List Pc) (x : Pc) : (l ++ [x]).flatMap pcE = l.flatMap pcE ++ pcE x := by rw [List.flatMap_append]; simp
/-- heat.Finals of right seeds and right finals -/
def plcV (f : Fl) (l : List Sd) : List Pc := plc f (finL l) 0 (finL l)
end Go.Proofs.YtklggnglaeagpaaGreatDoor

/- tumbref1.PlaceNames, (*Stream).Taken, tumbref1.GoneFault. -/
namespace Go.Proofs.YtklggnglaeagpaaGreatDoor
open Go.RowKit
set_option linter.unusedVariables false

theorem shelfN {e : TypeId} {w : World} {A : Option Addr} {n : Nat} {l : List ByteArray} (h : RS e w A n l) (hp : 0 < n) : ∃ b off, A = some ⟨b, off, none⟩ ∧ ∀ j, j < l.length → w.cell? ⟨b, off + j, none⟩ = some (.string (l.getD j ⟨#[]⟩)) := by
  obtain ⟨b, off, cs, fz, hA, hb, hc⟩ := h.2.2 hp
  refine ⟨b, off, hA, fun j hj => ?_⟩
  have hx : l[j]? = some (l.getD j ⟨#[]⟩) := by rw [List.getD_eq_getElem?_getD, List.getElem?_eq_getElem hj]; rfl
  rw [cell_of_row w b _ cs e fz hb]
  exact hc j _ hx
theorem containsN_c (A : Option Addr) (n c : Nat) (l : List ByteArray) (x : ByteArray) (w : World) (h : RS 9 w A n l) :
    Calls Tryz.prog 186 #[.slice A n c, .string x] w fun e w' => e = .returned (.bool (Lib.containsS l x)) ∧ w = w' := by
  have hl := h.len
  have hb := h.bd
  rcases Nat.eq_zero_or_pos n with h0 | hp
  · subst h0
    obtain rfl : l = [] := List.eq_nil_of_length_eq_zero hl
    exact (Tryz.slices_Contains_string_empty A c x w).mono fun _ _ ⟨h1, h2⟩ => ⟨by rw [h1]; rfl, h2.symm⟩
  · obtain ⟨b, off, rfl, hc⟩ := shelfN h hp
    refine (Tryz.slices_Contains_string b off n c l x w (by omega) (by omega) hc).mono fun _ _ ⟨he, hw⟩ => ⟨?_, hw.symm⟩
    rw [he, List.take_of_length_le (by omega)]
theorem RS_takeN {w : World} {b o n k : Nat} {l : List ByteArray} (h : RS 9 w (some ⟨b, o, none⟩) n l) (hk : k ≤ n) : RS 9 w (some ⟨b, o, none⟩) k (l.take k) := by
  have hl := h.len
  refine ⟨by rw [List.length_take]; omega, by have := h.bd; omega, fun hp => ?_⟩
  obtain ⟨b', o', cs, fz, hA, hb, hc⟩ := h.2.2 (by omega)
  refine ⟨b', o', cs, fz, hA, hb, fun j x hx => hc j x ?_⟩
  rw [List.getElem?_take] at hx
  split at hx
  · exact hx
  · cases hx
set_option maxHeartbeats 1600000 in
set_option maxRecDepth 100000 in
theorem placeNames_c (A : Option Addr) (n c : Nat) (O : List Pc) (w1 : World) (h : RPc w1 A n O) (hn : n ≤ 1000) : Calls Tryz.prog 75 #[.slice A n c] w1 fun e w' => ∃ A' n' c', e = .returned (.slice A' n' c') ∧ RS 9 w' A' n' (O.map Pc.who) ∧ Below w1.heap.size w1 w' := by
  have hOl := Lib.hid h.len
  have hR := Lib.hid (fun W B => h.below (w' := W) B)
  clear h
  go_enter Tryz.func75, Tryz.ntmps75
  go_wp2_with fail
  go_loopw [3, 8] (fun u i wr => ∃ k : Nat, k ≤ n ∧ i = .int .i64 k ∧ NL w1 u ((O.take k).map Pc.who) wr) (fun _ i _ => n - (intOf i).toNat)
  case atStart => exact ⟨0, Nat.zero_le _, rfl, NL.start w1⟩
  case round =>
    obtain ⟨k, hk, rfl, K⟩ := hrel
    obtain ⟨Au, cu, rfl⟩ := own_shape K.own
    have hlk := Lib.hid (show ((O.take k).map Pc.who).length = k by rw [List.length_map, List.length_take, hOl.out]; omega)
    rw [hlk.out] at K ⊢
    by_cases hlt : k < n
    · obtain ⟨b, off, x, rfl, hbl, hx, c0, c1, c2⟩ := RPc_at3 (hR.out _ K.bel) hlt
      have htk := Lib.hid (show (O.take (k + 1)).map Pc.who = (O.take k).map Pc.who ++ [x.who] by rw [List.take_add_one, hx, List.map_append]; rfl)
      obtain ⟨who, fin, rk⟩ := x
      dsimp only at *
      have K5 := K.below (below_new wr (.cells #[.string who, .int .i64 fin, .int .i64 rk] 144))
      have z0 := (blk_facts (heap_alloc_new wr (.cells #[.string who, .int .i64 fin, .int .i64 rk] 144))).1 0
      have hown := K5.own
      have hsz := K5.bel.size
      rw [hlk.out] at hown
      have hA := Lib.hid (fun v' w' ho hg => K5.app (v' := v') (x := who) (w' := w') ho hg)
      rw [hlk.out] at hA
      clear hx K K5
      go_wp2_with (at_builtin; refine wpList_app rfl (.tmp 12) (.tmp 15) 97 rfl Tryz.underlying97 info_strS rfl (by omega) (by omega) hown rfl rfl (by first | rfl | (simp; done)) (by rfl) (by simp [Value.oneCell']) (by omega) hsz ?_; intro v4 w4 hown4 hg4)
      have K4 := hA.out v4 w4 hown4 hg4
      clear hown4 hg4 hown hA z0
      go_roundw
      case rel => exact ⟨k + 1, by omega, by go_num, by rw [htk.out]; exact K4⟩
      case measure => simp [intOf]; omega
    · obtain rfl : k = n := by omega
      have hrs : RS 9 wr Au k (O.map Pc.who) := by
        have h := K.own
        rw [hlk.out, List.take_of_length_le (by rw [hOl.out]; exact Nat.le_refl _)] at h
        exact RS.of_own h (by omega)
      have hbel := K.bel
      clear K hR
      go_wp2
      go_ret
      exact ⟨Au, k, cu, rfl, hrs, hbel⟩
def RetTk (w : World) (g : Nat) (zs : Zs) (k N : Nat) (e : Ending) (w' : World) : Prop := ∃ (A : Option Addr) (n c : Nat) (l : List ByteArray) (k' : Nat), e = .returned (.slice A n c) ∧ RS 9 w' A n l ∧ ((A = none ∧ n = 0 ∧ c = 0) ∨ ∃ b, A = some ⟨b, 0, none⟩ ∧ n ≤ c) ∧ n ≤ N + 1 ∧ St w' g zs k' ∧ k' ≤ k + N + 5 ∧ w.grownBy w' (some g)
set_option maxHeartbeats 3200000 in
set_option maxRecDepth 100000 in
theorem taken_c (g : Nat) (zs : Zs) (k N cN : Nat) (AN : Option Addr) (names : List ByteArray) (w : World) (h : St w g zs k) (hk : k + 2000 ≤ 1099511627776) (hN : N ≤ 500) (hr : RS 9 w AN N names) :
    Calls Tryz.prog 74 #[.pointer (some ⟨g, 0, none⟩), .slice AN N cN] w (RetTk w g zs k N) := by
  have hglt := h.lt
  have hRk := Lib.hid (fun v (hg : w.grownBy v (some g)) => show RS 9 v AN N names from hr.keep (T := 25) (by decide) (h.keep hg))
  have hRb := Lib.hid (fun v (hb : Below w.heap.size w v) => hr.below hb)
  clear hr
  go_enter Tryz.func74, Tryz.ntmps74
  go_wp2_with fail
  go_loopw [5, 10] (fun u i wr => ∃ (j m kk : Nat) (acc : List ByteArray), j ≤ N ∧ i = .int .i64 j ∧ m ≤ j ∧ kk ≤ k + j ∧ wr.ownsRow w.heap.size 9 1 u m (acc.map Value.string) ∧ St wr g zs kk ∧ w.grownBy wr (some g)) (fun _ i _ => N - (intOf i).toNat)
  case atStart => exact ⟨0, 0, k, [], Nat.zero_le _, rfl, Nat.le_refl _, by omega, World.ownsRow_nil _ _ _ _, h, grown_refl _ _⟩
  case round =>
    clear h
    obtain ⟨j, m, kk, acc, hj, rfl, hm, hkk, hown, hst, hgr⟩ := hrel
    by_cases hlt : j < N
    · obtain ⟨b, off, x, hA, hbl, hx, c0⟩ := (hRk.out _ hgr).at_ hlt
      subst hA
      go_wp2_with fail
      refine (flipE_c g zs kk _ _ hst (by omega) (by omega) (by omega)).mono ?_; rintro e w2 ⟨fl, rfl, s2, g2⟩
      have hgr2 := grown_trans hgr g2
      have hown2 := own_keep hown hglt g2
      have hz2 := hgr2.size
      clear hst g2 hown hgr hx
      cases fl
      · go_wp2
        go_roundw
        case rel => exact ⟨j + 1, m, kk + 1, acc, by omega, by go_num, by omega, by omega, hown2, s2, hgr2⟩
        case measure => simp [intOf]; omega
      · go_wp2_with (at_builtin; refine wpList_app rfl (.tmp 16) (.tmp 18) 97 rfl Tryz.underlying97 info_strS rfl (by omega) (by omega) hown2 rfl rfl (by first | rfl | (simp; done)) (by rfl) (by simp [Value.oneCell']) (by omega) hz2 ?_; intro v4 w4 hown4 hg4)
        have hgr4 := grown_own hgr2 hg4 (own_row_lt hown2)
        have hst4 := s2.grown hg4 (fun i hi => by have := own_row_lt hown2 i hi; omega)
        clear hgr2 hg4 s2 hown2
        go_roundw
        case rel => exact ⟨j + 1, m + 1, kk + 1, acc ++ [x], by omega, by go_num, by omega, by omega, by rw [strs_app]; exact hown4, hst4, hgr4⟩
        case measure => simp [intOf]; omega
    · obtain rfl : j = N := by omega
      go_wp2_with fail
      refine (flipE_c g zs kk _ _ hst (by omega) (by omega) (by omega)).mono ?_; rintro e w2 ⟨fl, rfl, s2, g2⟩
      have hgr2 := grown_trans hgr g2
      have hown2 := own_keep hown hglt g2
      have hz2 := hgr2.size
      clear hst g2 hown hgr
      cases fl
      · obtain ⟨A9, c9, rfl⟩ := own_shape hown2
        have hcp := own_cap hown2 rfl
        have hrs := RS.of_own hown2 (by omega)
        go_wp2
        go_ret
        exact ⟨A9, m, c9, acc, kk + 1, rfl, hrs, hcp, by omega, s2, by omega, hgr2⟩
      · go_wp2_with fail
        refine (some_c g zs (kk + 1) _ _ _ [⟨#[122, 122]⟩, ⟨#[115, 48]⟩, ⟨#[115, 49]⟩] _ (s2.alloc _) (by omega) (R1.litAt _ _ _ _ (by simp) rfl (le_big (by simp))) (by simp)).mono ?_; rintro e w3 ⟨rfl, s3, g3⟩
        have hgr3 := grown_trans (grown_alloc hgr2 _) g3
        have hown3 := own_keep (hown2.alloc _) hglt g3
        have hz3 := hgr3.size
        clear s2 g3 hown2 hgr2
        generalize pickV zs (kk + 1) ([⟨#[122, 122]⟩, ⟨#[115, 48]⟩, ⟨#[115, 49]⟩] : List ByteArray) = x9 at *
        go_wp2_with (at_builtin; refine wpList_app rfl (.tmp 23) (.tmp 27) 97 rfl Tryz.underlying97 info_strS rfl (by omega) (by omega) hown3 rfl rfl (by first | rfl | (simp; done)) (by rfl) (by simp [Value.oneCell']) (by omega) hz3 ?_; intro v4 w4 hown4 hg4)
        have hgr4 := grown_own hgr3 hg4 (own_row_lt hown3)
        have hst4 := s3.grown hg4 (fun i hi => by have := own_row_lt hown3 i hi; omega)
        have ho5 : w4.ownsRow w.heap.size 9 1 v4 (m + 1) ((acc ++ [x9]).map Value.string) := by rw [strs_app]; exact hown4
        obtain ⟨A9, c9, rfl⟩ := own_shape ho5
        have hcp := own_cap ho5 rfl
        have hrs := RS.of_own ho5 (by omega)
        clear hgr3 hg4 s3 hown3 hown4 ho5
        go_wp2
        go_ret
        exact ⟨A9, m + 1, c9, acc ++ [x9], kk + 2, rfl, hrs, hcp, by omega, hst4, by omega, hgr4⟩
def goneL (of : List ByteArray) : List ByteArray → List ByteArray → Int
  | _, [] => 0
  | done, s :: r => if Lib.containsS of s = true then (if Lib.containsS done s = true then 6 else goneL of (done ++ [s]) r) else 8
def goneErr (of who : List ByteArray) : Int := if 300 < who.length then 2 else goneL of [] who
theorem goneL_at {of who : List ByteArray} {k : Nat} {s : ByteArray} (h : who[k]? = some s) : goneL of (who.take k) (who.drop k) = if Lib.containsS of s = true then (if Lib.containsS (who.take k) s = true then 6 else goneL of (who.take (k + 1)) (who.drop (k + 1))) else 8 := by
  rw [drop_at h, List.take_add_one, h]
  rfl
theorem goneL_ok {of : List ByteArray} : ∀ (r done : List ByteArray), goneL of done r = 0 → done.Nodup → (∀ s ∈ r, s ∈ of) ∧ (done ++ r).Nodup
  | [], done, _, hd => ⟨fun s hs => (by cases hs), by simpa using hd⟩
  | s :: r, done, h, hd => by
    rw [show goneL of done (s :: r) = if Lib.containsS of s = true then (if Lib.containsS done s = true then 6 else goneL of (done ++ [s]) r) else 8 from rfl] at h
    split at h
    · split at h
      · cases h
      · rename_i h1 h2
        have hd2 : (done ++ [s]).Nodup := List.nodup_append.2 ⟨hd, by simp, fun a ha b hb e => by simp at hb; subst hb; subst e; exact h2 ((Lib.containsS_iff _ _).2 ha)⟩
        obtain ⟨i1, i2⟩ := goneL_ok r _ h hd2
        refine ⟨fun t ht => ?_, by rw [List.append_assoc] at i2; exact i2⟩
        rcases List.mem_cons.1 ht with rfl | ht
        · exact (Lib.containsS_iff _ _).1 h1
        · exact i1 t ht
    · cases h
theorem goneErr_ok {of who : List ByteArray} (h : goneErr of who = 0) : who.length ≤ 300 ∧ (∀ s ∈ who, s ∈ of) ∧ who.Nodup := by
  unfold goneErr at h
  split at h
  · cases h
  · obtain ⟨h1, h2⟩ := goneL_ok who [] h (by simp)
    exact ⟨by omega, h1, by simpa using h2⟩
set_option maxHeartbeats 1600000 in
set_option maxRecDepth 100000 in
theorem goneFault_c (A B : Option Addr) (n c m d : Nat) (of who : List ByteArray) (w : World) (hA : RS 9 w A n of) (hB : RS 9 w B m who) (hcap : (B = none ∧ m = 0 ∧ d = 0) ∨ ∃ b, B = some ⟨b, 0, none⟩ ∧ m ≤ d) :
    Calls Tryz.prog 78 #[.slice A n c, .slice B m d] w fun e w' => e = .returned (.int .i64 (goneErr of who)) ∧ w = w' := by
  have hl := hB.len
  have hbd := hB.bd
  have hE := Lib.hid (show goneErr of who = if 300 < m then 2 else goneL of [] who by unfold goneErr; rw [hl])
  have hcA := Lib.hid (fun x => containsN_c A n c of x w hA)
  have hcB := Lib.hid (fun b k (hk : k ≤ m) (e : B = some ⟨b, 0, none⟩) x => show Calls Tryz.prog 186 #[.slice (some ⟨b, 0, none⟩) k d, .string x] w fun e w' => e = .returned (.bool (Lib.containsS (who.take k) x)) ∧ w = w' from containsN_c _ k d _ x w (RS_takeN (by rw [← e]; exact hB) hk))
  have hGa := Lib.hid (fun k s (h : who[k]? = some s) => goneL_at (of := of) h)
  have hG0 := Lib.hid (fun d => show goneL of d [] = 0 from rfl)
  have hl' := Lib.hid hl
  generalize goneErr of who = E at *
  generalize goneL of = GL at *
  clear hl hA
  by_cases hbig : 300 < m
  · obtain rfl : E = 2 := by rw [hE.out, if_pos hbig]
    have q0 : (300 : Int) < (m : Int) := by omega
    clear hE
    go_enter Tryz.func78, Tryz.ntmps78
    go_wp2
    go_ret
    exact ⟨rfl, rfl⟩
  have q0 : ¬ (300 : Int) < (m : Int) := by omega
  have hE2 := Lib.hid (show E = GL [] who by rw [hE.out, if_neg hbig])
  clear hE
  go_enter Tryz.func78, Tryz.ntmps78
  go_wp2_with fail
  go_loopw [12] (fun i wr => ∃ k : Nat, k ≤ m ∧ i = .int .i64 k ∧ w = wr ∧ Hid (GL (who.take k) (who.drop k) = GL [] who)) (fun i _ => m - (intOf i).toNat)
  case atStart => exact ⟨0, Nat.zero_le _, rfl, rfl, Lib.hid rfl⟩
  case round =>
    obtain ⟨k, hk, rfl, rfl, hG⟩ := hrel
    by_cases hlt : k < m
    · rcases hcap with ⟨rfl, h0, _⟩ | ⟨b, rfl, hmd⟩
      · omega
      obtain ⟨b', off, s, hA, hbl, hs, c0⟩ := hB.at_ hlt
      injection hA with hA
      injection hA with e1 e2
      subst e1 e2
      rw [Nat.zero_add] at c0
      have hst := Lib.hid (show GL [] who = if Lib.containsS of s = true then (if Lib.containsS (who.take k) s = true then 6 else GL (who.take (k + 1)) (who.drop (k + 1))) else 8 by rw [← hG.out, hGa.out k s hs])
      have hcB' := Lib.hid (hcB.out b k (by omega) rfl s)
      have hcA' := Lib.hid (hcA.out s)
      have j0 : (0 : Int) ≤ (k : Int) := by omega
      have j1 : (k : Int) ≤ (d : Int) := by omega
      clear hs hG
      by_cases h1 : Lib.containsS of s = true
      rotate_left
      · obtain rfl : E = 8 := by rw [hE2.out, hst.out, if_neg h1]
        have hd : Lib.containsS of s = false := by simpa using h1
        rw [hd] at hcA'
        clear h1 hd hst hE2
        go_wp2_with fail
        refine hcA'.out.mono ?_; rintro e w1 ⟨rfl, rfl⟩
        go_wp2
        go_ret
        exact ⟨rfl, rfl⟩
      · have hd : Lib.containsS of s = true := h1
        rw [hd] at hcA'
        have hst2 := Lib.hid (show GL [] who = if Lib.containsS (who.take k) s = true then 6 else GL (who.take (k + 1)) (who.drop (k + 1)) by rw [hst.out, if_pos h1])
        clear h1 hd hst
        by_cases h2 : Lib.containsS (who.take k) s = true
        · obtain rfl : E = 6 := by rw [hE2.out, hst2.out, if_pos h2]
          have hd : Lib.containsS (who.take k) s = true := h2
          rw [hd] at hcB'
          clear h2 hd hst2 hE2
          go_wp2_with fail
          refine hcA'.out.mono ?_; rintro e w1 ⟨rfl, rfl⟩
          go_wp2_with fail
          refine hcB'.out.mono ?_; rintro e w1 ⟨rfl, rfl⟩
          go_wp2
          go_ret
          exact ⟨rfl, rfl⟩
        · have hG2 := Lib.hid (show GL (who.take (k + 1)) (who.drop (k + 1)) = GL [] who by rw [hst2.out, if_neg h2])
          have hd : Lib.containsS (who.take k) s = false := by simpa using h2
          rw [hd] at hcB'
          clear h2 hd hst2
          go_wp2_with fail
          refine hcA'.out.mono ?_; rintro e w1 ⟨rfl, rfl⟩
          go_wp2_with fail
          refine hcB'.out.mono ?_; rintro e w1 ⟨rfl, rfl⟩
          go_wp2
          go_roundw
          case rel => exact ⟨k + 1, by omega, by go_num, trivial, hG2⟩
          case measure => simp [intOf]; omega
    · obtain rfl : k = m := by omega
      obtain rfl : E = 0 := by rw [hE2.out, ← hG.out, drop_end (by rw [hl'.out]; exact Nat.le_refl _), hG0.out]
      go_wp2
      go_ret
      exact ⟨rfl, rfl⟩
end Go.Proofs.YtklggnglaeagpaaGreatDoor
