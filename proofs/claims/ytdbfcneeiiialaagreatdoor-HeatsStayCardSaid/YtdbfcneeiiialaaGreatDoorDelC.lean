/- slices.DeleteFunc of seeds in a row of the call's own: who did not finish is struck; heat.finished and tumbref1.finished. -/
import Derived.Test.YtdbfcneeiiialaaGreatDoorOrdC
import Derived.Test.YtdbfcneeiiialaaGreatDoorSeedM
import Derived.Laws.IdiomCopy
namespace Go.Proofs.YtdbfcneeiiialaaGreatDoor
open Go.RowKit Go.Shelf Go.Lib Go.Sort
set_option linter.unusedVariables false

theorem own_takeN {w : World} {base : Nat} {e : TypeId} {size g n c k : Nat} {xs : List Value} (h : w.ownsRow base e size (.slice (some ⟨g, 0, none⟩) n c) n xs) (hk : k ≤ n) : w.ownsRow base e size (.slice (some ⟨g, 0, none⟩) k c) k (xs.take (k * size)) := by
  have hl := h.1
  have hm : k * size ≤ n * size := Nat.mul_le_mul_right _ hk
  refine ⟨by rw [List.length_take]; omega, ?_⟩
  rcases h.2 with ⟨hv, _⟩ | ⟨g', cap, cur, hv, hb, hg, h1, h2, h3, h4⟩
  · cases hv
  · injection hv with q1 q2 q3
    injection q1 with q1
    injection q1 with q1
    subst q1 q3
    refine .inr ⟨g, c, cur, rfl, hb, hg, by omega, h2, h3, ?_⟩
    rw [← h4, List.take_take]
    congr 1
    omega
theorem own_setCells {base : Nat} {e : TypeId} {size g n c : Nat} {xs : List Value} : ∀ (vs : List Value) (o : Nat) (w : World), w.ownsRow base e size (.slice (some ⟨g, 0, none⟩) n c) n xs → n * size ≤ o → (w.setCells g o vs).ownsRow base e size (.slice (some ⟨g, 0, none⟩) n c) n xs ∧ w.grownBy (w.setCells g o vs) (some g)
  | [], _, w, h, _ => ⟨h, grown_refl _ _⟩
  | v :: r, o, w, h, ho => by
    obtain ⟨h1, h2⟩ := h.stored o v
    rw [List.set_eq_of_length_le (by rw [h.1]; exact ho)] at h1
    obtain ⟨h3, h4⟩ := own_setCells r (o + 1) _ h1 (by omega)
    exact ⟨h3, grown_trans h2 h4⟩
theorem flat_take : ∀ (R : List Sd) (i : Nat), (R.flatMap sdE).take (i * 2) = (R.take i).flatMap sdE
  | _, 0 => by simp
  | [], i + 1 => by simp
  | x :: r, i + 1 => by
    rw [List.take_succ_cons, List.flatMap_cons, List.flatMap_cons, ← flat_take r i, show (i + 1) * 2 = i * 2 + 2 by omega]
    rfl
theorem zc_one (n : Nat) : ∀ v ∈ (Builtin.zeroCells (Value.agg #[.string ⟨#[]⟩, .int .i64 0]).cells n).toList, v.oneCell' = true := by
  intro v hv
  unfold Builtin.zeroCells at hv
  rw [Array.toList_map] at hv
  obtain ⟨a, _, rfl⟩ := List.mem_map.1 hv
  show (#[Value.string ⟨#[]⟩, Value.int .i64 0][a % 2]!).oneCell' = true
  rcases Nat.mod_two_eq_zero_or_one a with h | h <;> rw [h] <;> rfl
theorem own_blk {w : World} {base : Nat} {e : TypeId} {size g n c : Nat} {xs : List Value} (h : w.ownsRow base e size (.slice (some ⟨g, 0, none⟩) n c) n xs) : ∃ cur, w.heap[g]? = some (.cells cur e (0, 0)) ∧ cur.size = c * size ∧ n ≤ c := by
  rcases h.2 with ⟨hv, _⟩ | ⟨g', cap, cur, hv, hb, hg, h1, h2, h3, h4⟩
  · cases hv
  · injection hv with q1 q2 q3
    injection q1 with q1
    injection q1 with q1
    subst q1 q3
    exact ⟨cur, hg, h3, h1⟩
theorem run_clearN {P : Program} (w : World) (t e ty : TypeId) (z : Value) (ht : P.underlying t = some (.slice e)) (hv : ∀ w, (zeroValue e).run P w = .ok z w) (b o n c : Nat) (hn : 0 < n) (h1 : ∀ v ∈ (Builtin.zeroCells z.cells n).toList, v.oneCell' = true)
    (hc : ∀ j, j < (Builtin.zeroCells z.cells n).toList.length → (w.cell? ⟨b, o + j, none⟩).isSome = true) (hf : ∀ j, j < (Builtin.zeroCells z.cells n).toList.length → w.frozen? ⟨b, o + j, none⟩ = false) :
    (Builtin.clear_ #[t] ty #[.slice (some ⟨b, o, none⟩) n c]).run P w = .ok (.tuple #[]) (w.setCells b o (Builtin.zeroCells z.cells n).toList) := by
  have hst := run_storeCells_cells (P := P) b o (Builtin.zeroCells z.cells n).toList 0 w (by simpa using hc) (by simpa using hf) h1
  simp only [Nat.add_zero] at hst
  obtain ⟨m, rfl⟩ : ∃ m, n = m + 1 := ⟨n - 1, by omega⟩
  simp [Builtin.clear_, run_underlying ht, hv, hst]
set_option maxRecDepth 100000 in
theorem isZeroA_c (x : Sd) (W : World) : Calls Tryz.prog 226 #[.agg (sdE x).toArray] W fun e w' => e = .returned (.bool (decide (x.time = 0))) ∧ Below W.heap.size W w' := by
  obtain ⟨xw, xt⟩ := x
  dsimp only [sdE] at *
  have z1 := (blk_facts (heap_alloc_new W (.cells #[.string xw, .int .i64 xt] 40))).1 1
  have hB := below_new W (.cells #[.string xw, .int .i64 xt] 40)
  by_cases h : xt = 0
  · subst h
    go_enter Tryz.func226, Tryz.ntmps226
    go_wp2
    go_ret
    exact ⟨rfl, hB⟩
  · have e1 : (xt == 0) = false := beq_eq_false_iff_ne.2 h
    have e2 : decide (xt = 0) = false := decide_eq_false h
    rw [e2]
    clear h e2
    go_enter Tryz.func226, Tryz.ntmps226
    go_wp2
    go_ret
    exact ⟨rfl, hB⟩
def IdxZA (l : List Sd) (n : Nat) (i : Int) : Prop := (i = -1 ∧ ∀ x ∈ l, x.time ≠ 0) ∨ ∃ k : Nat, i = (k : Int) ∧ k < n ∧ (∃ x, l[k]? = some x ∧ x.time = 0) ∧ ∀ x ∈ l.take k, x.time ≠ 0
set_option maxRecDepth 100000 in
theorem indexZA_c (A : Option Addr) (n c : Nat) (l : List Sd) (w : World) (h : RSd w A n l) :
    Calls Tryz.prog 202 #[.slice A n c, .func (.func 226) #[] #[]] w fun e w' => ∃ i, e = .returned (.int .i64 i) ∧ IdxZA l n i ∧ Below w.heap.size w w' := by
  have hz := Lib.hid (fun x W => isZeroA_c x W)
  have hl := Lib.hid h.len
  have hbd := h.bd
  go_enter Tryz.func202, Tryz.ntmps202
  go_wp2
  go_loopw [8] (fun i wr => ∃ k : Nat, k ≤ n ∧ i = .int .i64 k ∧ Below w.heap.size w wr ∧ Hid (∀ x ∈ l.take k, x.time ≠ 0)) (fun i _ => n - (intOf i).toNat)
  case atStart => exact ⟨0, Nat.zero_le _, rfl, Below.refl _ _, Lib.hid (fun x hx => by simp at hx)⟩
  case round =>
    obtain ⟨k, hk, rfl, hB, hF⟩ := hrel
    by_cases hlt : k < n
    · obtain ⟨b, off, x, rfl, hbl, hx, c0, c1⟩ := RSd_at2 (h.below hB) hlt
      have hx' := Lib.hid hx
      have hzx := Lib.hid (fun W => hz.out x W)
      obtain ⟨who, time⟩ := x
      dsimp only [sdE] at *
      clear hx
      by_cases h0 : time = 0
      · have hd : decide (time = 0) = true := decide_eq_true h0
        rw [hd] at hzx
        have hI := Lib.hid (show IdxZA l n (k : Int) from .inr ⟨k, rfl, hlt, ⟨_, hx'.out, h0⟩, hF.out⟩)
        clear hd h0 hF hx'
        go_wp2_with fail
        refine (hzx.out _).mono ?_; rintro e w1 ⟨rfl, B1⟩
        have hB1 := below_next hB B1
        go_wp2
        go_ret
        exact ⟨_, rfl, hI.out, hB1⟩
      · have hd : decide (time = 0) = false := decide_eq_false h0
        rw [hd] at hzx
        have hF2 := Lib.hid (show ∀ x ∈ l.take (k + 1), x.time ≠ 0 from fun x hx => by
          rw [List.take_add_one, hx'.out] at hx
          rcases List.mem_append.1 hx with hx | hx
          · exact hF.out x hx
          · simp at hx; subst hx; exact h0)
        clear hd h0 hF hx'
        go_wp2_with fail
        refine (hzx.out _).mono ?_; rintro e w1 ⟨rfl, B1⟩
        have hB1 := below_next hB B1
        go_wp2
        go_roundw
        case rel => exact ⟨k + 1, by omega, by go_num, hB1, hF2⟩
        case measure => simp [intOf]; omega
    · obtain rfl : k = n := by omega
      have hI := Lib.hid (show IdxZA l k (-1) from .inl ⟨rfl, fun x hx => hF.out x (by rw [List.take_of_length_le (by rw [hl.out]; exact Nat.le_refl _)]; exact hx)⟩)
      go_wp2
      go_ret
      exact ⟨_, rfl, hI.out, hB⟩
theorem strikeZA (R l : List Sd) (i j : Nat) (x : Sd) (hR : R.take i = (l.take j).filter fun y => decide (y.time ≠ 0)) (hD : R.drop j = l.drop j) (hij : i ≤ j) (hx : l[j]? = some x) (hl : R.length = l.length) :
    (x.time = 0 → R.take i = (l.take (j + 1)).filter fun y => decide (y.time ≠ 0)) ∧ (x.time ≠ 0 → (R.set i x).take (i + 1) = (l.take (j + 1)).filter fun y => decide (y.time ≠ 0)) ∧ R.drop (j + 1) = l.drop (j + 1) ∧ (R.set i x).drop (j + 1) = l.drop (j + 1) := by
  have hj := lt_of_at hx
  have ht : (l.take (j + 1)).filter (fun y => decide (y.time ≠ 0)) = (l.take j).filter (fun y => decide (y.time ≠ 0)) ++ if x.time ≠ 0 then [x] else [] := by
    rw [List.take_add_one, hx, List.filter_append]
    congr 1
    by_cases h : x.time = 0 <;> simp [h]
  have hd : R.drop (j + 1) = l.drop (j + 1) := by
    have h1 : (R.drop j).drop 1 = (l.drop j).drop 1 := by rw [hD]
    rw [List.drop_drop, List.drop_drop] at h1
    exact h1
  refine ⟨fun h => by rw [ht, if_neg (by simp [h]), List.append_nil, hR], fun h => ?_, hd, ?_⟩
  · rw [ht, if_pos h, List.take_add_one, List.getElem?_set_self (by omega), List.take_set_of_le (Nat.le_refl _), hR]
    rfl
  · rw [List.drop_set_of_lt (by omega)]
    exact hd
set_option maxHeartbeats 1600000 in
set_option maxRecDepth 100000 in
theorem deleteZA_c (base : Nat) (u : Value) (n : Nat) (l : List Sd) (w : World) (hown : w.ownsRow base 40 2 u n (l.flatMap sdE)) (hn : n ≤ 1000) (hbw : base ≤ w.heap.size) :
    Calls Tryz.prog 130 #[u, .func (.func 226) #[] #[]] w fun e w' => ∃ A' n' c', e = .returned (.slice A' n' c') ∧ w'.ownsRow base 40 2 (.slice A' n' c') n' ((l.filter fun y => decide (y.time ≠ 0)).flatMap sdE) ∧ n' ≤ n ∧ Below base w w' := by
  obtain ⟨A, c, rfl⟩ := own_shape hown
  have hlen := own_len sdE_len (by decide) hown
  have hR0 := RN.of_own sdE_len hown hlen (by omega)
  have hI := Lib.hid (indexZA_c A n c l w hR0)
  have hz := Lib.hid (fun x W => isZeroA_c x W)
  have hbel := Lib.hid (fun w' (B : Below w.heap.size w w') => show Below base w w' from B.mono hbw)
  have hlen' := Lib.hid hlen
  clear hR0
  go_enter Tryz.func130, Tryz.ntmps130
  go_wp2_with fail
  refine hI.out.mono ?_; rintro e w1 ⟨i, rfl, hix, B1⟩
  have ho1 := own_below hown B1
  have hB1 := hbel.out _ B1
  clear hI hown
  rcases hix with ⟨rfl, hall⟩ | ⟨k, rfl, hk, ⟨y, hy, hy0⟩, hall⟩
  · have hf : (l.filter fun y => decide (y.time ≠ 0)) = l := List.filter_eq_self.2 (fun x hx => by simpa using hall x hx)
    have hf' := Lib.hid hf
    clear hall hf hz
    go_wp2
    go_ret
    exact ⟨A, n, c, rfl, by rw [hf'.out]; exact ho1, Nat.le_refl _, hB1⟩
  · obtain ⟨g, rfl, hg⟩ := own_someN ho1 (by omega)
    have hne : ((k : Int) == -1) = false := beq_eq_false_iff_ne.2 (by omega)
    have hz1 : base ≤ w1.heap.size := Nat.le_trans hbw B1.size
    have hT0 : l.take k = (l.take (k + 1)).filter fun y => decide (y.time ≠ 0) := by
      rw [List.take_add_one, hy, List.filter_append, List.filter_eq_self.2 (fun x hx => by simpa using hall x hx)]
      simp [hy0]
    have hT0' := Lib.hid hT0
    clear hT0 hall hy hy0
    go_wp2_with fail
    go_loopw [5, 6] (fun iv jv wr => ∃ (i j : Nat) (R : List Sd), iv = .int .i64 i ∧ jv = .int .i64 j ∧ i < j ∧ j ≤ n ∧ Hid (R.length = n) ∧ wr.ownsRow base 40 2 (.slice (some ⟨g, 0, none⟩) n c) n (R.flatMap sdE) ∧ Below base w wr ∧ base ≤ wr.heap.size ∧ Hid (R.take i = (l.take j).filter fun y => decide (y.time ≠ 0)) ∧ Hid (R.drop j = l.drop j)) (fun _ jv _ => n - (intOf jv).toNat)
    case atStart => exact ⟨k, k + 1, l, rfl, by go_num, by omega, by omega, hlen', ho1, hB1, hz1, hT0', Lib.hid rfl⟩
    case round =>
      clear ho1 hB1 hz1
      obtain ⟨i, j, R, rfl, rfl, hij, hj, hRl, hown, hB, hzz, hRt, hRd⟩ := hrel
      by_cases hlt : j < n
      · obtain ⟨x, hx⟩ := at_of_lt (l := l) (k := j) (by rw [hlen'.out]; exact hlt)
        have hRx : R[j]? = some x := by
          have h1 : (R.drop j)[0]? = (l.drop j)[0]? := by rw [hRd.out]
          rw [List.getElem?_drop, List.getElem?_drop, Nat.add_zero] at h1
          rw [h1, hx]
        obtain ⟨q1, q2, q3, q4⟩ := strikeZA R l i j x hRt.out hRd.out (by omega) hx (by rw [hRl.out, hlen'.out])
        have hRR : RSd wr (some ⟨g, 0, none⟩) n R := RN.of_own sdE_len hown hRl.out (by omega)
        obtain ⟨b, off, x2, hA, hbl, hx2, c0, c1⟩ := RSd_at2 hRR hlt
        injection hA with hA
        injection hA with e1 e2
        subst e1 e2
        rw [hRx] at hx2
        obtain rfl := Option.some.inj hx2
        have hRi := at_of_lt (l := R) (k := i) (by rw [hRl.out]; omega)
        obtain ⟨r, hr⟩ := hRi
        have hst1 := Lib.hid (sdr_set R i x.who r hr)
        have hst2 := Lib.hid (sdr_set1 (R.set i ⟨x.who, r.time⟩) i x.time ⟨x.who, r.time⟩ (List.getElem?_set_self (by rw [hRl.out]; omega)))
        rw [Nat.zero_add] at c0 c1
        have hzx := Lib.hid (fun W => hz.out x W)
        have hq1 := Lib.hid q1
        have hq2 := Lib.hid q2
        have hq3 := Lib.hid q3
        have hq4 := Lib.hid q4
        obtain ⟨who, time⟩ := x
        dsimp only [sdE] at *
        have z0 := (blk_facts (heap_alloc_new wr (.cells #[.string who, .int .i64 time] 40))).1 0
        have z1 := (blk_facts (heap_alloc_new wr (.cells #[.string who, .int .i64 time] 40))).1 1
        have hown5 := hown.alloc (.cells #[.string who, .int .i64 time] 40)
        have hB5 := hB.alloc hzz (.cells #[.string who, .int .i64 time] 40)
        have hb5 := heap_alloc_new wr (.cells #[.string who, .int .i64 time] 40)
        clear hx hRx hx2 hr hRR q1 q2 q3 q4 hRt hRd hown hB
        by_cases h0 : time = 0
        · have hd : decide (time = 0) = true := decide_eq_true h0
          rw [hd] at hzx
          have hT := Lib.hid (hq1.out h0)
          clear hd h0 hq1 hq2 hq4 hst1 hst2
          go_wp2_with fail
          refine (hzx.out _).mono ?_; rintro e w5 ⟨rfl, B5⟩
          have hown6 := own_below hown5 B5
          have hB6 := hB5.trans (B5.mono (by simp; omega))
          have hz6 : base ≤ w5.heap.size := Nat.le_trans (by simp; omega) B5.size
          clear hown5 B5 hB5 hb5
          go_wp2
          go_roundw
          case rel => exact ⟨i, j + 1, R, rfl, by go_num, by omega, by omega, hRl, hown6, hB6, hz6, hT, hq3⟩
          case measure => simp [intOf]; omega
        · have hd : decide (time = 0) = false := decide_eq_false h0
          rw [hd] at hzx
          have hT := Lib.hid (hq2.out h0)
          clear hd h0 hq1 hq2 hq3
          go_wp2_with fail
          refine (hzx.out _).mono ?_; rintro e w5 ⟨rfl, B5⟩
          have hown6 := own_below hown5 B5
          have hB6 := hB5.trans (B5.mono (by simp; omega))
          have hz6 : base ≤ w5.heap.size := Nat.le_trans (by simp; omega) B5.size
          have hb6 := blk_below hb5 B5
          have y0 := (blk_facts hb6).1 0
          have y1 := (blk_facts hb6).1 1
          have f0 := hown6.frozenAt (i * 2)
          have f1 := hown6.frozenAt (i * 2 + 1)
          obtain ⟨b', off', r', hA', _, hr', d0, d1⟩ := RSd_at2 (RN.of_own sdE_len hown6 hRl.out (by omega)) (k := i) (by omega)
          injection hA' with hA'
          injection hA' with e1 e2
          subst e1 e2
          rw [Nat.zero_add] at d0 d1
          have hs1 := hown6.stored (i * 2) (.string who)
          rw [hst1.out] at hs1
          have hs2 := hs1.1.stored (i * 2 + 1) (.int .i64 time)
          rw [hst2.out, List.set_set] at hs2
          have hgr := grown_trans hs1.2 hs2.2
          have ho7 := hs2.1
          have hB7 := below_own hB6 hown6 hgr hz6 (Nat.le_refl _)
          have hz7 : base ≤ ((w5.setCell ⟨g, i * 2, none⟩ (.string who)).setCell ⟨g, i * 2 + 1, none⟩ (.int .i64 time)).heap.size := Nat.le_trans hz6 hgr.size
          have hRl7 := Lib.hid (show (R.set i ⟨who, time⟩).length = n by rw [List.length_set]; exact hRl.out)
          clear hs1 hs2 hgr hown6 hB6 hst1 hst2 hr'
          clear hown5 B5 hB5 hb5
          go_wp2
          go_roundw
          case rel => exact ⟨i + 1, j + 1, _, by go_num, by go_num, by omega, by omega, hRl7, ho7, hB7, hz7, hT, hq4⟩
          case measure => simp [intOf]; omega
      · obtain rfl : j = n := by omega
        have hfin : R.take i = l.filter fun y => decide (y.time ≠ 0) := by rw [hRt.out, List.take_of_length_le (by rw [hlen'.out]; exact Nat.le_refl _)]
        have hk := own_takeN hown (k := i) (by omega)
        have hfl : (R.flatMap sdE).take (i * 2) = (R.take i).flatMap sdE := flat_take R i
        rw [hfl, hfin] at hk
        have hzc : (Builtin.zeroCells (Value.agg #[.string ⟨#[]⟩, .int .i64 0]).cells (j - i)).toList.length = (j - i) * 2 := by rw [Array.length_toList, size_zeroCells]; rfl
        have hzo : ∀ v ∈ (Builtin.zeroCells (Value.agg #[.string ⟨#[]⟩, .int .i64 0]).cells (j - i)).toList, v.oneCell' = true := zc_one (j - i)
        obtain ⟨cur, hgb, hcs, hcap⟩ := own_blk hown
        have hcl : ∀ ty, (Builtin.clear_ #[26] ty #[.slice (some ⟨g, i * 2, none⟩) (j - i) (c - i)]).run Tryz.prog wr = .ok (.tuple #[]) (wr.setCells g (i * 2) (Builtin.zeroCells (Value.agg #[.string ⟨#[]⟩, .int .i64 0]).cells (j - i)).toList) :=
          fun ty => run_clearN wr _ _ ty _ Tryz.underlying26 Tryz.zeroValue40 g (i * 2) (j - i) (c - i) (by omega) hzo (fun t ht => by rw [(blk_facts hgb).1, Array.getElem?_eq_getElem (by omega)]; rfl) (fun t ht => (blk_facts hgb).2 _)
        obtain ⟨h8, h9⟩ := own_setCells (Builtin.zeroCells (Value.agg #[.string ⟨#[]⟩, .int .i64 0]).cells (j - i)).toList (i * 2) wr hk (Nat.le_refl _)
        have hB9 := below_own hB hk h9 hzz (Nat.le_refl _)
        have hci : ¬ c = i := by omega
        have j0 : (0 : Int) ≤ (i : Int) := by omega
        have j1 : (i : Int) ≤ (j : Int) := by omega
        have j2 : (j : Int) ≤ (c : Int) := by omega
        have j3 : (i : Int) ≤ (c : Int) := by omega
        generalize (Builtin.zeroCells (Value.agg #[.string ⟨#[]⟩, .int .i64 0]).cells (j - i)).toList = zcs at *
        clear hzc hzo hgb hown hk hfl hfin hRt hRd hcs
        go_wp2
        go_ret
        exact ⟨_, i, c, rfl, h8, by omega, hB9⟩
def IdxZB (l : List Sd) (n : Nat) (i : Int) : Prop := (i = -1 ∧ ∀ x ∈ l, x.time ≠ 0) ∨ ∃ k : Nat, i = (k : Int) ∧ k < n ∧ (∃ x, l[k]? = some x ∧ x.time = 0) ∧ ∀ x ∈ l.take k, x.time ≠ 0
theorem strikeZB (R l : List Sd) (i j : Nat) (x : Sd) (hR : R.take i = (l.take j).filter fun y => decide (y.time ≠ 0)) (hD : R.drop j = l.drop j) (hij : i ≤ j) (hx : l[j]? = some x) (hl : R.length = l.length) :
    (x.time = 0 → R.take i = (l.take (j + 1)).filter fun y => decide (y.time ≠ 0)) ∧ (x.time ≠ 0 → (R.set i x).take (i + 1) = (l.take (j + 1)).filter fun y => decide (y.time ≠ 0)) ∧ R.drop (j + 1) = l.drop (j + 1) ∧ (R.set i x).drop (j + 1) = l.drop (j + 1) := by
  have hj := lt_of_at hx
  have ht : (l.take (j + 1)).filter (fun y => decide (y.time ≠ 0)) = (l.take j).filter (fun y => decide (y.time ≠ 0)) ++ if x.time ≠ 0 then [x] else [] := by
    rw [List.take_add_one, hx, List.filter_append]
    congr 1
    by_cases h : x.time = 0 <;> simp [h]
  have hd : R.drop (j + 1) = l.drop (j + 1) := by
    have h1 : (R.drop j).drop 1 = (l.drop j).drop 1 := by rw [hD]
    rw [List.drop_drop, List.drop_drop] at h1
    exact h1
  refine ⟨fun h => by rw [ht, if_neg (by simp [h]), List.append_nil, hR], fun h => ?_, hd, ?_⟩
  · rw [ht, if_pos h, List.take_add_one, List.getElem?_set_self (by omega), List.take_set_of_le (Nat.le_refl _), hR]
    rfl
  · rw [List.drop_set_of_lt (by omega)]
    exact hd
/-- who did finish, from the fastest one on -/
def finL (l : List Sd) : List Sd := (ordL l).filter fun y => decide (y.time ≠ 0)
theorem finL_ref (l : List Sd) : ordL (l.filter fun y => decide (y.time ≠ 0)) = finL l := (insL_filter sdSWO _ l).symm
theorem finL_mem {l : List Sd} {x : Sd} : x ∈ finL l ↔ x ∈ l ∧ x.time ≠ 0 := by
  unfold finL
  rw [List.mem_filter, (ord_perm l).mem_iff]
  simp
theorem finL_len (l : List Sd) : (finL l).length ≤ l.length := by
  unfold finL
  have := List.length_filter_le (fun y : Sd => decide (y.time ≠ 0)) (ordL l)
  rw [ord_len] at this
  exact this
theorem finished_c (A : Option Addr) (n c : Nat) (l : List Sd) (w : World) (h : RSd w A n l) (hn : n ≤ 19) (hw : ∀ x ∈ l, 0 ≤ x.time ∧ x.time ≤ 360000) :
    Calls Tryz.prog 157 #[.slice A n c] w fun e w' => ∃ A' n' c', e = .returned (.slice A' n' c') ∧ w'.ownsRow w.heap.size 40 2 (.slice A' n' c') n' ((finL l).flatMap sdE) ∧ n' ≤ n ∧ Below w.heap.size w w' := by
  have hO := Lib.hid (ordered_c A n c l w h hn hw)
  go_enter Tryz.func157, Tryz.ntmps157
  go_wp2_with fail
  refine hO.out.mono ?_; rintro e w1 ⟨A1, c1, rfl, ho, B1⟩
  have hD := Lib.hid (deleteZA_c w.heap.size _ n _ w1 ho (by omega) B1.size)
  have hB := Lib.hid (fun w' (B : Below w.heap.size w1 w') => B1.trans B)
  clear hO ho
  go_wp2_with fail
  refine hD.out.mono ?_; rintro e w2 ⟨A2, n2, c2, rfl, ho2, hn2, B2⟩
  have hB2 := hB.out _ B2
  clear hD B2
  go_wp2
  go_ret
  exact ⟨A2, n2, c2, rfl, ho2, hn2, hB2⟩
end Go.Proofs.YtdbfcneeiiialaaGreatDoor
