/- slices.DeleteFunc of api.Signal in a row of the call's own, by the closure tumbref1.SignalsLacking$1. Printed by wip/gendelx.py. -/
import Derived.Test.YtjafcnblgeibpaaDoorSetG
import Derived.Test.YtjafcnblgeibpaaDoorMkReg
import Derived.Test.YtjafcnblgeibpaaDoorSortB
import Derived.Laws.IdiomCopy
import Derived.Deep.QuietTactic
import Derived.BigQuiet
import Derived.BigGuardPart
namespace Go.Proofs.YtjafcnblgeibpaaDoor
open Go.RowKit Go.Shelf Go.Lib Go.Sort
set_option linter.unusedVariables false

theorem own_takeSx {w : World} {base : Nat} {e : TypeId} {size g n c k : Nat} {xs : List Value} (h : w.ownsRow base e size (.slice (some ⟨g, 0, none⟩) n c) n xs) (hk : k ≤ n) : w.ownsRow base e size (.slice (some ⟨g, 0, none⟩) k c) k (xs.take (k * size)) := by
  have hl := h.1
  have hm : k * size ≤ n * size := Nat.mul_le_mul_right _ hk
  refine ⟨by rw [List.length_take]; omega, ?_⟩
  rcases h.2 with ⟨hv, _⟩ | ⟨g', cap, cur, hv, hb, hg, h1, h2, h3, h4⟩
  · cases hv
  · injection hv with q1 q2 q3
    injection q1 with q1
    injection q1 with q1
    subst q1 q3
    refine .inr ⟨g, c, cur, rfl, hb, hg, by omega, h2, h3, ?_⟩
    rw [← h4, List.take_take]
    congr 1
    omega
theorem own_setCellsSx {base : Nat} {e : TypeId} {size g n c : Nat} {xs : List Value} : ∀ (vs : List Value) (o : Nat) (w : World), w.ownsRow base e size (.slice (some ⟨g, 0, none⟩) n c) n xs → n * size ≤ o → (w.setCells g o vs).ownsRow base e size (.slice (some ⟨g, 0, none⟩) n c) n xs ∧ w.grownBy (w.setCells g o vs) (some g)
  | [], _, w, h, _ => ⟨h, grown_refl _ _⟩
  | v :: r, o, w, h, ho => by
    obtain ⟨h1, h2⟩ := h.stored o v
    rw [List.set_eq_of_length_le (by rw [h.1]; exact ho)] at h1
    obtain ⟨h3, h4⟩ := own_setCellsSx r (o + 1) _ h1 (by omega)
    exact ⟨h3, grown_trans h2 h4⟩
theorem flat_takeSx : ∀ (R : List Sg) (i : Nat), (R.flatMap sgE).take (i * 6) = (R.take i).flatMap sgE
  | _, 0 => by simp
  | [], i + 1 => by simp
  | x :: r, i + 1 => by
    rw [List.take_succ_cons, List.flatMap_cons, List.flatMap_cons, ← flat_takeSx r i, show (i + 1) * 6 = i * 6 + 6 by omega]
    rfl
theorem zc_oneSx (n : Nat) : ∀ v ∈ (Builtin.zeroCells (Value.agg #[.string ⟨#[]⟩, .int .i64 0, .int .i64 0, .int .i64 0, .int .i64 0, .int .i64 0]).cells n).toList, v.oneCell' = true := by
  intro v hv
  unfold Builtin.zeroCells at hv
  rw [Array.toList_map] at hv
  obtain ⟨a, _, rfl⟩ := List.mem_map.1 hv
  show (#[Value.string ⟨#[]⟩, Value.int .i64 0, Value.int .i64 0, Value.int .i64 0, Value.int .i64 0, Value.int .i64 0][a % 6]!).oneCell' = true
  have h : a % 6 < 6 := Nat.mod_lt _ (by decide)
  have h2 : a % 6 = 0 ∨ a % 6 = 1 ∨ a % 6 = 2 ∨ a % 6 = 3 ∨ a % 6 = 4 ∨ a % 6 = 5 := by omega
  rcases h2 with h | h | h | h | h | h <;> rw [h] <;> rfl
theorem own_blkSx {w : World} {base : Nat} {e : TypeId} {size g n c : Nat} {xs : List Value} (h : w.ownsRow base e size (.slice (some ⟨g, 0, none⟩) n c) n xs) : ∃ cur, w.heap[g]? = some (.cells cur e (0, 0)) ∧ cur.size = c * size ∧ n ≤ c := by
  rcases h.2 with ⟨hv, _⟩ | ⟨g', cap, cur, hv, hb, hg, h1, h2, h3, h4⟩
  · cases hv
  · injection hv with q1 q2 q3
    injection q1 with q1
    injection q1 with q1
    subst q1 q3
    exact ⟨cur, hg, h3, h1⟩
theorem run_clearSx {P : Program} (w : World) (t e ty : TypeId) (z : Value) (ht : P.underlying t = some (.slice e)) (hv : ∀ w, (zeroValue e).run P w = .ok z w) (b o n c : Nat) (hn : 0 < n) (h1 : ∀ v ∈ (Builtin.zeroCells z.cells n).toList, v.oneCell' = true)
    (hc : ∀ j, j < (Builtin.zeroCells z.cells n).toList.length → (w.cell? ⟨b, o + j, none⟩).isSome = true) (hf : ∀ j, j < (Builtin.zeroCells z.cells n).toList.length → w.frozen? ⟨b, o + j, none⟩ = false) :
    (Builtin.clear_ #[t] ty #[.slice (some ⟨b, o, none⟩) n c]).run P w = .ok (.tuple #[]) (w.setCells b o (Builtin.zeroCells z.cells n).toList) := by
  have hst := run_storeCells_cells (P := P) b o (Builtin.zeroCells z.cells n).toList 0 w (by simpa using hc) (by simpa using hf) h1
  simp only [Nat.add_zero] at hst
  obtain ⟨m, rfl⟩ : ∃ m, n = m + 1 := ⟨n - 1, by omega⟩
  simp [Builtin.clear_, run_underlying ht, hv, hst]
theorem flat_setSx (R : List Sg) (i : Nat) (x r : Sg) (h : R[i]? = some r) : (((((((R.flatMap sgE).set (i * 6) (.string x.dev)).set (i * 6 + 1) (.int .i64 x.no)).set (i * 6 + 2) (.int .i64 x.kind)).set (i * 6 + 3) (.int .i64 x.tm)).set (i * 6 + 4) (.int .i64 x.lane)).set (i * 6 + 5) (.int .i64 x.time)) = (R.set i x).flatMap sgE := by
  have e0 := flat_set sgE_len R i r ⟨x.dev, r.no, r.kind, r.tm, r.lane, r.time⟩ 0 (.string x.dev) h (by decide) rfl
  have hi := lt_of_at h
  have g0 : (R.set i ⟨x.dev, r.no, r.kind, r.tm, r.lane, r.time⟩)[i]? = some ⟨x.dev, r.no, r.kind, r.tm, r.lane, r.time⟩ := List.getElem?_set_self hi
  have e1 := flat_set sgE_len _ i _ ⟨x.dev, x.no, r.kind, r.tm, r.lane, r.time⟩ 1 (.int .i64 x.no) g0 (by decide) rfl
  rw [List.set_set] at e1
  have g1 : (R.set i ⟨x.dev, x.no, r.kind, r.tm, r.lane, r.time⟩)[i]? = some ⟨x.dev, x.no, r.kind, r.tm, r.lane, r.time⟩ := List.getElem?_set_self hi
  have e2 := flat_set sgE_len _ i _ ⟨x.dev, x.no, x.kind, r.tm, r.lane, r.time⟩ 2 (.int .i64 x.kind) g1 (by decide) rfl
  rw [List.set_set] at e2
  have g2 : (R.set i ⟨x.dev, x.no, x.kind, r.tm, r.lane, r.time⟩)[i]? = some ⟨x.dev, x.no, x.kind, r.tm, r.lane, r.time⟩ := List.getElem?_set_self hi
  have e3 := flat_set sgE_len _ i _ ⟨x.dev, x.no, x.kind, x.tm, r.lane, r.time⟩ 3 (.int .i64 x.tm) g2 (by decide) rfl
  rw [List.set_set] at e3
  have g3 : (R.set i ⟨x.dev, x.no, x.kind, x.tm, r.lane, r.time⟩)[i]? = some ⟨x.dev, x.no, x.kind, x.tm, r.lane, r.time⟩ := List.getElem?_set_self hi
  have e4 := flat_set sgE_len _ i _ ⟨x.dev, x.no, x.kind, x.tm, x.lane, r.time⟩ 4 (.int .i64 x.lane) g3 (by decide) rfl
  rw [List.set_set] at e4
  have g4 : (R.set i ⟨x.dev, x.no, x.kind, x.tm, x.lane, r.time⟩)[i]? = some ⟨x.dev, x.no, x.kind, x.tm, x.lane, r.time⟩ := List.getElem?_set_self hi
  have e5 := flat_set sgE_len _ i _ x 5 (.int .i64 x.time) g4 (by decide) rfl
  rw [List.set_set] at e5
  rw [Nat.add_zero] at e0
  rw [e0, e1, e2, e3, e4, e5]
theorem keep_ownSx {w w' : World} {B n size : Nat} {e : TypeId} {u : Value} {xs : List Value} (h : w.ownsRow B e size u n xs) (hg : w.grownBy w' u.ownBlock) : Keep e w w' := by
  intro b cs e' fz hne hb
  refine (hg.block b (lt_of_heap hb) (fun e0 => ?_)).trans hb
  rcases h.2 with ⟨rfl, _⟩ | ⟨g, cap, cur, rfl, _, hg', _⟩
  · simp [Value.ownBlock] at e0
  · simp only [Value.ownBlock, Option.some.injEq] at e0
    subst e0
    rw [hg'] at hb
    injection hb with hb
    injection hb with _ h3
    exact hne h3.symm
def IdxSx (p : Sg → Bool) (l : List Sg) (n : Nat) (i : Int) : Prop := (i = -1 ∧ ∀ x ∈ l, p x = false) ∨ ∃ k : Nat, i = (k : Int) ∧ k < n ∧ (∃ x, l[k]? = some x ∧ p x = true) ∧ ∀ x ∈ l.take k, p x = false
set_option maxRecDepth 100000 in
theorem indexDSx_c (p : Sg → Bool) (p1 : Nat) (A : Option Addr) (n c : Nat) (l : List Sg) (w : World) (h : RSg w A n l) (hP : ∀ (x : Sg) W, Below w.heap.size w W → Calls Tryd.prog 49 #[.agg (sgE x).toArray, .pointer (some ⟨p1, 0, none⟩)] W fun e w' => e = .returned (.bool (p x)) ∧ Below W.heap.size W w') :
    Calls Tryd.prog 45 #[.slice A n c, .func (.func 49) #[] #[.pointer (some ⟨p1, 0, none⟩)]] w fun e w' => ∃ i, e = .returned (.int .i64 i) ∧ IdxSx p l n i ∧ Below w.heap.size w w' := by
  have hz := Lib.hid (fun x W B => hP x W B)
  have hR := Lib.hid (fun W B => h.below (w' := W) B)
  have hl := Lib.hid h.len
  have hbd := h.bd
  clear hP h
  go_enter Tryd.func45, Tryd.ntmps45
  go_wp2_with fail
  go_loopw [8] (fun i wr => ∃ k : Nat, k ≤ n ∧ i = .int .i64 k ∧ Below w.heap.size w wr ∧ Hid (∀ x ∈ l.take k, p x = false)) (fun i _ => n - (intOf i).toNat)
  case atStart => exact ⟨0, Nat.zero_le _, rfl, Below.refl _ _, Lib.hid (fun x hx => by simp at hx)⟩
  case round =>
    rename World => wr
    obtain ⟨k, hk, rfl, hB, hF⟩ := hrel
    by_cases hlt : k < n
    · obtain ⟨b, off, x, rfl, hbl, hx, c0, c1, c2, c3, c4, c5⟩ := RSg_at6 (hR.out _ hB) hlt
      have hx' := Lib.hid hx
      have hzx := Lib.hid (hz.out x wr hB)
      have hpx := Lib.hid (show p x = p x from rfl)
      obtain ⟨pb, hpb⟩ : ∃ pb, p x = pb := ⟨_, rfl⟩
      rw [hpb] at hzx
      have hpb' := Lib.hid hpb
      obtain ⟨dev, no, kind, tm, lane, time⟩ := x
      dsimp only [sgE] at *
      clear hx hpb hpx
      cases pb
      · have hF2 := Lib.hid (show ∀ x ∈ l.take (k + 1), p x = false from fun x hx => by
          rw [List.take_add_one, hx'.out] at hx
          rcases List.mem_append.1 hx with hx | hx
          · exact hF.out x hx
          · simp at hx; subst hx; exact hpb'.out)
        clear hF hx' hpb'
        go_wp2_with fail
        refine hzx.out.mono ?_; rintro e w1 ⟨rfl, B1⟩
        have hB1 := below_next hB B1
        go_wp2
        go_roundw
        case rel => exact ⟨k + 1, by omega, by go_num, hB1, hF2⟩
        case measure => simp [intOf]; omega
      · have hI := Lib.hid (show IdxSx p l n (k : Int) from .inr ⟨k, rfl, hlt, ⟨_, hx'.out, hpb'.out⟩, hF.out⟩)
        clear hF hx' hpb'
        go_wp2_with fail
        refine hzx.out.mono ?_; rintro e w1 ⟨rfl, B1⟩
        have hB1 := below_next hB B1
        go_wp2
        go_ret
        exact ⟨_, rfl, hI.out, hB1⟩
    · obtain rfl : k = n := by omega
      have hI := Lib.hid (show IdxSx p l k (-1) from .inl ⟨rfl, fun x hx => hF.out x (by rw [List.take_of_length_le (by rw [hl.out]; exact Nat.le_refl _)]; exact hx)⟩)
      go_wp2
      go_ret
      exact ⟨_, rfl, hI.out, hB⟩
theorem strikeSx (p : Sg → Bool) (R l : List Sg) (i j : Nat) (x : Sg) (hR : R.take i = (l.take j).filter fun y => !p y) (hD : R.drop j = l.drop j) (hij : i ≤ j) (hx : l[j]? = some x) (hl : R.length = l.length) :
    (p x = true → R.take i = (l.take (j + 1)).filter fun y => !p y) ∧ (p x = false → (R.set i x).take (i + 1) = (l.take (j + 1)).filter fun y => !p y) ∧ R.drop (j + 1) = l.drop (j + 1) ∧ (R.set i x).drop (j + 1) = l.drop (j + 1) := by
  have hj := lt_of_at hx
  have ht : (l.take (j + 1)).filter (fun y => !p y) = (l.take j).filter (fun y => !p y) ++ if p x = false then [x] else [] := by
    rw [List.take_add_one, hx, List.filter_append]
    congr 1
    by_cases h : p x = true <;> simp [h]
  have hd : R.drop (j + 1) = l.drop (j + 1) := by
    have h1 : (R.drop j).drop 1 = (l.drop j).drop 1 := by rw [hD]
    rw [List.drop_drop, List.drop_drop] at h1
    exact h1
  refine ⟨fun h => by rw [ht, if_neg (by simp [h]), List.append_nil, hR], fun h => ?_, hd, ?_⟩
  · rw [ht, if_pos h, List.take_add_one, List.getElem?_set_self (by omega), List.take_set_of_le (Nat.le_refl _), hR]
    rfl
  · rw [List.drop_set_of_lt (by omega)]
    exact hd
set_option maxHeartbeats 3200000 in
set_option maxRecDepth 100000 in
theorem deleteSx_c (p : Sg → Bool) (p1 : Nat) (base : Nat) (u : Value) (n : Nat) (l : List Sg) (w : World) (hown : w.ownsRow base 32 6 u n (l.flatMap sgE)) (hn : n ≤ 1000) (hbw : base ≤ w.heap.size) (hP : ∀ (x : Sg) W, Keep 32 w W → Below base w W → Calls Tryd.prog 49 #[.agg (sgE x).toArray, .pointer (some ⟨p1, 0, none⟩)] W fun e w' => e = .returned (.bool (p x)) ∧ Below W.heap.size W w') :
    Calls Tryd.prog 48 #[u, .func (.func 49) #[] #[.pointer (some ⟨p1, 0, none⟩)]] w fun e w' => ∃ A' n' c', e = .returned (.slice A' n' c') ∧ w'.ownsRow base 32 6 (.slice A' n' c') n' ((l.filter fun y => !p y).flatMap sgE) ∧ n' ≤ n ∧ Below base w w' := by
  obtain ⟨A, c, rfl⟩ := own_shape hown
  have hlen := own_len sgE_len (by decide) hown
  have hR0 := RN.of_own sgE_len hown hlen (by omega)
  have hI := Lib.hid (indexDSx_c p p1 A n c l w hR0 (fun x W B => hP x W (Keep.of_below B) (B.mono hbw)))
  have hz := Lib.hid hP
  have hbel := Lib.hid (fun w' (B : Below w.heap.size w w') => show Below base w w' from B.mono hbw)
  have hkb := Lib.hid (fun w' (B : Below w.heap.size w w') => Keep.of_below (T := 32) B)
  have hlen' := Lib.hid hlen
  clear hR0 hP
  go_enter Tryd.func48, Tryd.ntmps48
  go_wp2_with fail
  refine hI.out.mono ?_; rintro e w1 ⟨i, rfl, hix, B1⟩
  have ho1 := own_below hown B1
  have hB1 := hbel.out _ B1
  have hK1 := hkb.out _ B1
  clear hI hown
  rcases hix with ⟨rfl, hall⟩ | ⟨k, rfl, hk, ⟨y, hy, hy0⟩, hall⟩
  · have hf : (l.filter fun y => !p y) = l := List.filter_eq_self.2 (fun x hx => by simpa using hall x hx)
    have hf' := Lib.hid hf
    clear hall hf hz
    go_wp2
    go_ret
    exact ⟨A, n, c, rfl, by rw [hf'.out]; exact ho1, Nat.le_refl _, hB1⟩
  · obtain ⟨g, rfl, hg⟩ := own_someN ho1 (by omega)
    have hne : ((k : Int) == -1) = false := beq_eq_false_iff_ne.2 (by omega)
    have hz1 : base ≤ w1.heap.size := Nat.le_trans hbw B1.size
    have hT0 : l.take k = (l.take (k + 1)).filter fun y => !p y := by
      rw [List.take_add_one, hy, List.filter_append, List.filter_eq_self.2 (fun x hx => by simpa using hall x hx)]
      simp [hy0]
    have hT0' := Lib.hid hT0
    clear hT0 hall hy hy0
    go_wp2_with fail
    go_loopw [5, 6] (fun iv jv wr => ∃ (i j : Nat) (R : List Sg), iv = .int .i64 i ∧ jv = .int .i64 j ∧ i < j ∧ j ≤ n ∧ Hid (R.length = n) ∧ wr.ownsRow base 32 6 (.slice (some ⟨g, 0, none⟩) n c) n (R.flatMap sgE) ∧ Below base w wr ∧ base ≤ wr.heap.size ∧ Keep 32 w wr ∧ Hid (R.take i = (l.take j).filter fun y => !p y) ∧ Hid (R.drop j = l.drop j)) (fun _ jv _ => n - (intOf jv).toNat)
    case atStart => exact ⟨k, k + 1, l, rfl, by go_num, by omega, by omega, hlen', ho1, hB1, hz1, hK1, hT0', Lib.hid rfl⟩
    case round =>
      clear ho1 hB1 hz1 hK1
      rename World => wr
      obtain ⟨i, j, R, rfl, rfl, hij, hj, hRl, hown, hB, hzz, hK, hRt, hRd⟩ := hrel
      by_cases hlt : j < n
      · obtain ⟨x, hx⟩ := at_of_lt (l := l) (k := j) (by rw [hlen'.out]; exact hlt)
        have hRx : R[j]? = some x := by
          have h1 : (R.drop j)[0]? = (l.drop j)[0]? := by rw [hRd.out]
          rw [List.getElem?_drop, List.getElem?_drop, Nat.add_zero] at h1
          rw [h1, hx]
        obtain ⟨q1, q2, q3, q4⟩ := strikeSx p R l i j x hRt.out hRd.out (by omega) hx (by rw [hRl.out, hlen'.out])
        have hRR : RSg wr (some ⟨g, 0, none⟩) n R := RN.of_own sgE_len hown hRl.out (by omega)
        obtain ⟨b, off, x2, hA, hbl, hx2, c0, c1, c2, c3, c4, c5⟩ := RSg_at6 hRR hlt
        injection hA with hA
        injection hA with e1 e2
        subst e1 e2
        rw [hRx] at hx2
        obtain rfl := Option.some.inj hx2
        obtain ⟨r, hr⟩ := at_of_lt (l := R) (k := i) (by rw [hRl.out]; omega)
        have hst1 := Lib.hid (flat_setSx R i x r hr)
        rw [Nat.zero_add] at c0 c1 c2 c3 c4 c5
        have hn5 := heap_alloc_new wr (.cells (sgE x).toArray 32)
        have hBn := below_new wr (.cells (sgE x).toArray 32)
        have hzx := Lib.hid (hz.out x (wr.alloc (.cells (sgE x).toArray 32)) (hK.trans (Keep.of_below hBn)) (hB.trans (hBn.mono hzz)))
        obtain ⟨pb, hpb⟩ : ∃ pb, p x = pb := ⟨_, rfl⟩
        rw [hpb] at hzx q1 q2
        have hq1 := Lib.hid q1
        have hq2 := Lib.hid q2
        have hq3 := Lib.hid q3
        have hq4 := Lib.hid q4
        obtain ⟨dev, no, kind, tm, lane, time⟩ := x
        dsimp only [sgE] at *
        have hown5 := own_below hown hBn
        have hB5 := hB.trans (hBn.mono hzz)
        have hK5 := hK.trans (Keep.of_below hBn)
        have hz5 : base ≤ (wr.alloc (.cells #[.string dev, .int .i64 no, .int .i64 kind, .int .i64 tm, .int .i64 lane, .int .i64 time] 32)).heap.size := Nat.le_trans hzz hBn.size
        clear hx hRx hx2 hr hRR q1 q2 q3 q4 hRt hRd hown hB hpb hBn hK
        cases pb
        rotate_left
        · have hT := Lib.hid (hq1.out (by first | rfl | trivial))
          clear hq1 hq2 hq4 hst1
          go_wp2_with fail
          refine hzx.out.mono ?_; rintro e w5 ⟨rfl, B5⟩
          have hown6 := own_below hown5 B5
          have hB6 := hB5.trans (B5.mono hz5)
          have hz6 : base ≤ w5.heap.size := Nat.le_trans hz5 B5.size
          have hK6 := hK5.trans (Keep.of_below B5)
          clear hown5 B5 hB5 hn5 hK5
          go_wp2
          go_roundw
          case rel => exact ⟨i, j + 1, R, rfl, by go_num, by omega, by omega, hRl, hown6, hB6, hz6, hK6, hT, hq3⟩
          case measure => simp [intOf]; omega
        · have hT := Lib.hid (hq2.out (by first | rfl | trivial))
          clear hq1 hq2 hq3
          go_wp2_with fail
          refine hzx.out.mono ?_; rintro e w5 ⟨rfl, B5⟩
          have hown6 := own_below hown5 B5
          have hB6 := hB5.trans (B5.mono hz5)
          have hz6 : base ≤ w5.heap.size := Nat.le_trans hz5 B5.size
          have hK6 := hK5.trans (Keep.of_below B5)
          have hb6 := blk_below hn5 B5
          have y0 := (blk_facts hb6).1 0
          have y1 := (blk_facts hb6).1 1
          have y2 := (blk_facts hb6).1 2
          have y3 := (blk_facts hb6).1 3
          have y4 := (blk_facts hb6).1 4
          have y5 := (blk_facts hb6).1 5
          have f0 := hown6.frozenAt (i * 6)
          have f1 := hown6.frozenAt (i * 6 + 1)
          have f2 := hown6.frozenAt (i * 6 + 2)
          have f3 := hown6.frozenAt (i * 6 + 3)
          have f4 := hown6.frozenAt (i * 6 + 4)
          have f5 := hown6.frozenAt (i * 6 + 5)
          obtain ⟨b', off', r', hA', _, hr', d0, d1, d2, d3, d4, d5⟩ := RSg_at6 (RN.of_own sgE_len hown6 hRl.out (by omega)) (k := i) (by omega)
          injection hA' with hA'
          injection hA' with e1 e2
          subst e1 e2
          rw [Nat.zero_add] at d0 d1 d2 d3 d4 d5
          have hs1 := hown6.stored (i * 6) (.string dev)
          have hs2 := hs1.1.stored (i * 6 + 1) (.int .i64 no)
          have hs3 := hs2.1.stored (i * 6 + 2) (.int .i64 kind)
          have hs4 := hs3.1.stored (i * 6 + 3) (.int .i64 tm)
          have hs5 := hs4.1.stored (i * 6 + 4) (.int .i64 lane)
          have hs6 := hs5.1.stored (i * 6 + 5) (.int .i64 time)
          have hgr := (grown_trans (grown_trans (grown_trans (grown_trans (grown_trans hs1.2 hs2.2) hs3.2) hs4.2) hs5.2) hs6.2)
          rw [hst1.out] at hs6
          have ho7 := hs6.1
          have hB7 := below_own hB6 hown6 hgr hz6 (Nat.le_refl _)
          have hK7 := hK6.trans (keep_ownSx hown6 hgr)
          have hz7 := Nat.le_trans hz6 hgr.size
          have hRl7 := Lib.hid (show (R.set i ⟨dev, no, kind, tm, lane, time⟩).length = n by rw [List.length_set]; exact hRl.out)
          have H7 := Lib.hid (And.intro ho7 (And.intro hB7 (And.intro hz7 hK7)))
          clear hs1 hs2 hs3 hs4 hs5 hs6 hgr ho7 hB7 hz7 hK7 hown6 hB6 hst1 hr' hK6 hown5 B5 hB5 hn5 hK5
          go_wp2
          go_roundw
          case rel => exact ⟨i + 1, j + 1, _, by go_num, by go_num, by omega, by omega, hRl7, H7.out.1, H7.out.2.1, H7.out.2.2.1, H7.out.2.2.2, hT, hq4⟩
          case measure => simp [intOf]; omega
      · obtain rfl : j = n := by omega
        have hfin : R.take i = l.filter fun y => !p y := by rw [hRt.out, List.take_of_length_le (by rw [hlen'.out]; exact Nat.le_refl _)]
        have hk := own_takeSx hown (k := i) (by omega)
        have hfl : (R.flatMap sgE).take (i * 6) = (R.take i).flatMap sgE := flat_takeSx R i
        rw [hfl, hfin] at hk
        have hzc : (Builtin.zeroCells (Value.agg #[.string ⟨#[]⟩, .int .i64 0, .int .i64 0, .int .i64 0, .int .i64 0, .int .i64 0]).cells (j - i)).toList.length = (j - i) * 6 := by rw [Array.length_toList, size_zeroCells]; rfl
        have hzo : ∀ v ∈ (Builtin.zeroCells (Value.agg #[.string ⟨#[]⟩, .int .i64 0, .int .i64 0, .int .i64 0, .int .i64 0, .int .i64 0]).cells (j - i)).toList, v.oneCell' = true := zc_oneSx (j - i)
        obtain ⟨cur, hgb, hcs, hcap⟩ := own_blkSx hown
        have hcl : ∀ ty, (Builtin.clear_ #[26] ty #[.slice (some ⟨g, i * 6, none⟩) (j - i) (c - i)]).run Tryd.prog wr = .ok (.tuple #[]) (wr.setCells g (i * 6) (Builtin.zeroCells (Value.agg #[.string ⟨#[]⟩, .int .i64 0, .int .i64 0, .int .i64 0, .int .i64 0, .int .i64 0]).cells (j - i)).toList) :=
          fun ty => run_clearSx wr _ _ ty _ Tryd.underlying26 Tryd.zeroValue32 g (i * 6) (j - i) (c - i) (by omega) hzo (fun t ht => by rw [(blk_facts hgb).1, Array.getElem?_eq_getElem (by omega)]; rfl) (fun t ht => (blk_facts hgb).2 _)
        obtain ⟨h8, h9⟩ := own_setCellsSx (Builtin.zeroCells (Value.agg #[.string ⟨#[]⟩, .int .i64 0, .int .i64 0, .int .i64 0, .int .i64 0, .int .i64 0]).cells (j - i)).toList (i * 6) wr hk (Nat.le_refl _)
        have hB9 := below_own hB hk h9 hzz (Nat.le_refl _)
        have hci : ¬ c = i := by omega
        have j0 : (0 : Int) ≤ (i : Int) := by omega
        have j1 : (i : Int) ≤ (j : Int) := by omega
        have j2 : (j : Int) ≤ (c : Int) := by omega
        have j3 : (i : Int) ≤ (c : Int) := by omega
        generalize (Builtin.zeroCells (Value.agg #[.string ⟨#[]⟩, .int .i64 0, .int .i64 0, .int .i64 0, .int .i64 0, .int .i64 0]).cells (j - i)).toList = zcs at *
        clear hzc hzo hgb hown hk hfl hfin hRt hRd hcs
        go_wp2
        go_ret
        exact ⟨_, i, c, rfl, h8, by omega, hB9⟩
end Go.Proofs.YtjafcnblgeibpaaDoor
