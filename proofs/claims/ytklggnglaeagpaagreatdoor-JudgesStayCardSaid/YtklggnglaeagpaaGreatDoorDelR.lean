/- slices.DeleteFunc of reports in a row of the call's own, by the closure of tumbref1.about. Printed by wip/gendelr.py. -/
import Derived.Test.YtklggnglaeagpaaGreatDoorRptA
import Derived.Test.YtklggnglaeagpaaGreatDoorMkReg
import Derived.Test.YtklggnglaeagpaaGreatDoorSortB
import Derived.Laws.IdiomCopy
import Derived.Deep.QuietTactic
import Derived.BigQuiet
import Derived.BigGuardPart
namespace Go.Proofs.YtklggnglaeagpaaGreatDoor
open Go.RowKit Go.Shelf Go.Lib Go.Sort
set_option linter.unusedVariables false

theorem own_takeR {w : World} {base : Nat} {e : TypeId} {size g n c k : Nat} {xs : List Value} (h : w.ownsRow base e size (.slice (some ⟨g, 0, none⟩) n c) n xs) (hk : k ≤ n) : w.ownsRow base e size (.slice (some ⟨g, 0, none⟩) k c) k (xs.take (k * size)) := by
  have hl := h.1
  have hm : k * size ≤ n * size := Nat.mul_le_mul_right _ hk
  refine ⟨by rw [List.length_take]; omega, ?_⟩
  rcases h.2 with ⟨hv, _⟩ | ⟨g', cap, cur, hv, hb, hg, h1, h2, h3, h4⟩
  · cases hv
  · injection hv with q1 q2 q3
    injection q1 with q1
    injection q1 with q1
    subst q1 q3
    refine .inr ⟨g, c, cur, rfl, hb, hg, by omega, h2, h3, ?_⟩
    rw [← h4, List.take_take]
    congr 1
    omega
theorem own_setCellsR {base : Nat} {e : TypeId} {size g n c : Nat} {xs : List Value} : ∀ (vs : List Value) (o : Nat) (w : World), w.ownsRow base e size (.slice (some ⟨g, 0, none⟩) n c) n xs → n * size ≤ o → (w.setCells g o vs).ownsRow base e size (.slice (some ⟨g, 0, none⟩) n c) n xs ∧ w.grownBy (w.setCells g o vs) (some g)
  | [], _, w, h, _ => ⟨h, grown_refl _ _⟩
  | v :: r, o, w, h, ho => by
    obtain ⟨h1, h2⟩ := h.stored o v
    rw [List.set_eq_of_length_le (by rw [h.1]; exact ho)] at h1
    obtain ⟨h3, h4⟩ := own_setCellsR r (o + 1) _ h1 (by omega)
    exact ⟨h3, grown_trans h2 h4⟩
theorem flat_takeR : ∀ (R : List Rp) (i : Nat), (R.flatMap rpE).take (i * 7) = (R.take i).flatMap rpE
  | _, 0 => by simp
  | [], i + 1 => by simp
  | x :: r, i + 1 => by
    rw [List.take_succ_cons, List.flatMap_cons, List.flatMap_cons, ← flat_takeR r i, show (i + 1) * 7 = i * 7 + 7 by omega]
    rfl
theorem zc_oneR (n : Nat) : ∀ v ∈ (Builtin.zeroCells (Value.agg #[.string ⟨#[]⟩, .string ⟨#[]⟩, .string ⟨#[]⟩, .int .i64 0, .int .i64 0, .int .i64 0, .bool false]).cells n).toList, v.oneCell' = true := by
  intro v hv
  unfold Builtin.zeroCells at hv
  rw [Array.toList_map] at hv
  obtain ⟨a, _, rfl⟩ := List.mem_map.1 hv
  show (#[Value.string ⟨#[]⟩, Value.string ⟨#[]⟩, Value.string ⟨#[]⟩, Value.int .i64 0, Value.int .i64 0, Value.int .i64 0, Value.bool false][a % 7]!).oneCell' = true
  have h : a % 7 < 7 := Nat.mod_lt _ (by decide)
  have h2 : a % 7 = 0 ∨ a % 7 = 1 ∨ a % 7 = 2 ∨ a % 7 = 3 ∨ a % 7 = 4 ∨ a % 7 = 5 ∨ a % 7 = 6 := by omega
  rcases h2 with h | h | h | h | h | h | h <;> rw [h] <;> rfl
theorem own_blkR {w : World} {base : Nat} {e : TypeId} {size g n c : Nat} {xs : List Value} (h : w.ownsRow base e size (.slice (some ⟨g, 0, none⟩) n c) n xs) : ∃ cur, w.heap[g]? = some (.cells cur e (0, 0)) ∧ cur.size = c * size ∧ n ≤ c := by
  rcases h.2 with ⟨hv, _⟩ | ⟨g', cap, cur, hv, hb, hg, h1, h2, h3, h4⟩
  · cases hv
  · injection hv with q1 q2 q3
    injection q1 with q1
    injection q1 with q1
    subst q1 q3
    exact ⟨cur, hg, h3, h1⟩
theorem run_clearR {P : Program} (w : World) (t e ty : TypeId) (z : Value) (ht : P.underlying t = some (.slice e)) (hv : ∀ w, (zeroValue e).run P w = .ok z w) (b o n c : Nat) (hn : 0 < n) (h1 : ∀ v ∈ (Builtin.zeroCells z.cells n).toList, v.oneCell' = true)
    (hc : ∀ j, j < (Builtin.zeroCells z.cells n).toList.length → (w.cell? ⟨b, o + j, none⟩).isSome = true) (hf : ∀ j, j < (Builtin.zeroCells z.cells n).toList.length → w.frozen? ⟨b, o + j, none⟩ = false) :
    (Builtin.clear_ #[t] ty #[.slice (some ⟨b, o, none⟩) n c]).run P w = .ok (.tuple #[]) (w.setCells b o (Builtin.zeroCells z.cells n).toList) := by
  have hst := run_storeCells_cells (P := P) b o (Builtin.zeroCells z.cells n).toList 0 w (by simpa using hc) (by simpa using hf) h1
  simp only [Nat.add_zero] at hst
  obtain ⟨m, rfl⟩ : ∃ m, n = m + 1 := ⟨n - 1, by omega⟩
  simp [Builtin.clear_, run_underlying ht, hv, hst]
/-- an element of an own row is stored whole -/
theorem flat_set7 (R : List Rp) (i : Nat) (x r : Rp) (h : R[i]? = some r) : ((((((((R.flatMap rpE).set (i * 7) (.string x.id)).set (i * 7 + 1) (.string x.jd)).set (i * 7 + 2) (.string x.who)).set (i * 7 + 3) (.int .i64 x.fault)).set (i * 7 + 4) (.int .i64 x.tm)).set (i * 7 + 5) (.int .i64 x.wt)).set (i * 7 + 6) (.bool x.nt)) = (R.set i x).flatMap rpE := by
  have e0 := flat_set rpE_len R i r ⟨x.id, r.jd, r.who, r.fault, r.tm, r.wt, r.nt⟩ 0 (.string x.id) h (by decide) rfl
  have hi := lt_of_at h
  have g0 : (R.set i ⟨x.id, r.jd, r.who, r.fault, r.tm, r.wt, r.nt⟩)[i]? = some ⟨x.id, r.jd, r.who, r.fault, r.tm, r.wt, r.nt⟩ := List.getElem?_set_self hi
  have e1 := flat_set rpE_len _ i _ ⟨x.id, x.jd, r.who, r.fault, r.tm, r.wt, r.nt⟩ 1 (.string x.jd) g0 (by decide) rfl
  rw [List.set_set] at e1
  have g1 : (R.set i ⟨x.id, x.jd, r.who, r.fault, r.tm, r.wt, r.nt⟩)[i]? = some ⟨x.id, x.jd, r.who, r.fault, r.tm, r.wt, r.nt⟩ := List.getElem?_set_self hi
  have e2 := flat_set rpE_len _ i _ ⟨x.id, x.jd, x.who, r.fault, r.tm, r.wt, r.nt⟩ 2 (.string x.who) g1 (by decide) rfl
  rw [List.set_set] at e2
  have g2 : (R.set i ⟨x.id, x.jd, x.who, r.fault, r.tm, r.wt, r.nt⟩)[i]? = some ⟨x.id, x.jd, x.who, r.fault, r.tm, r.wt, r.nt⟩ := List.getElem?_set_self hi
  have e3 := flat_set rpE_len _ i _ ⟨x.id, x.jd, x.who, x.fault, r.tm, r.wt, r.nt⟩ 3 (.int .i64 x.fault) g2 (by decide) rfl
  rw [List.set_set] at e3
  have g3 : (R.set i ⟨x.id, x.jd, x.who, x.fault, r.tm, r.wt, r.nt⟩)[i]? = some ⟨x.id, x.jd, x.who, x.fault, r.tm, r.wt, r.nt⟩ := List.getElem?_set_self hi
  have e4 := flat_set rpE_len _ i _ ⟨x.id, x.jd, x.who, x.fault, x.tm, r.wt, r.nt⟩ 4 (.int .i64 x.tm) g3 (by decide) rfl
  rw [List.set_set] at e4
  have g4 : (R.set i ⟨x.id, x.jd, x.who, x.fault, x.tm, r.wt, r.nt⟩)[i]? = some ⟨x.id, x.jd, x.who, x.fault, x.tm, r.wt, r.nt⟩ := List.getElem?_set_self hi
  have e5 := flat_set rpE_len _ i _ ⟨x.id, x.jd, x.who, x.fault, x.tm, x.wt, r.nt⟩ 5 (.int .i64 x.wt) g4 (by decide) rfl
  rw [List.set_set] at e5
  have g5 : (R.set i ⟨x.id, x.jd, x.who, x.fault, x.tm, x.wt, r.nt⟩)[i]? = some ⟨x.id, x.jd, x.who, x.fault, x.tm, x.wt, r.nt⟩ := List.getElem?_set_self hi
  have e6 := flat_set rpE_len _ i _ x 6 (.bool x.nt) g5 (by decide) rfl
  rw [List.set_set] at e6
  rw [Nat.add_zero] at e0
  rw [e0, e1, e2, e3, e4, e5, e6]
theorem keep_own7 {w w' : World} {B n size : Nat} {e : TypeId} {u : Value} {xs : List Value} (h : w.ownsRow B e size u n xs) (hg : w.grownBy w' u.ownBlock) : Keep e w w' := by
  intro b cs e' fz hne hb
  refine (hg.block b (lt_of_heap hb) (fun e0 => ?_)).trans hb
  rcases h.2 with ⟨rfl, _⟩ | ⟨g, cap, cur, rfl, _, hg', _⟩
  · simp [Value.ownBlock] at e0
  · simp only [Value.ownBlock, Option.some.injEq] at e0
    subst e0
    rw [hg'] at hb
    injection hb with hb
    injection hb with _ h3
    exact hne h3.symm
def IdxR (p : Rp → Bool) (l : List Rp) (n : Nat) (i : Int) : Prop := (i = -1 ∧ ∀ x ∈ l, p x = false) ∨ ∃ k : Nat, i = (k : Int) ∧ k < n ∧ (∃ x, l[k]? = some x ∧ p x = true) ∧ ∀ x ∈ l.take k, p x = false
set_option maxRecDepth 100000 in
theorem indexDR_c (p : Rp → Bool) (p1 p2 p3 p4 : Nat) (A : Option Addr) (n c : Nat) (l : List Rp) (w : World) (h : RRp w A n l) (hP : ∀ (x : Rp) W, Keep 96 w W → Calls Tryz.prog 327 #[.agg (rpE x).toArray, .pointer (some ⟨p1, 0, none⟩), .pointer (some ⟨p2, 0, none⟩), .pointer (some ⟨p3, 0, none⟩), .pointer (some ⟨p4, 0, none⟩)] W fun e w' => e = .returned (.bool (p x)) ∧ Below W.heap.size W w') :
    Calls Tryz.prog 403 #[.slice A n c, .func (.func 327) #[] #[.pointer (some ⟨p1, 0, none⟩), .pointer (some ⟨p2, 0, none⟩), .pointer (some ⟨p3, 0, none⟩), .pointer (some ⟨p4, 0, none⟩)]] w fun e w' => ∃ i, e = .returned (.int .i64 i) ∧ IdxR p l n i ∧ Below w.heap.size w w' := by
  have hz := Lib.hid (fun x W B => hP x W (Keep.of_below B))
  have hR := Lib.hid (fun W B => h.below (w' := W) B)
  have hl := Lib.hid h.len
  have hbd := h.bd
  clear hP h
  go_enter Tryz.func403, Tryz.ntmps403
  go_wp2_with fail
  go_loopw [8] (fun i wr => ∃ k : Nat, k ≤ n ∧ i = .int .i64 k ∧ Below w.heap.size w wr ∧ Hid (∀ x ∈ l.take k, p x = false)) (fun i _ => n - (intOf i).toNat)
  case atStart => exact ⟨0, Nat.zero_le _, rfl, Below.refl _ _, Lib.hid (fun x hx => by simp at hx)⟩
  case round =>
    rename World => wr
    obtain ⟨k, hk, rfl, hB, hF⟩ := hrel
    by_cases hlt : k < n
    · obtain ⟨b, off, x, rfl, hbl, hx, c0, c1, c2, c3, c4, c5, c6⟩ := RRp_at7 (hR.out _ hB) hlt
      have hx' := Lib.hid hx
      have hzx := Lib.hid (hz.out x wr hB)
      have hpx := Lib.hid (show p x = p x from rfl)
      obtain ⟨pb, hpb⟩ : ∃ pb, p x = pb := ⟨_, rfl⟩
      rw [hpb] at hzx
      have hpb' := Lib.hid hpb
      obtain ⟨id, jd, wo, fault, tm, wt, nt⟩ := x
      dsimp only [rpE] at *
      clear hx hpb hpx
      cases pb
      · have hF2 := Lib.hid (show ∀ x ∈ l.take (k + 1), p x = false from fun x hx => by
          rw [List.take_add_one, hx'.out] at hx
          rcases List.mem_append.1 hx with hx | hx
          · exact hF.out x hx
          · simp at hx; subst hx; exact hpb'.out)
        clear hF hx' hpb'
        go_wp2_with fail
        refine hzx.out.mono ?_; rintro e w1 ⟨rfl, B1⟩
        have hB1 := below_next hB B1
        go_wp2
        go_roundw
        case rel => exact ⟨k + 1, by omega, by go_num, hB1, hF2⟩
        case measure => simp [intOf]; omega
      · have hI := Lib.hid (show IdxR p l n (k : Int) from .inr ⟨k, rfl, hlt, ⟨_, hx'.out, hpb'.out⟩, hF.out⟩)
        clear hF hx' hpb'
        go_wp2_with fail
        refine hzx.out.mono ?_; rintro e w1 ⟨rfl, B1⟩
        have hB1 := below_next hB B1
        go_wp2
        go_ret
        exact ⟨_, rfl, hI.out, hB1⟩
    · obtain rfl : k = n := by omega
      have hI := Lib.hid (show IdxR p l k (-1) from .inl ⟨rfl, fun x hx => hF.out x (by rw [List.take_of_length_le (by rw [hl.out]; exact Nat.le_refl _)]; exact hx)⟩)
      go_wp2
      go_ret
      exact ⟨_, rfl, hI.out, hB⟩
theorem strikeR (p : Rp → Bool) (R l : List Rp) (i j : Nat) (x : Rp) (hR : R.take i = (l.take j).filter fun y => !p y) (hD : R.drop j = l.drop j) (hij : i ≤ j) (hx : l[j]? = some x) (hl : R.length = l.length) :
    (p x = true → R.take i = (l.take (j + 1)).filter fun y => !p y) ∧ (p x = false → (R.set i x).take (i + 1) = (l.take (j + 1)).filter fun y => !p y) ∧ R.drop (j + 1) = l.drop (j + 1) ∧ (R.set i x).drop (j + 1) = l.drop (j + 1) := by
  have hj := lt_of_at hx
  have ht : (l.take (j + 1)).filter (fun y => !p y) = (l.take j).filter (fun y => !p y) ++ if p x = false then [x] else [] := by
    rw [List.take_add_one, hx, List.filter_append]
    congr 1
    by_cases h : p x = true <;> simp [h]
  have hd : R.drop (j + 1) = l.drop (j + 1) := by
    have h1 : (R.drop j).drop 1 = (l.drop j).drop 1 := by rw [hD]
    rw [List.drop_drop, List.drop_drop] at h1
    exact h1
  refine ⟨fun h => by rw [ht, if_neg (by simp [h]), List.append_nil, hR], fun h => ?_, hd, ?_⟩
  · rw [ht, if_pos h, List.take_add_one, List.getElem?_set_self (by omega), List.take_set_of_le (Nat.le_refl _), hR]
    rfl
  · rw [List.drop_set_of_lt (by omega)]
    exact hd
set_option maxHeartbeats 3200000 in
set_option maxRecDepth 100000 in
theorem deleteR_c (p : Rp → Bool) (p1 p2 p3 p4 : Nat) (base : Nat) (u : Value) (n : Nat) (l : List Rp) (w : World) (hown : w.ownsRow base 96 7 u n (l.flatMap rpE)) (hn : n ≤ 1000) (hbw : base ≤ w.heap.size) (hP : ∀ (x : Rp) W, Keep 96 w W → Calls Tryz.prog 327 #[.agg (rpE x).toArray, .pointer (some ⟨p1, 0, none⟩), .pointer (some ⟨p2, 0, none⟩), .pointer (some ⟨p3, 0, none⟩), .pointer (some ⟨p4, 0, none⟩)] W fun e w' => e = .returned (.bool (p x)) ∧ Below W.heap.size W w') :
    Calls Tryz.prog 326 #[u, .func (.func 327) #[] #[.pointer (some ⟨p1, 0, none⟩), .pointer (some ⟨p2, 0, none⟩), .pointer (some ⟨p3, 0, none⟩), .pointer (some ⟨p4, 0, none⟩)]] w fun e w' => ∃ A' n' c', e = .returned (.slice A' n' c') ∧ w'.ownsRow base 96 7 (.slice A' n' c') n' ((l.filter fun y => !p y).flatMap rpE) ∧ n' ≤ n ∧ Below base w w' := by
  obtain ⟨A, c, rfl⟩ := own_shape hown
  have hlen := own_len rpE_len (by decide) hown
  have hR0 := RN.of_own rpE_len hown hlen (by omega)
  have hI := Lib.hid (indexDR_c p p1 p2 p3 p4 A n c l w hR0 hP)
  have hz := Lib.hid hP
  have hbel := Lib.hid (fun w' (B : Below w.heap.size w w') => show Below base w w' from B.mono hbw)
  have hkb := Lib.hid (fun w' (B : Below w.heap.size w w') => Keep.of_below (T := 96) B)
  have hlen' := Lib.hid hlen
  clear hR0 hP
  go_enter Tryz.func326, Tryz.ntmps326
  go_wp2_with fail
  refine hI.out.mono ?_; rintro e w1 ⟨i, rfl, hix, B1⟩
  have ho1 := own_below hown B1
  have hB1 := hbel.out _ B1
  have hK1 := hkb.out _ B1
  clear hI hown
  rcases hix with ⟨rfl, hall⟩ | ⟨k, rfl, hk, ⟨y, hy, hy0⟩, hall⟩
  · have hf : (l.filter fun y => !p y) = l := List.filter_eq_self.2 (fun x hx => by simpa using hall x hx)
    have hf' := Lib.hid hf
    clear hall hf hz
    go_wp2
    go_ret
    exact ⟨A, n, c, rfl, by rw [hf'.out]; exact ho1, Nat.le_refl _, hB1⟩
  · obtain ⟨g, rfl, hg⟩ := own_someN ho1 (by omega)
    have hne : ((k : Int) == -1) = false := beq_eq_false_iff_ne.2 (by omega)
    have hz1 : base ≤ w1.heap.size := Nat.le_trans hbw B1.size
    have hT0 : l.take k = (l.take (k + 1)).filter fun y => !p y := by
      rw [List.take_add_one, hy, List.filter_append, List.filter_eq_self.2 (fun x hx => by simpa using hall x hx)]
      simp [hy0]
    have hT0' := Lib.hid hT0
    clear hT0 hall hy hy0
    go_wp2_with fail
    go_loopw [5, 6] (fun iv jv wr => ∃ (i j : Nat) (R : List Rp), iv = .int .i64 i ∧ jv = .int .i64 j ∧ i < j ∧ j ≤ n ∧ Hid (R.length = n) ∧ wr.ownsRow base 96 7 (.slice (some ⟨g, 0, none⟩) n c) n (R.flatMap rpE) ∧ Below base w wr ∧ base ≤ wr.heap.size ∧ Keep 96 w wr ∧ Hid (R.take i = (l.take j).filter fun y => !p y) ∧ Hid (R.drop j = l.drop j)) (fun _ jv _ => n - (intOf jv).toNat)
    case atStart => exact ⟨k, k + 1, l, rfl, by go_num, by omega, by omega, hlen', ho1, hB1, hz1, hK1, hT0', Lib.hid rfl⟩
    case round =>
      clear ho1 hB1 hz1 hK1
      rename World => wr
      obtain ⟨i, j, R, rfl, rfl, hij, hj, hRl, hown, hB, hzz, hK, hRt, hRd⟩ := hrel
      by_cases hlt : j < n
      · obtain ⟨x, hx⟩ := at_of_lt (l := l) (k := j) (by rw [hlen'.out]; exact hlt)
        have hRx : R[j]? = some x := by
          have h1 : (R.drop j)[0]? = (l.drop j)[0]? := by rw [hRd.out]
          rw [List.getElem?_drop, List.getElem?_drop, Nat.add_zero] at h1
          rw [h1, hx]
        obtain ⟨q1, q2, q3, q4⟩ := strikeR p R l i j x hRt.out hRd.out (by omega) hx (by rw [hRl.out, hlen'.out])
        have hRR : RRp wr (some ⟨g, 0, none⟩) n R := RN.of_own rpE_len hown hRl.out (by omega)
        obtain ⟨b, off, x2, hA, hbl, hx2, c0, c1, c2, c3, c4, c5, c6⟩ := RRp_at7 hRR hlt
        injection hA with hA
        injection hA with e1 e2
        subst e1 e2
        rw [hRx] at hx2
        obtain rfl := Option.some.inj hx2
        obtain ⟨r, hr⟩ := at_of_lt (l := R) (k := i) (by rw [hRl.out]; omega)
        have hst1 := Lib.hid (flat_set7 R i x r hr)
        rw [Nat.zero_add] at c0 c1 c2 c3 c4 c5 c6
        have hn5 := heap_alloc_new wr (.cells (rpE x).toArray 96)
        have hBn := below_new wr (.cells (rpE x).toArray 96)
        have hzx := Lib.hid (hz.out x (wr.alloc (.cells (rpE x).toArray 96)) (hK.trans (Keep.of_below hBn)))
        obtain ⟨pb, hpb⟩ : ∃ pb, p x = pb := ⟨_, rfl⟩
        rw [hpb] at hzx q1 q2
        have hq1 := Lib.hid q1
        have hq2 := Lib.hid q2
        have hq3 := Lib.hid q3
        have hq4 := Lib.hid q4
        obtain ⟨id, jd, wo, fault, tm, wt, nt⟩ := x
        dsimp only [rpE] at *
        have hown5 := own_below hown hBn
        have hB5 := hB.trans (hBn.mono hzz)
        have hK5 := hK.trans (Keep.of_below hBn)
        have hz5 : base ≤ (wr.alloc (.cells #[.string id, .string jd, .string wo, .int .i64 fault, .int .i64 tm, .int .i64 wt, .bool nt] 96)).heap.size := Nat.le_trans hzz hBn.size
        clear hx hRx hx2 hr hRR q1 q2 q3 q4 hRt hRd hown hB hpb hBn hK
        cases pb
        rotate_left
        · have hT := Lib.hid (hq1.out (by first | rfl | trivial))
          clear hq1 hq2 hq4 hst1
          go_wp2_with fail
          refine hzx.out.mono ?_; rintro e w5 ⟨rfl, B5⟩
          have hown6 := own_below hown5 B5
          have hB6 := hB5.trans (B5.mono hz5)
          have hz6 : base ≤ w5.heap.size := Nat.le_trans hz5 B5.size
          have hK6 := hK5.trans (Keep.of_below B5)
          clear hown5 B5 hB5 hn5 hK5
          go_wp2
          go_roundw
          case rel => exact ⟨i, j + 1, R, rfl, by go_num, by omega, by omega, hRl, hown6, hB6, hz6, hK6, hT, hq3⟩
          case measure => simp [intOf]; omega
        · have hT := Lib.hid (hq2.out (by first | rfl | trivial))
          clear hq1 hq2 hq3
          go_wp2_with fail
          refine hzx.out.mono ?_; rintro e w5 ⟨rfl, B5⟩
          have hown6 := own_below hown5 B5
          have hB6 := hB5.trans (B5.mono hz5)
          have hz6 : base ≤ w5.heap.size := Nat.le_trans hz5 B5.size
          have hK6 := hK5.trans (Keep.of_below B5)
          have hb6 := blk_below hn5 B5
          have y0 := (blk_facts hb6).1 0
          have y1 := (blk_facts hb6).1 1
          have y2 := (blk_facts hb6).1 2
          have y3 := (blk_facts hb6).1 3
          have y4 := (blk_facts hb6).1 4
          have y5 := (blk_facts hb6).1 5
          have y6 := (blk_facts hb6).1 6
          have f0 := hown6.frozenAt (i * 7)
          have f1 := hown6.frozenAt (i * 7 + 1)
          have f2 := hown6.frozenAt (i * 7 + 2)
          have f3 := hown6.frozenAt (i * 7 + 3)
          have f4 := hown6.frozenAt (i * 7 + 4)
          have f5 := hown6.frozenAt (i * 7 + 5)
          have f6 := hown6.frozenAt (i * 7 + 6)
          obtain ⟨b', off', r', hA', _, hr', d0, d1, d2, d3, d4, d5, d6⟩ := RRp_at7 (RN.of_own rpE_len hown6 hRl.out (by omega)) (k := i) (by omega)
          injection hA' with hA'
          injection hA' with e1 e2
          subst e1 e2
          rw [Nat.zero_add] at d0 d1 d2 d3 d4 d5 d6
          have hs1 := hown6.stored (i * 7) (.string id)
          have hs2 := hs1.1.stored (i * 7 + 1) (.string jd)
          have hs3 := hs2.1.stored (i * 7 + 2) (.string wo)
          have hs4 := hs3.1.stored (i * 7 + 3) (.int .i64 fault)
          have hs5 := hs4.1.stored (i * 7 + 4) (.int .i64 tm)
          have hs6 := hs5.1.stored (i * 7 + 5) (.int .i64 wt)
          have hs7 := hs6.1.stored (i * 7 + 6) (.bool nt)
          have hgr := grown_trans (grown_trans (grown_trans (grown_trans (grown_trans (grown_trans hs1.2 hs2.2) hs3.2) hs4.2) hs5.2) hs6.2) hs7.2
          rw [hst1.out] at hs7
          have ho7 := hs7.1
          have hB7 := below_own hB6 hown6 hgr hz6 (Nat.le_refl _)
          have hK7 := hK6.trans (keep_own7 hown6 hgr)
          have hz7 := Nat.le_trans hz6 hgr.size
          have hRl7 := Lib.hid (show (R.set i ⟨id, jd, wo, fault, tm, wt, nt⟩).length = n by rw [List.length_set]; exact hRl.out)
          have H7 := Lib.hid (And.intro ho7 (And.intro hB7 (And.intro hz7 hK7)))
          clear hs1 hs2 hs3 hs4 hs5 hs6 hs7 hgr ho7 hB7 hz7 hK7 hown6 hB6 hst1 hr' hK6 hown5 B5 hB5 hn5 hK5
          go_wp2
          go_roundw
          case rel => exact ⟨i + 1, j + 1, _, by go_num, by go_num, by omega, by omega, hRl7, H7.out.1, H7.out.2.1, H7.out.2.2.1, H7.out.2.2.2, hT, hq4⟩
          case measure => simp [intOf]; omega
      · obtain rfl : j = n := by omega
        have hfin : R.take i = l.filter fun y => !p y := by rw [hRt.out, List.take_of_length_le (by rw [hlen'.out]; exact Nat.le_refl _)]
        have hk := own_takeR hown (k := i) (by omega)
        have hfl : (R.flatMap rpE).take (i * 7) = (R.take i).flatMap rpE := flat_takeR R i
        rw [hfl, hfin] at hk
        have hzc : (Builtin.zeroCells (Value.agg #[.string ⟨#[]⟩, .string ⟨#[]⟩, .string ⟨#[]⟩, .int .i64 0, .int .i64 0, .int .i64 0, .bool false]).cells (j - i)).toList.length = (j - i) * 7 := by rw [Array.length_toList, size_zeroCells]; rfl
        have hzo : ∀ v ∈ (Builtin.zeroCells (Value.agg #[.string ⟨#[]⟩, .string ⟨#[]⟩, .string ⟨#[]⟩, .int .i64 0, .int .i64 0, .int .i64 0, .bool false]).cells (j - i)).toList, v.oneCell' = true := zc_oneR (j - i)
        obtain ⟨cur, hgb, hcs, hcap⟩ := own_blkR hown
        have hcl : ∀ ty, (Builtin.clear_ #[89] ty #[.slice (some ⟨g, i * 7, none⟩) (j - i) (c - i)]).run Tryz.prog wr = .ok (.tuple #[]) (wr.setCells g (i * 7) (Builtin.zeroCells (Value.agg #[.string ⟨#[]⟩, .string ⟨#[]⟩, .string ⟨#[]⟩, .int .i64 0, .int .i64 0, .int .i64 0, .bool false]).cells (j - i)).toList) :=
          fun ty => run_clearR wr _ _ ty _ Tryz.underlying89 Tryz.zeroValue96 g (i * 7) (j - i) (c - i) (by omega) hzo (fun t ht => by rw [(blk_facts hgb).1, Array.getElem?_eq_getElem (by omega)]; rfl) (fun t ht => (blk_facts hgb).2 _)
        obtain ⟨h8, h9⟩ := own_setCellsR (Builtin.zeroCells (Value.agg #[.string ⟨#[]⟩, .string ⟨#[]⟩, .string ⟨#[]⟩, .int .i64 0, .int .i64 0, .int .i64 0, .bool false]).cells (j - i)).toList (i * 7) wr hk (Nat.le_refl _)
        have hB9 := below_own hB hk h9 hzz (Nat.le_refl _)
        have hci : ¬ c = i := by omega
        have j0 : (0 : Int) ≤ (i : Int) := by omega
        have j1 : (i : Int) ≤ (j : Int) := by omega
        have j2 : (j : Int) ≤ (c : Int) := by omega
        have j3 : (i : Int) ≤ (c : Int) := by omega
        generalize (Builtin.zeroCells (Value.agg #[.string ⟨#[]⟩, .string ⟨#[]⟩, .string ⟨#[]⟩, .int .i64 0, .int .i64 0, .int .i64 0, .bool false]).cells (j - i)).toList = zcs at *
        clear hzc hzo hgb hown hk hfl hfin hRt hRd hcs
        go_wp2
        go_ret
        exact ⟨_, i, c, rfl, h8, by omega, hB9⟩
end Go.Proofs.YtklggnglaeagpaaGreatDoor
