import Derived.Test.YtlddeeagnlgciaaGreatDoorApp2
import Derived.Test.YtlddeeagnlgciaaGreatDoorStructs
import Derived.Laws.AppendOwnNone
import Derived.Test.YtlddeeagnlgciaaGreatDoorPassA
import Derived.Lib.AppendZeros
import Derived.Test.YtlddeeagnlgciaaGreatDoorPassL
import Derived.Sort.OwnSortedInts
import Derived.Lib.RowBridge
import Derived.Test.YtlddeeagnlgciaaGreatDoorSortG
import Derived.Shelf.SlicesE.DeleteFunc
import Derived.Deep.RegionHeld3


/- slices.Grow of nothing; slices.Concat of two rows of ints. -/
namespace Go.Proofs.YtlddeeagnlgciaaGreatDoor
open Go.RowKit
set_option linter.unusedVariables false

section
variable {P : Program} {w : World}
/-- `append(nil, make([]T, n)...)` -/
theorem wpList_zeros {ops : Array Oper} {rest : List Oper} {o : Oper} {a : Act} {Q : Exit → Act → World → Prop} (hgd : o.guard = none) (s x : Operand) (t tn : TypeId)
    (ho : o.op = .call { callee := .builtin .append, args := #[s, x], argTypes := #[t, tn] })
    {e : TypeId} {z : Value} {size bytes : Nat} (ht : P.underlying t = some (.slice e)) (htn : P.underlying tn = some (.int .i64)) (hinfo : (P.info? e).map (fun i => (i.zero, i.size, i.bytes)) = some (some z, size, bytes))
    (n : Nat) (h0 : 0 < n) (hsz : 0 < size) (hn : n ≤ 1000000) (hby : bytes ≤ 1024) (hs : a.eval s = .slice none 0 0) (hx : a.eval x = .int .i64 n)
    (h : ∀ cap, n ≤ cap → cap ≤ maxLen → wpList P ops Q rest (a.put o.dst (.slice (some ⟨w.heap.size, 0, none⟩) n cap)) (w.drew.alloc (.cells (Builtin.zeroCells z.cells n ++ Builtin.zeroCells z.cells (cap - n)) e))) :
    wpList P ops Q (o :: rest) a w := by
  obtain ⟨i, hi, hz0, hz1, hz2⟩ := info_parts hinfo
  have hm : n * bytes ≤ 1000000 * 1024 := Nat.mul_le_mul hn hby
  refine wpList_plain hgd fun K hK => ?_
  have hr := Lib.run_append_nil_zeros (P := P) w t tn o.type e i z .i64 .i64 ht htn hi hz0 n h0 (by rw [hz1]; exact hsz) (by omega) (by rw [hz2]; omega)
  unfold Oper.wp execOp
  simp only [ho, resolve, invoke, builtin, Sem.run_bind, Sem.run_pure, Result.andThen_ok, List.map_toArray, List.map_cons, List.map_nil, hs, hx, hr]
  exact hK _ _ (h _ (grownCap_ge _ _ _ _) (grownCap_le_maxLen _ _ _ _ (by unfold maxLen; omega)))
end
theorem growNil_c (n : Nat) (w : World) (h0 : 0 < n) (hn : n ≤ 1000000) :
    Calls Tryz.prog 226 #[.slice none 0 0, .int .i64 n] w fun e w' => ∃ A c, e = .returned (.slice A 0 c) ∧ w'.ownsRow w.heap.size 3 1 (.slice A 0 c) 0 [] ∧ Below w.heap.size w w' := by
  have h1 : ¬ ((n : Int) < 0) := by omega
  have h2 : (0 : Int) < (n : Int) := by omega
  have h3 : IntKind.i64.wrap ((n : Int)) = (n : Int) := IntWalk.i64_in _ (by omega)
  go_enter Tryz.func226, Tryz.ntmps226
  go_wp2_with (at_builtin; refine wpList_zeros rfl (.tmp 20) (.tmp 21) 22 3 rfl Tryz.underlying22 Tryz.underlying3 info_int n h0 (by omega) hn (by omega) (by rfl) (by rfl) ?_; intro cap hc1 hc2)
  go_ret
  refine ⟨_, cap, rfl, ⟨rfl, .inr ⟨w.heap.size, cap, _, rfl, Nat.le_refl _, heap_alloc_new w.drew _, Nat.zero_le _, hc2, ?_, by simp⟩⟩, below_drewN (below_new w _) 1⟩
  rw [Array.size_append, size_zeroCells, size_zeroCells]
  show n * 1 + (cap - n) * 1 = cap * 1
  omega
set_option maxHeartbeats 1600000 in
set_option maxRecDepth 100000 in
theorem concat2_c (A B : Option Addr) (n c m d z : Nat) (la lb : List Int) (w : World) (hz : w.heap[z]? = some (.cells #[.slice A n c, .slice B m d] 22 (0, 0))) (ha : RI 3 w A n la) (hb : RI 3 w B m lb) (hA : A = none → c = 0) (hB : B = none → d = 0) (h0 : 0 < n + m) (hn : n ≤ 1000) (hm : m ≤ 1000) :
    Calls Tryz.prog 172 #[.slice (some ⟨z, 0, none⟩) 2 2] w fun e w' => ∃ A' c', e = .returned (.slice A' (n + m) c') ∧ w'.ownsRow w.heap.size 3 1 (.slice A' (n + m) c') (n + m) (ints (la ++ lb)) ∧ Below w.heap.size w w' := by
  have z0 := (blk_facts hz).1 0
  have z1 := (blk_facts hz).1 1
  have w1 : IntKind.i64.wrap ((n : Int)) = (n : Int) := IntWalk.i64_in _ (by omega)
  have w2 : IntKind.i64.wrap ((n : Int) + (m : Int)) = (n : Int) + (m : Int) := IntWalk.i64_in _ (by omega)
  have p1 : ¬ (n : Int) < 0 := by omega
  have p2 : ¬ (n : Int) + (m : Int) < 0 := by omega
  have hG := Lib.hid (growNil_c (n + m) w h0 (by omega))
  rw [show ((n + m : Nat) : Int) = (n : Int) + (m : Int) by push_cast; rfl] at hG
  go_enter Tryz.func172, Tryz.ntmps172
  go_wp2
  refine wp_loop_rounds 3 ?_
  rw [rounds_succ]
  go_wp2
  rw [rounds_succ]
  go_wp2
  rw [rounds_succ]
  go_wp2_with fail
  refine hG.out.mono ?_; rintro e w3 ⟨GA, gc, rfl, hown, B3⟩
  have y0 := (blk_facts (blk_below hz B3)).1 0
  have hz3 := B3.size
  have ha3 := ha.below B3
  have hz4 := blk_below hz B3
  have hb0 := Lib.hid (fun W h => hb.below (w' := W) h)
  have hzz := Lib.hid (fun W h => blk_below (w' := W) hz h)
  clear z0 z1 hz hG ha hb
  go_wp2
  refine wp_loop_rounds 3 ?_
  rw [rounds_succ]
  go_wp2_with (at_builtin; refine wpList_appR rfl (.tmp 31) (.tmp 32) 22 rfl Tryz.underlying22 info_int rfl (by omega) (by omega) hown rfl hA ha3.src rfl (by rw [List.length_map, ha3.len]; omega) (ints_one la) (by omega) hz3 ?_; intro v4 w4 hown4 hg4)
  have hB4 := below_own B3 hown hg4 hz3 (Nat.le_refl _)
  have y1 := (blk_facts (hzz.out _ hB4)).1 1
  have hb4 := hb0.out _ hB4
  have hz5 := hB4.size
  rw [List.nil_append, Nat.zero_add] at hown4
  clear hown hg4 B3 hzz hb0 y0 ha3 hz4
  rw [rounds_succ]
  go_wp2_with (at_builtin; refine wpList_appR rfl (.tmp 31) (.tmp 32) 22 rfl Tryz.underlying22 info_int rfl (by omega) (by omega) hown4 rfl hB hb4.src rfl (by rw [List.length_map, hb4.len]; omega) (ints_one lb) (by omega) hz5 ?_; intro v6 w6 hown6 hg6)
  have hB6 := below_own hB4 hown4 hg6 hz5 (Nat.le_refl _)
  obtain ⟨A9, c9, rfl⟩ := own_shape hown6
  have hfin : w6.ownsRow w.heap.size 3 1 (.slice A9 (n + m) c9) (n + m) (ints (la ++ lb)) := by rw [ints_app]; exact hown6
  clear hown4 hg6 y1 hb4 hown6 hB4
  rw [rounds_succ]
  go_wp2
  go_ret
  exact ⟨A9, c9, rfl, hfin, hB6⟩
end Go.Proofs.YtlddeeagnlgciaaGreatDoor

/- slices.Sort, slices.Compact of a row of ints of the call's own. -/
namespace Go.Proofs.YtlddeeagnlgciaaGreatDoor
open Go.RowKit Go.Lib Go.Sort
set_option linter.unusedVariables false

theorem own_parts {w : World} {base : Nat} {e : TypeId} {A : Option Addr} {n c : Nat} {l : List Int} (h : w.ownsRow base e 1 (.slice A n c) n (ints l)) (hn : 0 < n) : ∃ g cur, A = some ⟨g, 0, none⟩ ∧ base ≤ g ∧ w.heap[g]? = some (.cells cur e (0, 0)) ∧ n ≤ c ∧ c ≤ maxLen ∧ cur.size = c * 1 ∧ cur.toList.take n = ints l ∧ l.length = n := by
  have hl : l.length = n := by have := h.1; rw [ints_len] at this; omega
  rcases h.2 with ⟨_, h0⟩ | ⟨g, cap, cur, hv, hb, hg, h1, h2, h3, h4⟩
  · omega
  · injection hv with q1 q2 q3
    subst q3
    exact ⟨g, cur, q1, hb, hg, h1, h2, h3, by rw [Nat.mul_one] at h4; exact h4, hl⟩
theorem sortOwn_c (base : Nat) (A : Option Addr) (n c : Nat) (l : List Int) (w : World) (h : w.ownsRow base 3 1 (.slice A n c) n (ints l)) (h0 : 0 < n) (hn : n ≤ 100000) :
    Calls Tryz.prog 101 #[.slice A n c] w fun e w' => e = .returned (.tuple #[]) ∧ w'.ownsRow base 3 1 (.slice A n c) n (ints (l.mergeSort fun x y => decide (x ≤ y))) ∧ w.grownBy w' (Value.slice A n c).ownBlock := by
  obtain ⟨g, cur, rfl, hb, hg, h1, h2, h3, h4, hl⟩ := own_parts h h0
  subst hl
  have hH := holds_of_blockI hg h4
  refine (Tryz.slices_Sort_int g 0 c l w hH (lt_of_heap hg) (by omega)).mono ?_
  rintro e w' ⟨he, q, os, rfl⟩
  exact ⟨he, ownsRow_sortedI (ss := l) (by simp) hb hg h1 h2 h3, grownBy_sortedI _⟩
/-- the first ones of an own row -/
theorem own_takeI {w : World} {base : Nat} {e : TypeId} {g n c k : Nat} {xs : List Value} (h : w.ownsRow base e 1 (.slice (some ⟨g, 0, none⟩) n c) n xs) (hk : k ≤ n) : w.ownsRow base e 1 (.slice (some ⟨g, 0, none⟩) k c) k (xs.take k) := by
  have hl := h.1
  refine ⟨by rw [List.length_take]; omega, ?_⟩
  rcases h.2 with ⟨hv, _⟩ | ⟨g', cap, cur, hv, hb, hg, h1, h2, h3, h4⟩
  · cases hv
  · injection hv with q1 q2 q3
    injection q1 with q1
    injection q1 with q1
    subst q1 q3
    refine .inr ⟨g, c, cur, rfl, hb, hg, by omega, h2, h3, ?_⟩
    rw [← h4, List.take_take]
    congr 1
    omega
theorem compactOwn_c (base : Nat) (A : Option Addr) (n c : Nat) (l : List Int) (w : World) (h : w.ownsRow base 3 1 (.slice A n c) n (ints l)) (h0 : 0 < n) (hn : n ≤ 100000) :
    Calls Tryz.prog 102 #[.slice A n c] w fun e w' => e = .returned (.slice A (Lib.compact l).length c) ∧ w'.ownsRow base 3 1 (.slice A (Lib.compact l).length c) (Lib.compact l).length (ints (Lib.compact l)) ∧ w.grownBy w' (Value.slice A n c).ownBlock := by
  obtain ⟨g, cur, rfl, hb, hg, h1, h2, h3, h4, hl⟩ := own_parts h h0
  subst hl
  have hH := holds_of_blockI hg h4
  have hcl := Lib.compact_length_le l
  refine (Tryz.slices_Compact_int g 0 c l w hH (by omega) h1).mono ?_
  rintro e w' ⟨he, q, rfl⟩
  have hgr : ∀ W : World, grow W #[] = W := fun W => by simp [grow]
  have k1 := ownsRow_sortedI (n := q) (os := #[]) (ss := l) (ts := Lib.compact l ++ List.replicate (l.length - (Lib.compact l).length) 0) (by simp; omega) hb hg h1 h2 h3
  have k2 := grownBy_sortedI (w := w) (g := g) (n := q) (os := #[]) (Lib.compact l ++ List.replicate (l.length - (Lib.compact l).length) 0).toArray
  rw [hgr] at k1 k2
  refine ⟨he, ?_, k2⟩
  have k3 := own_takeI k1 hcl
  rw [List.map_append, List.take_append_of_le_length (by simp), List.take_of_length_le (by simp)] at k3
  exact k3
end Go.Proofs.YtlddeeagnlgciaaGreatDoor

/- slices.DeleteFunc of a row of ints of the call's own; the reference's edges of two swimmers. -/
namespace Go.Proofs.YtlddeeagnlgciaaGreatDoor
open Go.RowKit Go.Lib Go.Sort
set_option linter.unusedVariables false

theorem later_c (lim x : Int) (B : Nat) (W : World) (hc : W.cell? ⟨B, 0, none⟩ = some (.int .i64 lim)) :
    FnGives Tryz.prog 176 #[.pointer (some ⟨B, 0, none⟩)] #[.int .i64 x] (.bool (decide (lim < x))) W := by
  show Calls Tryz.prog 176 #[.int .i64 x, .pointer (some ⟨B, 0, none⟩)] W _
  go_enter Tryz.func176, Tryz.ntmps176
  go_wp2
  all_goals (go_ret; exact ⟨by simp_all, 0, rfl⟩)
theorem deleteOwn_c (base : Nat) (A : Option Addr) (n c B : Nat) (fin : Int) (l : List Int) (w : World) (h : w.ownsRow base 3 1 (.slice A n c) n (ints l)) (h0 : 0 < n) (hn : n ≤ 100000) (hB : w.cell? ⟨B, 0, none⟩ = some (.int .i64 fin)) (lB : B < w.heap.size) (hne : ∀ i, (Value.slice A n c).ownBlock = some i → B ≠ i) :
    Calls Tryz.prog 175 #[.slice A n c, .func (.func 176) #[] #[.pointer (some ⟨B, 0, none⟩)]] w fun e w' => e = .returned (.slice A (l.filter fun x => !decide (fin < x)).length c) ∧ w'.ownsRow base 3 1 (.slice A (l.filter fun x => !decide (fin < x)).length c) (l.filter fun x => !decide (fin < x)).length (ints (l.filter fun x => !decide (fin < x))) ∧ w.grownBy w' (Value.slice A n c).ownBlock := by
  obtain ⟨g, cur, rfl, hb, hg, h1, h2, h3, h4, hl⟩ := own_parts h h0
  subst hl
  have hH := holds_of_blockI hg h4
  have hne' : B ≠ g := hne g rfl
  have eg : ∀ args w, (callFunc 176 args).run Tryz.prog w = .ok (.enter 176 args) w := enters_of Tryz.func176 (by kernel_rfl) rfl
  have hcon := AnyE.slices_DeleteFunc Tryz.laysDF (Value.int .i64) (fun _ => rfl) (fun x => decide (fin < x)) 176 #[.pointer (some ⟨B, 0, none⟩)] eg 0 Tryz.zeroValue3 g 0 c l.toArray w
    (fun W x hb => later_c fin x B W ((hb.cell (p := ⟨B, 0, none⟩) lB).trans hB)) (fun m os dk x _ => later_c fin x B _ (by
    unfold sortWorld
    rw [cell?_grow _ _ _ (by show B < (putRow _ _ _ _ _).heap.size; rw [size_putRow]; exact lB), cell?_putRow_other _ _ g 0 _ _ (Or.inl hne')]
    exact hB)) hH (by simp; omega) (by simpa using h1)
  have hcl : (l.filter fun x => !decide (fin < x)).length ≤ l.length := List.length_filter_le _ _
  change Calls Tryz.prog 175 _ _ _ at hcon
  simp only [List.size_toArray, List.toList_toArray] at hcon
  refine hcon.mono ?_
  rintro e w' ⟨he, q, rfl⟩
  generalize (l.filter fun x => !decide (fin < x)) = r at *
  have hgr : ∀ W : World, grow W #[] = W := fun W => by simp [grow]
  have k1 := ownsRow_sortedI (n := q) (os := #[]) (ss := l) (ts := r ++ List.replicate (l.length - r.length) 0) (by simp; omega) hb hg h1 h2 h3
  have k2 := grownBy_sortedI (w := w) (g := g) (n := q) (os := #[]) (r ++ List.replicate (l.length - r.length) 0).toArray
  rw [hgr] at k1 k2
  refine ⟨he, ?_, k2⟩
  have k3 := own_takeI k1 hcl
  rw [List.map_append, List.take_append_of_le_length (by simp), List.take_of_length_le (by simp)] at k3
  exact k3
set_option maxHeartbeats 3200000 in
set_option maxRecDepth 100000 in
theorem edgesOf_c (A B : Option Addr) (n c m d : Nat) (la lb : List Int) (fin : Int) (w : World) (ha : RI 3 w A n la) (hb : RI 3 w B m lb) (hn1 : 1 ≤ n) (hm1 : 1 ≤ m) (hn : n ≤ 300) (hm : m ≤ 300) (hAb : ∀ x ∈ la, 0 ≤ x ∧ x ≤ 360000) (hBb : ∀ x ∈ lb, 0 ≤ x ∧ x ≤ 360000) (hfin : fin = min (la.getD (n - 1) 0) (lb.getD (m - 1) 0)) :
    Calls Tryz.prog 115 #[.slice A n c, .slice B m d] w fun e w' => ∃ A' n' c', e = .returned (.slice A' n' c') ∧ w'.ownsRow w.heap.size 3 1 (.slice A' n' c') n' (ints (edgesR la lb fin)) ∧ n' ≤ 1000 ∧ Below w.heap.size w w' := by
  obtain ⟨bA, oA, tA, hAA, lA, htA, cA⟩ := ha.at_ (k := n - 1) (by omega)
  obtain ⟨bB, oB, tB, hBB, lB, htB, cB⟩ := hb.at_ (k := m - 1) (by omega)
  rw [getD_of htA, getD_of htB] at hfin
  have htAb := hAb _ (List.mem_of_getElem? htA)
  have htBb := hBb _ (List.mem_of_getElem? htB)
  have hAn : A = none → c = 0 := fun e => by rw [e] at hAA; cases hAA
  have hBn : B = none → d = 0 := fun e => by rw [e] at hBB; cases hBB
  have e1 : IntKind.i64.wrap ((n : Int) - 1) = (n : Int) - 1 := IntWalk.i64_in _ (by omega)
  have e2 : 0 ≤ (n : Int) - 1 := by omega
  have e3 : ((n : Int) - 1).toNat = n - 1 := by omega
  have e4 : (n : Int) - 1 < n := by omega
  have e5 : (1 : Int) ≤ (n : Int) := by omega
  have f1 : IntKind.i64.wrap ((m : Int) - 1) = (m : Int) - 1 := IntWalk.i64_in _ (by omega)
  have f2 : 0 ≤ (m : Int) - 1 := by omega
  have f3 : ((m : Int) - 1).toNat = m - 1 := by omega
  have f4 : (m : Int) - 1 < m := by omega
  have f5 : (1 : Int) ≤ (m : Int) := by omega
  have hl := Lib.hid (show (la ++ lb).length = n + m by rw [List.length_append, ha.len, hb.len])
  have hCo := Lib.hid (fun z W hz g1 g2 => concat2_c A B n c m d z la lb W hz g1 g2 hAn hBn (by omega) (by omega) (by omega))
  have hSo := Lib.hid (fun base A n c l w h h0 hn => sortOwn_c base A n c l w h h0 hn)
  have hCm := Lib.hid (fun base A n c l w h h0 hn => compactOwn_c base A n c l w h h0 hn)
  have hDe := Lib.hid (fun base A n c B fin l w h h0 hn hB lB hne => deleteOwn_c base A n c B fin l w h h0 hn hB lB hne)
  have hE : Hid (edgesR la lb fin = (Lib.compact ((0 :: (la ++ lb)).mergeSort fun x y => decide (x ≤ y))).filter fun x => !decide (fin < x)) := Lib.hid rfl
  subst hAA
  subst hBB
  have hown0 : (w.alloc (.cells #[.int .i64 0] 3)).ownsRow w.heap.size 3 1 (.slice (some ⟨w.heap.size, 0, none⟩) 1 1) 1 (ints [0]) := World.ownsRow_lit w #[.int .i64 0] 1 (by omega) (by decide) rfl
  have hB2 := below_new w (.cells #[.int .i64 0] 3)
  generalize hw3 : w.alloc (.cells #[.int .i64 0] 3) = w3 at *
  have hz3 : w3.heap.size = w.heap.size + 1 := by rw [← hw3]; exact alloc_size _ _
  have hzz := heap_alloc_new w3 (.cells #[.slice (some ⟨bA, oA, none⟩) n c, .slice (some ⟨bB, oB, none⟩) m d] 22)
  have hB3 := hB2.alloc hB2.size (.cells #[.slice (some ⟨bA, oA, none⟩) n c, .slice (some ⟨bB, oB, none⟩) m d] 22)
  have hown3 := hown0.alloc (.cells #[.slice (some ⟨bA, oA, none⟩) n c, .slice (some ⟨bB, oB, none⟩) m d] 22)
  rw [hz3] at hzz
  subst hw3
  clear htA htB hAb hBb hAn hBn hz3 hown0 hB2
  go_enter Tryz.func115, Tryz.ntmps115
  go_wp2_with fail
  refine (hCo.out _ _ hzz (ha.below hB3) (hb.below hB3)).mono ?_; rintro e w4 ⟨CA, cc, rfl, hconc, B4⟩
  have hB4 := below_next hB3 B4
  have hown4 := own_below hown3 B4
  have hR4 := R1.of_own hconc (by omega)
  have hz4 := hB4.size
  have hCn : CA = none → cc = 0 := fun e => by
    rcases hconc.2 with ⟨h9, _⟩ | ⟨g, cap, cur, hv, _⟩
    · injection h9
    · injection hv with hv; rw [e] at hv; cases hv
  clear hzz hB3 hown3 B4 hCo hconc
  go_wp2_with (at_builtin; refine wpList_appR rfl (.tmp 7) (.tmp 11) 22 rfl Tryz.underlying22 info_int rfl (by omega) (by omega) hown4 rfl hCn hR4.src rfl (by rw [List.length_map, hR4.len]; omega) (ints_one (la ++ lb)) (by omega) hz4 ?_; intro v5 w5 hown5 hg5)
  have hB5 := below_own hB4 hown4 hg5 hz4 (Nat.le_refl _)
  obtain ⟨A5, c5, rfl⟩ := own_shape hown5
  have hown6 : w5.ownsRow w.heap.size 3 1 (.slice A5 (1 + (n + m)) c5) (1 + (n + m)) (ints (0 :: (la ++ lb))) := hown5
  clear hown5 hown4 hg5 hR4 hCn hB4 hz4
  go_wp2_with fail
  refine (hSo.out _ _ _ _ _ _ hown6 (by omega) (by omega)).mono ?_; rintro e w6 ⟨rfl, hown7, hg6⟩
  have hB6 := below_own hB5 hown6 hg6 hB5.size (Nat.le_refl _)
  have hcs := compact_sort (0 :: (la ++ lb))
  generalize hQ : (0 :: (la ++ lb)).mergeSort (fun x y => decide (x ≤ y)) = Q at *
  have hQl : Q.length = 1 + (n + m) := by rw [← hQ, List.length_mergeSort, List.length_cons, hl.out]; omega
  clear hown6 hg6 hB5 hSo hQ
  go_wp2_with fail
  refine (hCm.out _ _ _ _ _ _ hown7 (by omega) (by omega)).mono ?_; rintro e w7 ⟨rfl, hown8, hg7⟩
  have hB7 := below_own hB6 hown7 hg7 hB6.size (Nat.le_refl _)
  have hCl : (Lib.compact Q).length ≤ 601 := by have := Lib.compact_length_le Q; omega
  have hCp : 0 < (Lib.compact Q).length := by
    have h9 := (hcs.2 0).2 (by simp)
    cases h8 : Lib.compact Q with
    | nil => rw [h8] at h9; cases h9
    | cons a t => simp
  generalize hC : Lib.compact Q = C at *
  have hE' : Hid (edgesR la lb fin = C.filter fun x => !decide (fin < x)) := hE
  clear hown7 hg7 hB6 hCm hcs hQl hE
  have cA7 : w7.drew.cell? ⟨bA, oA + (n - 1), none⟩ = some (.int .i64 tA) := (hB7.cell (p := ⟨bA, oA + (n - 1), none⟩) lA).trans cA
  have cB7 : w7.drew.cell? ⟨bB, oB + (m - 1), none⟩ = some (.int .i64 tB) := (hB7.cell (p := ⟨bB, oB + (m - 1), none⟩) lB).trans cB
  have hB8 : Below w.heap.size w w7.drew := below_drewN hB7 1
  have hown9 : w7.drew.ownsRow w.heap.size 3 1 (.slice A5 C.length c5) C.length (ints C) := own_below hown8 (below_drewN (Below.refl w7.heap.size w7) 1)
  have hz7 := hB7.size
  have hal : ∀ (o : Obj) (b k : Nat) (u : Value), b < w7.heap.size → w7.drew.cell? ⟨b, k, none⟩ = some u → (w7.alloc o).drew.cell? ⟨b, k, none⟩ = some u := fun o b k u hb hc => (World.cell?_alloc_lt w7 o ⟨b, k, none⟩ hb).trans hc
  have pA := hal (.cells #[.int .i64 0] 3) bA (oA + (n - 1)) _ (by omega) cA7
  have pB := hal (.cells #[.int .i64 0] 3) bB (oB + (m - 1)) _ (by omega) cB7
  have pA' := hal (.cells #[.int .i64 (min tA tB)] 3) bA (oA + (n - 1)) _ (by omega) cA7
  have pB' := hal (.cells #[.int .i64 (min tA tB)] 3) bB (oB + (m - 1)) _ (by omega) cB7
  clear hal
  clear hown8 hB7 cA cB
  go_wp2
  go_region_held3 (fun w' => w'.cell? ⟨bA, oA + (n - 1), none⟩ = some (.int .i64 tA) ∧ w'.cell? ⟨bB, oB + (m - 1), none⟩ = some (.int .i64 tB)) (first | with_reducible exact ⟨cA7, cB7⟩ | with_reducible exact ⟨pA, pB⟩ | with_reducible exact ⟨pA', pB'⟩ | go_keep) (first | (fail))
  all_goals
    rw [← hfin]
    have hb9 := heap_alloc_new w7 (.cells #[.int .i64 fin] 3)
    have c9 : (w7.alloc (.cells #[.int .i64 fin] 3)).drew.cell? ⟨w7.heap.size, 0, none⟩ = some (.int .i64 fin) := (blk_facts hb9).1 0
    have l9 : w7.heap.size < (w7.alloc (.cells #[.int .i64 fin] 3)).drew.heap.size := lt_of_heap hb9
    have hB9 : Below w.heap.size w (w7.alloc (.cells #[.int .i64 fin] 3)).drew := below_drewN (hB8.alloc hB8.size (.cells #[.int .i64 fin] 3)) 0
    have hown10 : (w7.alloc (.cells #[.int .i64 fin] 3)).drew.ownsRow w.heap.size 3 1 (.slice A5 C.length c5) C.length (ints C) := hown9.alloc (.cells #[.int .i64 fin] 3)
    have hlt9 := hown9.lt
    have hne9 := Lib.hid (fun i (hi : (Value.slice A5 C.length c5).ownBlock = some i) => show w7.heap.size ≠ i from fun e => by have h8 := (hlt9 i hi).2; rw [← e] at h8; exact Nat.lt_irrefl _ h8)
    generalize w7.heap.size = b9 at *
    generalize (w7.alloc (.cells #[.int .i64 fin] 3)).drew = w9 at *
    clear hb9 hlt9 pA pB pA' pB' cA7 cB7 hown9 hB8
    go_wp2_with fail
    refine (hDe.out _ _ _ _ _ fin _ _ hown10 hCp (by omega) c9 l9 hne9.out).mono ?_; rintro e w10 ⟨rfl, hown11, hg11⟩
    have hB11 := below_own hB9 hown10 hg11 hB9.size (Nat.le_refl _)
    rw [← hE'.out] at hown11 ⊢
    have hfl : (edgesR la lb fin).length ≤ 1000 := by rw [hE'.out]; exact Nat.le_trans (List.length_filter_le _ _) (by omega)
    have hfl' := Lib.hid hfl
    generalize hER : edgesR la lb fin = ER at *
    have hER' := Lib.hid hER
    clear hER
    clear hown10 hg11 hB9 c9 l9 hfl
    go_wp2
    go_ret
    exact ⟨A5, ER.length, c5, rfl, by rw [hER'.out]; exact hown11, hfl'.out, hB11⟩
end Go.Proofs.YtlddeeagnlgciaaGreatDoor
