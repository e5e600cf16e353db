/- slices.Concat of two rows of seeds; judge.Together of two heats. -/
import Derived.Test.YtdbfcneeiiialaaGreatDoorApp2
import Derived.Test.YtdbfcneeiiialaaGreatDoorP23
import Derived.Laws.AppendOwnNone
import Derived.Lib.AppendZeros
namespace Go.Proofs.YtdbfcneeiiialaaGreatDoor
open Go.RowKit
set_option linter.unusedVariables false

section
variable {P : Program} {w : World}
/-- `append(nil, make([]T, n)...)` -/
theorem wpList_zerosS {ops : Array Oper} {rest : List Oper} {o : Oper} {a : Act} {Q : Exit → Act → World → Prop} (hgd : o.guard = none) (s x : Operand) (t tn : TypeId)
    (ho : o.op = .call { callee := .builtin .append, args := #[s, x], argTypes := #[t, tn] })
    {e : TypeId} {z : Value} {size bytes : Nat} (ht : P.underlying t = some (.slice e)) (htn : P.underlying tn = some (.int .i64)) (hinfo : (P.info? e).map (fun i => (i.zero, i.size, i.bytes)) = some (some z, size, bytes))
    (n : Nat) (h0 : 0 < n) (hsz : 0 < size) (hn : n ≤ 1000000) (hby : bytes ≤ 1024) (hs : a.eval s = .slice none 0 0) (hx : a.eval x = .int .i64 n)
    (h : ∀ cap, n ≤ cap → cap ≤ maxLen → wpList P ops Q rest (a.put o.dst (.slice (some ⟨w.heap.size, 0, none⟩) n cap)) (w.drew.alloc (.cells (Builtin.zeroCells z.cells n ++ Builtin.zeroCells z.cells (cap - n)) e))) :
    wpList P ops Q (o :: rest) a w := by
  obtain ⟨i, hi, hz0, hz1, hz2⟩ := info_parts hinfo
  have hm : n * bytes ≤ 1000000 * 1024 := Nat.mul_le_mul hn hby
  refine wpList_plain hgd fun K hK => ?_
  have hr := Lib.run_append_nil_zeros (P := P) w t tn o.type e i z .i64 .i64 ht htn hi hz0 n h0 (by rw [hz1]; exact hsz) (by omega) (by rw [hz2]; omega)
  unfold Oper.wp execOp
  simp only [ho, resolve, invoke, builtin, Sem.run_bind, Sem.run_pure, Result.andThen_ok, List.map_toArray, List.map_cons, List.map_nil, hs, hx, hr]
  exact hK _ _ (h _ (grownCap_ge _ _ _ _) (grownCap_le_maxLen _ _ _ _ (by unfold maxLen; omega)))
end
theorem seed_src {w : World} {A : Option Addr} {n : Nat} {l : List Sd} (h : RSd w A n l) (hp : 0 < n) : ∃ b off, A = some ⟨b, off, none⟩ ∧ ∀ j u, (l.flatMap sdE)[j]? = some u → w.cell? ⟨b, off + j, none⟩ = some u := by
  obtain ⟨b, off, cs, fz, hA, hb, hc⟩ := h.2.2 hp
  refine ⟨b, off, hA, fun j u hu => ?_⟩
  have hj : j < l.length * 2 := by
    have := (List.getElem?_eq_some_iff.1 hu).1
    rw [flat_len sdE_len] at this; exact this
  obtain ⟨x, hx⟩ := at_of_lt (l := l) (k := j / 2) (by omega)
  have hlen : (sdE x).length = 2 := rfl
  have hv : ∃ v, (sdE x)[j % 2]? = some v := ⟨_, List.getElem?_eq_getElem (by rw [hlen]; omega)⟩
  obtain ⟨v, hv⟩ := hv
  have h1 := flat_at sdE_len l (j / 2) x (j % 2) v hx hv
  rw [show j / 2 * 2 + j % 2 = j by omega, hu] at h1
  obtain rfl := Option.some.inj h1
  have h2 := hc (j / 2) x hx (j % 2) u hv
  rw [show off + j / 2 * 2 + j % 2 = off + j by omega] at h2
  rw [cell_of_row w b _ cs _ fz hb]
  exact h2
theorem seeds_one (l : List Sd) : ∀ u ∈ l.flatMap sdE, u.oneCell' = true := by
  intro u hu
  obtain ⟨x, _, hx⟩ := List.mem_flatMap.1 hu
  simp only [sdE, List.mem_cons, List.not_mem_nil, or_false] at hx
  rcases hx with rfl | rfl <;> rfl
theorem growNilS_c (n : Nat) (w : World) (h0 : 0 < n) (hn : n ≤ 1000000) :
    Calls Tryz.prog 170 #[.slice none 0 0, .int .i64 n] w fun e w' => ∃ A c, e = .returned (.slice A 0 c) ∧ w'.ownsRow w.heap.size 40 2 (.slice A 0 c) 0 [] ∧ Below w.heap.size w w' := by
  have h1 : ¬ ((n : Int) < 0) := by omega
  have h2 : (0 : Int) < (n : Int) := by omega
  have h3 : IntKind.i64.wrap ((n : Int)) = (n : Int) := IntWalk.i64_in _ (by omega)
  go_enter Tryz.func170, Tryz.ntmps170
  go_wp2_with (at_builtin; refine wpList_zerosS rfl (.tmp 20) (.tmp 21) 26 3 rfl Tryz.underlying26 Tryz.underlying3 info_seed n h0 (by omega) hn (by omega) (by rfl) (by rfl) ?_; intro cap hc1 hc2)
  go_ret
  refine ⟨_, cap, rfl, ⟨rfl, .inr ⟨w.heap.size, cap, _, rfl, Nat.le_refl _, heap_alloc_new w.drew _, Nat.zero_le _, hc2, ?_, by simp⟩⟩, below_drewN (below_new w _) 1⟩
  rw [Array.size_append, size_zeroCells, size_zeroCells]
  show n * 2 + (cap - n) * 2 = cap * 2
  omega
theorem growNilS0_c (w : World) :
    Calls Tryz.prog 170 #[.slice none 0 0, .int .i64 0] w fun e w' => ∃ A c, e = .returned (.slice A 0 c) ∧ w'.ownsRow w.heap.size 40 2 (.slice A 0 c) 0 [] ∧ Below w.heap.size w w' := by
  go_enter Tryz.func170, Tryz.ntmps170
  go_wp2
  go_ret
  exact ⟨none, 0, rfl, World.ownsRow_nil _ _ _ _, Below.refl _ _⟩
theorem growNilSA_c (n : Nat) (w : World) (hn : n ≤ 1000000) :
    Calls Tryz.prog 170 #[.slice none 0 0, .int .i64 n] w fun e w' => ∃ A c, e = .returned (.slice A 0 c) ∧ w'.ownsRow w.heap.size 40 2 (.slice A 0 c) 0 [] ∧ Below w.heap.size w w' := by
  rcases Nat.eq_zero_or_pos n with h | h
  · subst h; exact growNilS0_c w
  · exact growNilS_c n w h hn
set_option maxHeartbeats 1600000 in
set_option maxRecDepth 100000 in
theorem concatS_c (A B : Option Addr) (n c m d z : Nat) (la lb : List Sd) (w : World) (hz : w.heap[z]? = some (.cells #[.slice A n c, .slice B m d] 26 (0, 0))) (ha : RSd w A n la) (hb : RSd w B m lb) (hA : A = none → c = 0) (hB : B = none → d = 0) (hn : n ≤ 1000) (hm : m ≤ 1000) :
    Calls Tryz.prog 84 #[.slice (some ⟨z, 0, none⟩) 2 2] w fun e w' => ∃ A' c', e = .returned (.slice A' (n + m) c') ∧ w'.ownsRow w.heap.size 40 2 (.slice A' (n + m) c') (n + m) ((la ++ lb).flatMap sdE) ∧ Below w.heap.size w w' := by
  have z0 := (blk_facts hz).1 0
  have z1 := (blk_facts hz).1 1
  have w1 : IntKind.i64.wrap ((n : Int)) = (n : Int) := IntWalk.i64_in _ (by omega)
  have w2 : IntKind.i64.wrap ((n : Int) + (m : Int)) = (n : Int) + (m : Int) := IntWalk.i64_in _ (by omega)
  have p1 : ¬ (n : Int) < 0 := by omega
  have p2 : ¬ (n : Int) + (m : Int) < 0 := by omega
  have hG := Lib.hid (growNilSA_c (n + m) w (by omega))
  rw [show ((n + m : Nat) : Int) = (n : Int) + (m : Int) by push_cast; rfl] at hG
  go_enter Tryz.func84, Tryz.ntmps84
  go_wp2
  refine wp_loop_rounds 3 ?_
  rw [rounds_succ]
  go_wp2
  rw [rounds_succ]
  go_wp2
  rw [rounds_succ]
  go_wp2_with fail
  refine hG.out.mono ?_; rintro e w3 ⟨GA, gc, rfl, hown, B3⟩
  have y0 := (blk_facts (blk_below hz B3)).1 0
  have hz3 := B3.size
  have ha3 := ha.below B3
  have hz4 := blk_below hz B3
  have hb0 := Lib.hid (fun W h => hb.below (w' := W) h)
  have hzz := Lib.hid (fun W h => blk_below (w' := W) hz h)
  clear z0 z1 hz hG ha hb
  go_wp2
  refine wp_loop_rounds 3 ?_
  rw [rounds_succ]
  go_wp2_with (at_builtin; refine wpList_appR rfl (.tmp 31) (.tmp 32) 26 rfl Tryz.underlying26 info_seed rfl (by omega) (by omega) hown rfl hA (seed_src ha3) rfl (by rw [flat_len sdE_len, ha3.len]) (seeds_one la) (by omega) hz3 ?_; intro v4 w4 hown4 hg4)
  have hB4 := below_own B3 hown hg4 hz3 (Nat.le_refl _)
  have y1 := (blk_facts (hzz.out _ hB4)).1 1
  have hb4 := hb0.out _ hB4
  have hz5 := hB4.size
  rw [List.nil_append, Nat.zero_add] at hown4
  clear hown hg4 B3 hzz hb0 y0 ha3 hz4
  rw [rounds_succ]
  go_wp2_with (at_builtin; refine wpList_appR rfl (.tmp 31) (.tmp 32) 26 rfl Tryz.underlying26 info_seed rfl (by omega) (by omega) hown4 rfl hB (seed_src hb4) rfl (by rw [flat_len sdE_len, hb4.len]) (seeds_one lb) (by omega) hz5 ?_; intro v6 w6 hown6 hg6)
  have hB6 := below_own hB4 hown4 hg6 hz5 (Nat.le_refl _)
  obtain ⟨A9, c9, rfl⟩ := own_shape hown6
  have hfin : w6.ownsRow w.heap.size 40 2 (.slice A9 (n + m) c9) (n + m) ((la ++ lb).flatMap sdE) := by rw [List.flatMap_append]; exact hown6
  clear hown4 hg6 y1 hb4 hown6 hB4
  rw [rounds_succ]
  go_wp2
  go_ret
  exact ⟨A9, c9, rfl, hfin, hB6⟩
set_option maxRecDepth 100000 in
theorem together_c (A B V : Option Addr) (n c m d z q cv : Nat) (la lb : List Sd) (v : List Vd) (w : World) (hz : w.heap[z]? = some (.cells #[.slice A n c, .slice B m d] 26 (0, 0))) (ha : RSd w A n la) (hb : RSd w B m lb) (hA : A = none → c = 0) (hB : B = none → d = 0) (hn : n + m ≤ 19) (hv : RVd w V q v) :
    Calls Tryz.prog 19 #[.slice (some ⟨z, 0, none⟩) 2 2, .slice V q cv] w (RetRk w (rankE (la ++ lb) v) (rankD 1 (la ++ lb) v)) := by
  have hC := Lib.hid (concatS_c A B n c m d z la lb w hz ha hb hA hB (by omega) (by omega))
  have hll : (la ++ lb).length = n + m := by rw [List.length_append, ha.len, hb.len]
  go_enter Tryz.func19, Tryz.ntmps19
  go_wp2_with fail
  refine hC.out.mono ?_; rintro e w1 ⟨A9, c9, rfl, ho, B1⟩
  have hR := RN.of_own sdE_len ho hll (by omega)
  have hv1 := hv.below B1
  clear hC ho
  go_wp2_with fail
  refine (rank_c A9 V (n + m) c9 q cv (la ++ lb) v 1 w1 hR hv1 (by omega) (by decide) (by decide)).mono ?_; rintro e w2 ⟨A8, n8, c8, rfl, hR2, B2, hN2⟩
  have hB := below_next B1 B2
  have hN := Lib.hid hN2
  clear hN2
  go_wp2
  go_ret2
  exact ⟨A8, n8, c8, rfl, hR2, hB, hN.out⟩
end Go.Proofs.YtdbfcneeiiialaaGreatDoor
