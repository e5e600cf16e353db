import Derived.Test.YtnkhdofcmanipaaGreatDoorTaSplits
import Derived.Test.YtnkhdofcmanipaaGreatDoorTaFill
import Derived.Test.YtnkhdofcmanipaaGreatDoorTaClock
import Derived.Test.YtnkhdofcmanipaaGreatDoorTaStructs
import Derived.Test.YtnkhdofcmanipaaGreatDoorProg
import Derived.Maps.OwnOps
import Derived.Maps.OwnSet
/- What the statements of tumbkeep end with: heat.Lanes of a small pool. -/
namespace Go.Proofs.YtnkhdofcmanipaaGreatDoor
open Go.RowKit
set_option linter.unusedVariables false

theorem alloc_size' (w : World) (o : Obj) : (w.alloc o).heap.size = w.heap.size + 1 := by simp
end Go.Proofs.YtnkhdofcmanipaaGreatDoor

/- What the statements of tumbkeep end with: pad.Right of one clock. -/
namespace Go.Proofs.YtnkhdofcmanipaaGreatDoor
open Go.RowKit
set_option linter.unusedVariables false

theorem keyA (w : World) : Calls Tryz.prog 59 #[.string ⟨#[97]⟩] w fun e w' => e = .returned (.bool true) ∧ Below w.heap.size w w' := by
  have := isKey_c ⟨#[97]⟩ w
  rwa [show keyB ⟨#[97]⟩ = true from by kernel_rfl] at this
end Go.Proofs.YtnkhdofcmanipaaGreatDoor

/- Maps of the call's own, keyed by strings. -/
namespace Go.Proofs.YtnkhdofcmanipaaGreatDoor
open Go.RowKit
open Go.Maps (Keyed string_keyed)
open Go.MapKept Go.ChangeMaps
open Go.WideMaps (keyOf_string_mk)
set_option linter.unusedVariables false

abbrev MB (w : World) (b n : Nat) (D : DataW Unit) : Prop := w.ownsMap Tryz.prog 9 (plainElem Tryz.prog 4) b n D
abbrev MI (w : World) (b n : Nat) (D : DataW Unit) : Prop := w.ownsMap Tryz.prog 9 (plainElem Tryz.prog 3) b n D
theorem plainElem_bool_inv {P : Program} {e : TypeId} (he : P.underlying e = some .bool) {v : Value} {z : DataW Unit × List MemPlace} (h : plainElem P e v = some z) : ∃ a, v = .bool a ∧ z = (.lit (.bool a), []) := by
  unfold plainElem at h
  rw [he] at h
  cases v <;> simp at h
  subst h
  exact ⟨_, rfl, rfl⟩
theorem mb_lookup {w : World} {b n : Nat} {D : DataW Unit} (h : MB w b n D) (s : ByteArray) (hs : s.size ≤ maxLen) : ∃ v : Bool, (Instr.lookup 137 (.map (some b)) (.string s) false).run Tryz.prog w = .ok (.bool v) w ∧ D.atKey (.string s.data.toList) (.lit (.bool false)) = .lit (.bool v) := by
  obtain ⟨v, ps, hrun, hv⟩ := h.lookup (string_keyed Tryz.underlying9) Tryz.underlying137 (Tryz.zeroValue4 w) (plainElem_bool Tryz.underlying4 false) (keyOf_string_mk Tryz.underlying9 hs)
  obtain ⟨a, rfl, e⟩ := plainElem_bool_inv Tryz.underlying4 hv
  injection e with e1 e2
  exact ⟨a, hrun, e1⟩
theorem mi_lookup {w : World} {b n : Nat} {D : DataW Unit} (h : MI w b n D) (s : ByteArray) (hs : s.size ≤ maxLen) : ∃ v : Int, (Instr.lookup 106 (.map (some b)) (.string s) false).run Tryz.prog w = .ok (.int .i64 v) w ∧ D.atKey (.string s.data.toList) (.lit (.int .i64 0)) = .lit (.int .i64 v) := by
  obtain ⟨c, h1, h2, _⟩ := h.lookup_int (string_keyed Tryz.underlying9) Tryz.underlying106 Tryz.underlying3 (Tryz.zeroValue3 w) (keyOf_string_mk Tryz.underlying9 hs)
  exact ⟨c, h1, h2⟩
theorem mb_new (w : World) : MB (w.alloc (.map #[] 0)) w.heap.size 0 (.map []) := World.ownsMap_made w _ _ _
theorem mi_new (w : World) : MI (w.alloc (.map #[] 0)) w.heap.size 0 (.map []) := World.ownsMap_made w _ _ _
end Go.Proofs.YtnkhdofcmanipaaGreatDoor

/- What the statements of tumbkeep end with: judge.Rank of one time. -/
namespace Go.Proofs.YtnkhdofcmanipaaGreatDoor
open Go.RowKit
open Go.Maps (Keyed string_keyed)
open Go.WideMaps (keyOf_string_mk)
set_option linter.unusedVariables false

theorem atKey_nil (k : Lit) (d : DataW Unit) : (DataW.map ([] : List (Lit × DataW Unit))).atKey k d = d := by simp [DataW.atKey]
set_option maxRecDepth 100000 in
set_option maxHeartbeats 1600000 in
theorem seed1_c (b : Nat) (w : World) (h : w.heap[b]? = some (.cells #[.string ⟨#[97]⟩, .int .i64 6000] 40 (0, 0))) :
    Calls Tryz.prog 101 #[.slice (some ⟨b, 0, none⟩) 1 1] w fun e w' => e = .returned (.int .i64 0) ∧ Below w.heap.size w w' := by
  have hc := (blk_facts h).1
  have hb := lt_of_heap h
  have hmm := @run_makeMap Tryz.prog
  have hm0 := mb_new w
  have hc1 := (blk_facts (blk_alloc h (.map #[] 0))).1
  go_enter Tryz.func101, Tryz.ntmps101
  go_wp2
  refine wp_loop_rounds 2 ?_
  rw [rounds_succ]
  have hq0 := blk_alloc (w := w) h (.map #[] 0)
  have hn0 := heap_alloc_new (w.alloc (.map #[] 0)) (.cells #[.string ⟨#[97]⟩, .int .i64 6000] 40)
  go_wp2_with fail
  refine (keyA _).mono ?_; rintro e w1 ⟨rfl, B1⟩
  have hm1 : MB w1 w.heap.size 0 (.map []) := (hm0.alloc _).kept (row := none) (grown_of_below B1) (by simp)
  have hn1 := (blk_facts (blk_below hn0 B1)).1
  simp only [alloc_size'] at hn1
  have hB1 := below_box (below_box B1)
  obtain ⟨v, hrun, hat⟩ := mb_lookup hm1 ⟨#[97]⟩ (by unfold maxLen; decide)
  rw [atKey_nil] at hat
  obtain rfl : false = v := by injection hat with e; injection e
  clear hat hm0 hn0 hq0 hc1 hc B1
  go_wp2_with (first | (go_at_call 60; refine (within_c _ _ _ _).mono ?_; rintro e w' ⟨rfl, rfl⟩) | (at_mapUpdate; refine wpList_mapUpdate_own _ rfl _ _ _ 137 rfl 9 4 (string_keyed Tryz.underlying9) Tryz.underlying137 _ _ 0 _ rfl hm1 (by unfold maxLen; omega) _ _ _ rfl rfl (keyOf_string_mk Tryz.underlying9 (by unfold maxLen; decide)) _ [] (plainElem_bool Tryz.underlying4 true) ?_; intro w2 hown2 hg2))
  have hB2 := hB1.trans (grown_below hg2 (Nat.le_refl _) hB1.size)
  rw [rounds_succ]
  go_wp2
  go_ret
  exact ⟨rfl, hB2⟩
theorem verd0_c (w : World) :
    Calls Tryz.prog 102 #[.slice none 0 0] w fun e w' => e = .returned (.int .i64 0) ∧ w = w' := by
  go_enter Tryz.func102, Tryz.ntmps102
  go_wp2
  refine wp_loop_rounds 1 ?_
  rw [rounds_succ]
  go_wp2
  go_ret
  exact ⟨rfl, rfl⟩
theorem ins0_c (v f : Value) (w : World) :
    Calls Tryz.prog 137 #[v, .int .i64 0, .int .i64 1, f] w fun e w' => e = .returned (.tuple #[]) ∧ w = w' := by
  go_enter Tryz.func137, Tryz.ntmps137
  go_wp2
  refine wp_loop_rounds 1 ?_
  rw [rounds_succ]
  go_wp2
  go_end0
  exact ⟨rfl, rfl⟩
theorem stable1_c (v f : Value) (w : World) :
    Calls Tryz.prog 105 #[v, .int .i64 1, f] w fun e w' => e = .returned (.tuple #[]) ∧ w = w' := by
  go_enter Tryz.func105, Tryz.ntmps105
  go_wp2
  refine wp_loop_rounds 1 ?_
  rw [rounds_succ]
  go_wp2_with fail
  refine (ins0_c _ _ _).mono ?_; rintro e w' ⟨rfl, rfl⟩
  go_wp2
  refine wp_loop_rounds 1 ?_
  rw [rounds_succ]
  go_wp2
  go_end0
  exact ⟨rfl, rfl⟩
theorem sort1_c (A : Option Addr) (c : Nat) (f : Value) (w : World) :
    Calls Tryz.prog 54 #[.slice A 1 c, f] w fun e w' => e = .returned (.tuple #[]) ∧ w = w' := by
  go_enter Tryz.func54, Tryz.ntmps54
  go_wp2_with fail
  refine (stable1_c _ _ _).mono ?_; rintro e w' ⟨rfl, rfl⟩
  go_wp2
  go_end0
  exact ⟨rfl, rfl⟩
end Go.Proofs.YtnkhdofcmanipaaGreatDoor

/- What the statements of tumbkeep end with: judge.Rank of one time. -/
namespace Go.Proofs.YtnkhdofcmanipaaGreatDoor
open Go.RowKit
open Go.Maps (Keyed string_keyed)
open Go.WideMaps (keyOf_string_mk)
set_option linter.unusedVariables false

theorem own_someN {w : World} {base : Nat} {e : TypeId} {size : Nat} {A : Option Addr} {n c : Nat} {xs : List Value} (h : w.ownsRow base e size (.slice A n c) n xs) (hn : 0 < n) : ∃ b, A = some ⟨b, 0, none⟩ ∧ base ≤ b := by
  rcases h.2 with ⟨e1, rfl⟩ | ⟨g, cap, cur, hv, hb, hg, hnc, hcm, hcs, ht⟩
  · omega
  · injection hv with e1 e2 e3; exact ⟨g, e1, hb⟩
theorem own_capN {w : World} {base : Nat} {e : TypeId} {size : Nat} {A : Option Addr} {n c : Nat} {xs : List Value} (h : w.ownsRow base e size (.slice A n c) n xs) : n ≤ c := by
  rcases h.2 with ⟨e1, rfl⟩ | ⟨g, cap, cur, hv, hb, hg, hnc, hcm, hcs, ht⟩
  · omega
  · injection hv with e1 e2 e3; omega
theorem info_ranked : (Tryz.prog.info? 48).map (fun i => (i.zero, i.size, i.bytes)) = some (some (.agg #[.string ⟨#[]⟩, .int .i64 0, .int .i64 0, .int .i64 0]), 4, 40) := by kernel_rfl
set_option maxRecDepth 100000 in
set_option maxHeartbeats 1600000 in
theorem rank1_c (b : Nat) (w : World) (h : w.heap[b]? = some (.cells #[.string ⟨#[97]⟩, .int .i64 6000] 40 (0, 0))) :
    Calls Tryz.prog 52 #[.slice (some ⟨b, 0, none⟩) 1 1, .slice none 0 0, .int .i64 1] w fun e w' => ∃ A c, e = .returned (.tuple #[.slice A 1 c, .int .i64 0]) ∧ w'.ownsRow w.heap.size 48 4 (.slice A 1 c) 1 [.string ⟨#[97]⟩, .int .i64 1, .int .i64 6000, .int .i64 0] ∧ Below w.heap.size w w' := by
  have hmm := @run_makeMap Tryz.prog
  go_enter Tryz.func52, Tryz.ntmps52
  go_wp2_with fail
  refine (seed1_c b _ (blk_alloc h _)).mono ?_; rintro e w1 ⟨rfl, B1⟩
  have h1 := blk_below (blk_alloc h _) B1
  have hB1 := below_box B1
  go_wp2_with fail
  refine (verd0_c _).mono ?_; rintro e w' ⟨rfl, rfl⟩
  go_wp2
  refine wp_loop_rounds 1 ?_
  rw [rounds_succ]
  go_wp2
  refine wp_loop_rounds 2 ?_
  rw [rounds_succ]
  have hs1 := blk_alloc h1 (.map #[] 0)
  have hc1 := (blk_facts hs1).1
  have hlt := lt_of_heap h1
  obtain ⟨v, hrun, hat⟩ := mi_lookup ((mi_new w1).alloc (.cells #[.string ⟨#[97]⟩, .int .i64 6000] 40)) ⟨#[97]⟩ (by unfold maxLen; decide)
  rw [atKey_nil] at hat
  obtain rfl : 0 = v := by injection hat with e; injection e
  clear hat h
  have hnil := World.ownsRow_nil (((w1.alloc (.map #[] 0)).alloc (.cells #[.string ⟨#[97]⟩, .int .i64 6000] 40)).alloc (.cells #[.string ⟨#[97]⟩, .int .i64 0, .int .i64 6000, .int .i64 0] 48)) w.heap.size 48 4
  have hB3 : Below w.heap.size w (((w1.alloc (.map #[] 0)).alloc (.cells #[.string ⟨#[97]⟩, .int .i64 6000] 40)).alloc (.cells #[.string ⟨#[97]⟩, .int .i64 0, .int .i64 6000, .int .i64 0] 48)) := by
    have hz := hB1.size
    exact ((hB1.alloc hz _).alloc (by simp; omega) _).alloc (by simp; omega) _
  have hz3 := hB3.size
  go_wp2_with (at_builtin; refine wpList_app rfl (.tmp 65) (.tmp 67) 34 rfl Tryz.underlying34 info_ranked rfl (by omega) (by omega) hnil rfl rfl (by simp) rfl (by simp [Value.oneCell']) (by omega) hz3 ?_; intro v4 w4 hown4 hg4; have hB4 := below_own hB3 hnil hg4 hz3 (Nat.le_refl _); obtain ⟨A4, c4, rfl⟩ := own_shape hown4)
  rw [rounds_succ]
  go_wp2_with fail
  refine (sort1_c _ _ _ _).mono ?_; rintro e w' ⟨rfl, rfl⟩
  obtain ⟨g, rfl, hgb⟩ := own_someN hown4 (by omega)
  have hca : ∀ j, j < 4 → w4.cell? ⟨g, j, none⟩ = (#[.string ⟨#[97]⟩, .int .i64 0, .int .i64 6000, .int .i64 0] : Array Value).toList[j]? := fun j hj => hown4.cellAt j (by omega)
  have c1 : w4.cell? ⟨g, 1, none⟩ = some (.int .i64 0) := by rw [hca 1 (by omega)]; rfl
  have f1 := hown4.frozenAt 1
  have hcap : 1 ≤ c4 := own_capN hown4
  have hst := (hown4.stored 1 (.int .i64 1)).1
  have hB5 := hB4.setCell (p := ⟨g, 1, none⟩) hgb (.int .i64 1)
  have hst' := Lib.hid hst
  have hB5' := Lib.hid hB5
  clear hown4 hca hst hB5 hrun hnil hB3 hz3 hs1 hc1 h1
  go_wp2
  refine wp_loop_rounds 2 ?_
  rw [rounds_succ]
  go_wp2
  go_quiet (fail)
  go_wp2
  rw [rounds_succ]
  go_wp2
  go_ret2
  exact ⟨_, c4, rfl, hst'.out, below_drewN hB5'.out _⟩
theorem rankA_c (b : Nat) (w : World) (h : w.heap[b]? = some (.cells #[.string ⟨#[97]⟩, .int .i64 6000] 40 (0, 0))) :
    Calls Tryz.prog 10 #[.slice (some ⟨b, 0, none⟩) 1 1, .slice none 0 0] w fun e w' => ∃ A c, e = .returned (.tuple #[.slice A 1 c, .int .i64 0]) ∧ w'.ownsRow w.heap.size 48 4 (.slice A 1 c) 1 [.string ⟨#[97]⟩, .int .i64 1, .int .i64 6000, .int .i64 0] ∧ Below w.heap.size w w' := by
  go_enter Tryz.func10, Tryz.ntmps10
  go_wp2_with fail
  refine (rank1_c b _ h).mono ?_; rintro e w1 ⟨A, c, rfl, hown, B1⟩
  go_wp2
  go_ret2
  exact ⟨A, c, rfl, hown, B1⟩
end Go.Proofs.YtnkhdofcmanipaaGreatDoor
