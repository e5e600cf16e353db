import Derived.Test.YtklggnglaeagpaaGreatDoorRSplits
import Derived.Test.YtklggnglaeagpaaGreatDoorRFill
import Derived.Test.YtklggnglaeagpaaGreatDoorRClock
import Derived.Test.YtklggnglaeagpaaGreatDoorRStructs
import Derived.Test.YtklggnglaeagpaaGreatDoorProg
import Derived.Maps.OwnOps
import Derived.Maps.OwnSet
/- What the statements of tumbkeep end with: heat.Lanes of a small pool. -/
namespace Go.Proofs.YtklggnglaeagpaaGreatDoor
open Go.RowKit
set_option linter.unusedVariables false

theorem own_lit (w : World) (base : Nat) (e : TypeId) (vs : Array Value) (n : Nat) (hn : vs.size = n) (hb : base ≤ w.heap.size) (hm : n ≤ maxLen) : (w.alloc (.cells vs e)).ownsRow base e 1 (.slice (some ⟨w.heap.size, 0, none⟩) n n) n vs.toList := by
  subst hn
  exact ⟨by simp, .inr ⟨w.heap.size, vs.size, vs, rfl, hb, heap_alloc_new w _, Nat.le_refl _, hm, by simp, by rw [Nat.mul_one]; exact List.take_of_length_le (by simp)⟩⟩

set_option maxRecDepth 100000 in
theorem pool_c (w : World) : Calls Tryz.prog 199 #[.agg #[.int .i64 1, .int .i64 5, .int .i64 1, .int .i64 1]] w fun e w' => e = .returned (.int .i64 0) ∧ Below w.heap.size w w' := by
  go_enter Tryz.func199, Tryz.ntmps199
  go_wp2_with (go_at_call 128; refine (within_c _ _ _ _).mono ?_; rintro e w' ⟨rfl, rfl⟩)
  all_goals (go_ret; exact ⟨rfl, below_new _ _⟩)
theorem alloc_size' (w : World) (o : Obj) : (w.alloc o).heap.size = w.heap.size + 1 := by simp
theorem blk_own {w w' : World} {b base : Nat} {o : Obj} {e : TypeId} {v : Value} {n : Nat} {xs : List Value} (h : w.heap[b]? = some o) (hown : w.ownsRow base e 1 v n xs) (hb : b < base) (hg : w.grownBy w' v.ownBlock) : w'.heap[b]? = some o :=
  blk_grown h hg (fun e => by have := own_row_lt hown b e.symm; omega)
set_option maxRecDepth 100000 in
set_option maxHeartbeats 1600000 in
theorem lanesOf_c (w : World) : Calls Tryz.prog 239 #[.agg #[.int .i64 1, .int .i64 5, .int .i64 1, .int .i64 1]] w fun e w' => ∃ A n c, e = .returned (.slice A n c) ∧ RI 3 w' A n [3, 4, 2, 5, 1] ∧ Below w.heap.size w w' := by
  have hb0 := blk_alloc (heap_alloc_new w (.cells #[.int .i64 1, .int .i64 5, .int .i64 1, .int .i64 1] 131)) (.cells #[.int .i64 3] 3)
  have hc0 := (blk_facts hb0).1
  have hown0 : ((w.alloc (.cells #[.int .i64 1, .int .i64 5, .int .i64 1, .int .i64 1] 131)).alloc (.cells #[.int .i64 3] 3)).ownsRow (w.heap.size + 1) 3 1 (.slice (some ⟨w.heap.size + 1, 0, none⟩) 1 1) 1 (ints [3]) := by
    have := own_lit (w.alloc (.cells #[.int .i64 1, .int .i64 5, .int .i64 1, .int .i64 1] 131)) (w.heap.size + 1) 3 #[.int .i64 3] 1 rfl (by simp) (by unfold maxLen; omega)
    rw [alloc_size'] at this
    exact this
  have hB0 : Below w.heap.size w ((w.alloc (.cells #[.int .i64 1, .int .i64 5, .int .i64 1, .int .i64 1] 131)).alloc (.cells #[.int .i64 3] 3)) := (below_new w _).alloc (by simp) _
  have hz0 : w.heap.size + 1 ≤ ((w.alloc (.cells #[.int .i64 1, .int .i64 5, .int .i64 1, .int .i64 1] 131)).alloc (.cells #[.int .i64 3] 3)).heap.size := by simp
  go_enter Tryz.func239, Tryz.ntmps239
  go_wp2
  refine wp_loop_rounds 3 ?_
  rw [rounds_succ]
  generalize (w.alloc (.cells #[.int .i64 1, .int .i64 5, .int .i64 1, .int .i64 1] 131)).alloc (.cells #[.int .i64 3] 3) = W0 at *
  go_wp2_with (first | (at_builtin; refine wpList_app rfl (.tmp 31) (.tmp 35) 22 rfl Tryz.underlying22 info_int rfl (by omega) (by omega) hown0 rfl rfl rfl rfl (by simp [Value.oneCell']) (by omega) hz0 ?_; intro v1 w1 hown1 hg1; have hb1 := blk_own hb0 hown0 (by omega) hg1; have hc1 := (blk_facts hb1).1; have hz1 := Nat.le_trans hz0 hg1.size; have hB1 := below_own hB0 hown0 hg1 (by omega) (by omega); obtain ⟨A1, d1, rfl⟩ := own_shape hown1; clear hown0 hb0 hc0 hz0 hB0) | (at_builtin; refine wpList_app rfl (.tmp 43) (.tmp 47) 22 rfl Tryz.underlying22 info_int rfl (by omega) (by omega) hown1 rfl rfl rfl rfl (by simp [Value.oneCell']) (by omega) hz1 ?_; intro v2 w2 hown2 hg2; have hb2 := blk_own hb1 hown1 (by omega) hg2; have hc2 := (blk_facts hb2).1; have hz2 := Nat.le_trans hz1 hg2.size; have hB2 := below_own hB1 hown1 hg2 (by omega) (by omega); obtain ⟨A2, d2, rfl⟩ := own_shape hown2; clear hown1 hb1 hc1 hz1 hB1))
  rw [rounds_succ]
  go_wp2_with (first | (at_builtin; refine wpList_app rfl (.tmp 31) (.tmp 35) 22 rfl Tryz.underlying22 info_int rfl (by omega) (by omega) hown2 rfl rfl rfl rfl (by simp [Value.oneCell']) (by omega) hz2 ?_; intro v3 w3 hown3 hg3; have hb3 := blk_own hb2 hown2 (by omega) hg3; have hc3 := (blk_facts hb3).1; have hz3 := Nat.le_trans hz2 hg3.size; have hB3 := below_own hB2 hown2 hg3 (by omega) (by omega); obtain ⟨A3, d3, rfl⟩ := own_shape hown3; clear hown2 hb2 hc2 hz2 hB2) | (at_builtin; refine wpList_app rfl (.tmp 43) (.tmp 47) 22 rfl Tryz.underlying22 info_int rfl (by omega) (by omega) hown3 rfl rfl rfl rfl (by simp [Value.oneCell']) (by omega) hz3 ?_; intro v4 w4 hown4 hg4; have hb4 := blk_own hb3 hown3 (by omega) hg4; have hc4 := (blk_facts hb4).1; have hz4 := Nat.le_trans hz3 hg4.size; have hB4 := below_own hB3 hown3 hg4 (by omega) (by omega); obtain ⟨A4, d4, rfl⟩ := own_shape hown4; clear hown3 hb3 hc3 hz3 hB3))
  rw [rounds_succ]
  have hr : RI 3 w4 A4 5 [3, 4, 2, 5, 1] := R1.of_own hown4 (by omega)
  clear hown4 hb4
  go_wp2
  go_ret
  exact ⟨A4, 5, d4, rfl, hr, hB4⟩
theorem lanes_c (w : World) : Calls Tryz.prog 132 #[.agg #[.int .i64 1, .int .i64 5, .int .i64 1, .int .i64 1]] w fun e w' => ∃ A n c, e = .returned (.tuple #[.slice A n c, .int .i64 0]) ∧ RI 3 w' A n [3, 4, 2, 5, 1] ∧ Below w.heap.size w w' := by
  go_enter Tryz.func132, Tryz.ntmps132
  go_wp2_with fail
  refine (pool_c _).mono ?_; rintro e w1 ⟨rfl, B1⟩
  have hB1 := below_box B1
  have hc := (blk_facts (blk_below (heap_alloc_new w (.cells #[.int .i64 1, .int .i64 5, .int .i64 1, .int .i64 1] 131)) B1)).1
  go_wp2_with fail
  refine (lanesOf_c _).mono ?_; rintro e w2 ⟨A, n, c, rfl, hr, B2⟩
  go_wp2
  go_ret2
  exact ⟨A, n, c, rfl, hr, below_next hB1 B2⟩
end Go.Proofs.YtklggnglaeagpaaGreatDoor

/- What the statements of tumbkeep end with: pad.Right of one clock. -/
namespace Go.Proofs.YtklggnglaeagpaaGreatDoor
open Go.RowKit
set_option linter.unusedVariables false

theorem keyA (w : World) : Calls Tryz.prog 158 #[.string ⟨#[97]⟩] w fun e w' => e = .returned (.bool true) ∧ Below w.heap.size w w' := by
  have := isKey_c ⟨#[97]⟩ w
  rwa [show keyB ⟨#[97]⟩ = true from by kernel_rfl] at this
theorem moment_c (n : Int) (w : World) (h0 : 0 ≤ n) (h1 : n < 345686400000) : Calls Tryz.prog 150 #[.int .i64 n] w fun e w' => e = .returned (.bool true) ∧ w = w' := by
  go_enter Tryz.func150, Tryz.ntmps150
  go_wp2
  go_ret
  exact ⟨rfl, rfl⟩
set_option maxRecDepth 100000 in
set_option maxHeartbeats 1600000 in
theorem clock1_c (b : Nat) (w : World) (h : w.heap[b]? = some (.cells #[.string ⟨#[97]⟩, .int .i64 10, .int .i64 5] 207 (0, 0))) :
    Calls Tryz.prog 240 #[.slice (some ⟨b, 0, none⟩) 1 1] w fun e w' => e = .returned (.int .i64 0) ∧ Below w.heap.size w w' := by
  have hc := (blk_facts h).1
  have hb := lt_of_heap h
  clear h
  go_enter Tryz.func240, Tryz.ntmps240
  go_wp2
  refine wp_loop_rounds 2 ?_
  rw [rounds_succ]
  go_wp2_with (go_at_call 158; refine (keyA _).mono ?_; rintro e w1 ⟨rfl, B1⟩; have hc1 := (blk_facts (blk_below (heap_alloc_new w (.cells #[.string ⟨#[97]⟩, .int .i64 10, .int .i64 5] 207)) B1)).1; have hB1 := below_box B1)
  go_wp2_with (first | (go_at_call 150; refine (moment_c _ _ (by omega) (by omega)).mono ?_; rintro e w' ⟨rfl, rfl⟩) | (go_at_call 128; refine (within_c _ _ _ _).mono ?_; rintro e w' ⟨rfl, rfl⟩))
  go_quiet (fail)
  go_wp2
  rw [rounds_succ]
  go_wp2
  go_ret
  exact ⟨rfl, below_drewN hB1 _⟩
set_option maxRecDepth 100000 in
theorem right0_c (b : Nat) (w : World) (h : w.heap[b]? = some (.cells #[.string ⟨#[97]⟩, .int .i64 10, .int .i64 5] 207 (0, 0))) :
    Calls Tryz.prog 241 #[.slice (some ⟨b, 0, none⟩) 1 1, .string ⟨#[97]⟩, .int .i64 20] w fun e w' => e = .returned (.int .i64 15) ∧ Below w.heap.size w w' := by
  have hc := (blk_facts h).1
  have hb := lt_of_heap h
  clear h
  go_enter Tryz.func241, Tryz.ntmps241
  go_wp2
  refine wp_loop_rounds 2 ?_
  rw [rounds_succ]
  go_wp2
  rw [rounds_succ]
  go_wp2
  go_ret
  exact ⟨rfl, below_new _ _⟩
theorem right_c (b : Nat) (w : World) (h : w.heap[b]? = some (.cells #[.string ⟨#[97]⟩, .int .i64 10, .int .i64 5] 207 (0, 0))) :
    Calls Tryz.prog 133 #[.slice (some ⟨b, 0, none⟩) 1 1, .string ⟨#[97]⟩, .int .i64 20] w fun e w' => e = .returned (.tuple #[.int .i64 15, .int .i64 0]) ∧ Below w.heap.size w w' := by
  go_enter Tryz.func133, Tryz.ntmps133
  go_wp2_with fail
  refine (clock1_c _ _ h).mono ?_; rintro e w1 ⟨rfl, B1⟩
  have h1 := blk_below h B1
  clear h
  go_wp2_with fail
  refine (keyA _).mono ?_; rintro e w2 ⟨rfl, B2⟩
  have h2 := blk_below h1 B2
  have hB2 := below_next B1 B2
  clear h1
  go_wp2_with fail
  refine (moment_c _ _ (by omega) (by omega)).mono ?_; rintro e w' ⟨rfl, rfl⟩
  go_wp2_with fail
  refine (right0_c _ _ h2).mono ?_; rintro e w3 ⟨rfl, B3⟩
  go_wp2
  go_ret2
  exact ⟨rfl, below_next hB2 B3⟩
end Go.Proofs.YtklggnglaeagpaaGreatDoor

/- Maps of the call's own, keyed by strings. -/
namespace Go.Proofs.YtklggnglaeagpaaGreatDoor
open Go.RowKit
open Go.Maps (Keyed string_keyed)
open Go.MapKept Go.ChangeMaps
open Go.WideMaps (keyOf_string_mk)
set_option linter.unusedVariables false

abbrev MB (w : World) (b n : Nat) (D : DataW Unit) : Prop := w.ownsMap Tryz.prog 9 (plainElem Tryz.prog 4) b n D
abbrev MI (w : World) (b n : Nat) (D : DataW Unit) : Prop := w.ownsMap Tryz.prog 9 (plainElem Tryz.prog 3) b n D
theorem plainElem_bool_inv {P : Program} {e : TypeId} (he : P.underlying e = some .bool) {v : Value} {z : DataW Unit × List MemPlace} (h : plainElem P e v = some z) : ∃ a, v = .bool a ∧ z = (.lit (.bool a), []) := by
  unfold plainElem at h
  rw [he] at h
  cases v <;> simp at h
  subst h
  exact ⟨_, rfl, rfl⟩
theorem mb_lookup {w : World} {b n : Nat} {D : DataW Unit} (h : MB w b n D) (s : ByteArray) (hs : s.size ≤ maxLen) : ∃ v : Bool, (Instr.lookup 250 (.map (some b)) (.string s) false).run Tryz.prog w = .ok (.bool v) w ∧ D.atKey (.string s.data.toList) (.lit (.bool false)) = .lit (.bool v) := by
  obtain ⟨v, ps, hrun, hv⟩ := h.lookup (string_keyed Tryz.underlying9) Tryz.underlying250 (Tryz.zeroValue4 w) (plainElem_bool Tryz.underlying4 false) (keyOf_string_mk Tryz.underlying9 hs)
  obtain ⟨a, rfl, e⟩ := plainElem_bool_inv Tryz.underlying4 hv
  injection e with e1 e2
  exact ⟨a, hrun, e1⟩
theorem mi_lookup {w : World} {b n : Nat} {D : DataW Unit} (h : MI w b n D) (s : ByteArray) (hs : s.size ≤ maxLen) : ∃ v : Int, (Instr.lookup 191 (.map (some b)) (.string s) false).run Tryz.prog w = .ok (.int .i64 v) w ∧ D.atKey (.string s.data.toList) (.lit (.int .i64 0)) = .lit (.int .i64 v) := by
  obtain ⟨c, h1, h2, _⟩ := h.lookup_int (string_keyed Tryz.underlying9) Tryz.underlying191 Tryz.underlying3 (Tryz.zeroValue3 w) (keyOf_string_mk Tryz.underlying9 hs)
  exact ⟨c, h1, h2⟩
theorem mb_new (w : World) : MB (w.alloc (.map #[] 0)) w.heap.size 0 (.map []) := World.ownsMap_made w _ _ _
theorem mi_new (w : World) : MI (w.alloc (.map #[] 0)) w.heap.size 0 (.map []) := World.ownsMap_made w _ _ _
end Go.Proofs.YtklggnglaeagpaaGreatDoor

/- What the statements of tumbkeep end with: judge.Rank of one time. -/
namespace Go.Proofs.YtklggnglaeagpaaGreatDoor
open Go.RowKit
open Go.Maps (Keyed string_keyed)
open Go.WideMaps (keyOf_string_mk)
set_option linter.unusedVariables false

theorem atKey_nil (k : Lit) (d : DataW Unit) : (DataW.map ([] : List (Lit × DataW Unit))).atKey k d = d := by simp [DataW.atKey]
set_option maxRecDepth 100000 in
set_option maxHeartbeats 1600000 in
theorem seed1_c (b : Nat) (w : World) (h : w.heap[b]? = some (.cells #[.string ⟨#[97]⟩, .int .i64 6000] 40 (0, 0))) :
    Calls Tryz.prog 227 #[.slice (some ⟨b, 0, none⟩) 1 1] w fun e w' => e = .returned (.int .i64 0) ∧ Below w.heap.size w w' := by
  have hc := (blk_facts h).1
  have hb := lt_of_heap h
  have hmm := @run_makeMap Tryz.prog
  have hm0 := mb_new w
  have hc1 := (blk_facts (blk_alloc h (.map #[] 0))).1
  go_enter Tryz.func227, Tryz.ntmps227
  go_wp2
  refine wp_loop_rounds 2 ?_
  rw [rounds_succ]
  have hq0 := blk_alloc (w := w) h (.map #[] 0)
  have hn0 := heap_alloc_new (w.alloc (.map #[] 0)) (.cells #[.string ⟨#[97]⟩, .int .i64 6000] 40)
  go_wp2_with fail
  refine (keyA _).mono ?_; rintro e w1 ⟨rfl, B1⟩
  have hm1 : MB w1 w.heap.size 0 (.map []) := (hm0.alloc _).kept (row := none) (grown_of_below B1) (by simp)
  have hn1 := (blk_facts (blk_below hn0 B1)).1
  simp only [alloc_size'] at hn1
  have hB1 := below_box (below_box B1)
  obtain ⟨v, hrun, hat⟩ := mb_lookup hm1 ⟨#[97]⟩ (by unfold maxLen; decide)
  rw [atKey_nil] at hat
  obtain rfl : false = v := by injection hat with e; injection e
  clear hat hm0 hn0 hq0 hc1 hc B1
  go_wp2_with (first | (go_at_call 128; refine (within_c _ _ _ _).mono ?_; rintro e w' ⟨rfl, rfl⟩) | (at_mapUpdate; refine wpList_mapUpdate_own _ rfl _ _ _ 250 rfl 9 4 (string_keyed Tryz.underlying9) Tryz.underlying250 _ _ 0 _ rfl hm1 (by unfold maxLen; omega) _ _ _ rfl rfl (keyOf_string_mk Tryz.underlying9 (by unfold maxLen; decide)) _ [] (plainElem_bool Tryz.underlying4 true) ?_; intro w2 hown2 hg2))
  have hB2 := hB1.trans (grown_below hg2 (Nat.le_refl _) hB1.size)
  rw [rounds_succ]
  go_wp2
  go_ret
  exact ⟨rfl, hB2⟩
theorem verd0_c (w : World) :
    Calls Tryz.prog 228 #[.slice none 0 0] w fun e w' => e = .returned (.int .i64 0) ∧ w = w' := by
  go_enter Tryz.func228, Tryz.ntmps228
  go_wp2
  refine wp_loop_rounds 1 ?_
  rw [rounds_succ]
  go_wp2
  go_ret
  exact ⟨rfl, rfl⟩
theorem ins0_c (v f : Value) (w : World) :
    Calls Tryz.prog 299 #[v, .int .i64 0, .int .i64 1, f] w fun e w' => e = .returned (.tuple #[]) ∧ w = w' := by
  go_enter Tryz.func299, Tryz.ntmps299
  go_wp2
  refine wp_loop_rounds 1 ?_
  rw [rounds_succ]
  go_wp2
  go_end0
  exact ⟨rfl, rfl⟩
theorem stable1_c (v f : Value) (w : World) :
    Calls Tryz.prog 231 #[v, .int .i64 1, f] w fun e w' => e = .returned (.tuple #[]) ∧ w = w' := by
  go_enter Tryz.func231, Tryz.ntmps231
  go_wp2
  refine wp_loop_rounds 1 ?_
  rw [rounds_succ]
  go_wp2_with fail
  refine (ins0_c _ _ _).mono ?_; rintro e w' ⟨rfl, rfl⟩
  go_wp2
  refine wp_loop_rounds 1 ?_
  rw [rounds_succ]
  go_wp2
  go_end0
  exact ⟨rfl, rfl⟩
theorem sort1_c (A : Option Addr) (c : Nat) (f : Value) (w : World) :
    Calls Tryz.prog 119 #[.slice A 1 c, f] w fun e w' => e = .returned (.tuple #[]) ∧ w = w' := by
  go_enter Tryz.func119, Tryz.ntmps119
  go_wp2_with fail
  refine (stable1_c _ _ _).mono ?_; rintro e w' ⟨rfl, rfl⟩
  go_wp2
  go_end0
  exact ⟨rfl, rfl⟩
end Go.Proofs.YtklggnglaeagpaaGreatDoor

/- What the statements of tumbkeep end with: judge.Rank of one time. -/
namespace Go.Proofs.YtklggnglaeagpaaGreatDoor
open Go.RowKit
open Go.Maps (Keyed string_keyed)
open Go.WideMaps (keyOf_string_mk)
set_option linter.unusedVariables false

theorem own_someN {w : World} {base : Nat} {e : TypeId} {size : Nat} {A : Option Addr} {n c : Nat} {xs : List Value} (h : w.ownsRow base e size (.slice A n c) n xs) (hn : 0 < n) : ∃ b, A = some ⟨b, 0, none⟩ ∧ base ≤ b := by
  rcases h.2 with ⟨e1, rfl⟩ | ⟨g, cap, cur, hv, hb, hg, hnc, hcm, hcs, ht⟩
  · omega
  · injection hv with e1 e2 e3; exact ⟨g, e1, hb⟩
theorem own_capN {w : World} {base : Nat} {e : TypeId} {size : Nat} {A : Option Addr} {n c : Nat} {xs : List Value} (h : w.ownsRow base e size (.slice A n c) n xs) : n ≤ c := by
  rcases h.2 with ⟨e1, rfl⟩ | ⟨g, cap, cur, hv, hb, hg, hnc, hcm, hcs, ht⟩
  · omega
  · injection hv with e1 e2 e3; omega
theorem info_ranked : (Tryz.prog.info? 48).map (fun i => (i.zero, i.size, i.bytes)) = some (some (.agg #[.string ⟨#[]⟩, .int .i64 0, .int .i64 0, .int .i64 0]), 4, 40) := by kernel_rfl
set_option maxRecDepth 100000 in
set_option maxHeartbeats 1600000 in
theorem rank1_c (b : Nat) (w : World) (h : w.heap[b]? = some (.cells #[.string ⟨#[97]⟩, .int .i64 6000] 40 (0, 0))) :
    Calls Tryz.prog 117 #[.slice (some ⟨b, 0, none⟩) 1 1, .slice none 0 0, .int .i64 1] w fun e w' => ∃ A c, e = .returned (.tuple #[.slice A 1 c, .int .i64 0]) ∧ w'.ownsRow w.heap.size 48 4 (.slice A 1 c) 1 [.string ⟨#[97]⟩, .int .i64 1, .int .i64 6000, .int .i64 0] ∧ Below w.heap.size w w' := by
  have hmm := @run_makeMap Tryz.prog
  go_enter Tryz.func117, Tryz.ntmps117
  go_wp2_with fail
  refine (seed1_c b _ (blk_alloc h _)).mono ?_; rintro e w1 ⟨rfl, B1⟩
  have h1 := blk_below (blk_alloc h _) B1
  have hB1 := below_box B1
  go_wp2_with fail
  refine (verd0_c _).mono ?_; rintro e w' ⟨rfl, rfl⟩
  go_wp2
  refine wp_loop_rounds 1 ?_
  rw [rounds_succ]
  go_wp2
  refine wp_loop_rounds 2 ?_
  rw [rounds_succ]
  have hs1 := blk_alloc h1 (.map #[] 0)
  have hc1 := (blk_facts hs1).1
  have hlt := lt_of_heap h1
  obtain ⟨v, hrun, hat⟩ := mi_lookup ((mi_new w1).alloc (.cells #[.string ⟨#[97]⟩, .int .i64 6000] 40)) ⟨#[97]⟩ (by unfold maxLen; decide)
  rw [atKey_nil] at hat
  obtain rfl : 0 = v := by injection hat with e; injection e
  clear hat h
  have hnil := World.ownsRow_nil (((w1.alloc (.map #[] 0)).alloc (.cells #[.string ⟨#[97]⟩, .int .i64 6000] 40)).alloc (.cells #[.string ⟨#[97]⟩, .int .i64 0, .int .i64 6000, .int .i64 0] 48)) w.heap.size 48 4
  have hB3 : Below w.heap.size w (((w1.alloc (.map #[] 0)).alloc (.cells #[.string ⟨#[97]⟩, .int .i64 6000] 40)).alloc (.cells #[.string ⟨#[97]⟩, .int .i64 0, .int .i64 6000, .int .i64 0] 48)) := by
    have hz := hB1.size
    exact ((hB1.alloc hz _).alloc (by simp; omega) _).alloc (by simp; omega) _
  have hz3 := hB3.size
  go_wp2_with (at_builtin; refine wpList_app rfl (.tmp 65) (.tmp 67) 34 rfl Tryz.underlying34 info_ranked rfl (by omega) (by omega) hnil rfl rfl (by simp) rfl (by simp [Value.oneCell']) (by omega) hz3 ?_; intro v4 w4 hown4 hg4; have hB4 := below_own hB3 hnil hg4 hz3 (Nat.le_refl _); obtain ⟨A4, c4, rfl⟩ := own_shape hown4)
  rw [rounds_succ]
  go_wp2_with fail
  refine (sort1_c _ _ _ _).mono ?_; rintro e w' ⟨rfl, rfl⟩
  obtain ⟨g, rfl, hgb⟩ := own_someN hown4 (by omega)
  have hca : ∀ j, j < 4 → w4.cell? ⟨g, j, none⟩ = (#[.string ⟨#[97]⟩, .int .i64 0, .int .i64 6000, .int .i64 0] : Array Value).toList[j]? := fun j hj => hown4.cellAt j (by omega)
  have c1 : w4.cell? ⟨g, 1, none⟩ = some (.int .i64 0) := by rw [hca 1 (by omega)]; rfl
  have f1 := hown4.frozenAt 1
  have hcap : 1 ≤ c4 := own_capN hown4
  have hst := (hown4.stored 1 (.int .i64 1)).1
  have hB5 := hB4.setCell (p := ⟨g, 1, none⟩) hgb (.int .i64 1)
  have hst' := Lib.hid hst
  have hB5' := Lib.hid hB5
  clear hown4 hca hst hB5 hrun hnil hB3 hz3 hs1 hc1 h1
  go_wp2
  refine wp_loop_rounds 2 ?_
  rw [rounds_succ]
  go_wp2
  go_quiet (fail)
  go_wp2
  rw [rounds_succ]
  go_wp2
  go_ret2
  exact ⟨_, c4, rfl, hst'.out, below_drewN hB5'.out _⟩
theorem rankA_c (b : Nat) (w : World) (h : w.heap[b]? = some (.cells #[.string ⟨#[97]⟩, .int .i64 6000] 40 (0, 0))) :
    Calls Tryz.prog 15 #[.slice (some ⟨b, 0, none⟩) 1 1, .slice none 0 0] w fun e w' => ∃ A c, e = .returned (.tuple #[.slice A 1 c, .int .i64 0]) ∧ w'.ownsRow w.heap.size 48 4 (.slice A 1 c) 1 [.string ⟨#[97]⟩, .int .i64 1, .int .i64 6000, .int .i64 0] ∧ Below w.heap.size w w' := by
  go_enter Tryz.func15, Tryz.ntmps15
  go_wp2_with fail
  refine (rank1_c b _ h).mono ?_; rintro e w1 ⟨A, c, rfl, hown, B1⟩
  go_wp2
  go_ret2
  exact ⟨A, c, rfl, hown, B1⟩
end Go.Proofs.YtklggnglaeagpaaGreatDoor
