import Derived.Test.YtjafcnblgeibpaaDoorSplits
import Derived.Test.YtjafcnblgeibpaaDoorFill
import Derived.Test.YtjafcnblgeibpaaDoorClock
import Derived.Test.YtjafcnblgeibpaaDoorStructs
import Derived.Test.YtjafcnblgeibpaaDoorProg
import Derived.Maps.OwnOps
import Derived.Maps.OwnSet
/- What the statements of tumbkeep end with: heat.Lanes of a small pool. -/
namespace Go.Proofs.YtjafcnblgeibpaaDoor
open Go.RowKit
set_option linter.unusedVariables false

theorem own_lit (w : World) (base : Nat) (e : TypeId) (vs : Array Value) (n : Nat) (hn : vs.size = n) (hb : base ≤ w.heap.size) (hm : n ≤ maxLen) : (w.alloc (.cells vs e)).ownsRow base e 1 (.slice (some ⟨w.heap.size, 0, none⟩) n n) n vs.toList := by
  subst hn
  exact ⟨by simp, .inr ⟨w.heap.size, vs.size, vs, rfl, hb, heap_alloc_new w _, Nat.le_refl _, hm, by simp, by rw [Nat.mul_one]; exact List.take_of_length_le (by simp)⟩⟩

theorem alloc_size' (w : World) (o : Obj) : (w.alloc o).heap.size = w.heap.size + 1 := by simp
theorem blk_own {w w' : World} {b base : Nat} {o : Obj} {e : TypeId} {v : Value} {n : Nat} {xs : List Value} (h : w.heap[b]? = some o) (hown : w.ownsRow base e 1 v n xs) (hb : b < base) (hg : w.grownBy w' v.ownBlock) : w'.heap[b]? = some o :=
  blk_grown h hg (fun e => by have := own_row_lt hown b e.symm; omega)
end Go.Proofs.YtjafcnblgeibpaaDoor

/- What the statements of tumbkeep end with: pad.Right of one clock. -/
namespace Go.Proofs.YtjafcnblgeibpaaDoor
open Go.RowKit
set_option linter.unusedVariables false

def kA : ByteArray := ⟨#[97]⟩
theorem keyA (w : World) : Calls Tryd.prog 40 #[.string ⟨#[97]⟩] w fun e w' => e = .returned (.bool true) ∧ Below w.heap.size w w' := by
  have := isKey_c ⟨#[97]⟩ w
  rwa [show keyB ⟨#[97]⟩ = true from by kernel_rfl] at this
theorem moment_c (n : Int) (w : World) (h0 : 0 ≤ n) (h1 : n < 345686400000) : Calls Tryd.prog 41 #[.int .i64 n] w fun e w' => e = .returned (.bool true) ∧ w = w' := by
  go_enter Tryd.func41, Tryd.ntmps41
  go_wp2
  go_ret
  exact ⟨rfl, rfl⟩
set_option maxRecDepth 100000 in
set_option maxHeartbeats 1600000 in
theorem clock1_c (b : Nat) (w : World) (h : w.heap[b]? = some (.cells #[.string ⟨#[97]⟩, .int .i64 10, .int .i64 5] 63 (0, 0))) :
    Calls Tryd.prog 15 #[.slice (some ⟨b, 0, none⟩) 1 1] w fun e w' => e = .returned (.int .i64 0) ∧ Below w.heap.size w w' := by
  have hc := (blk_facts h).1
  have hb := lt_of_heap h
  clear h
  go_enter Tryd.func15, Tryd.ntmps15
  go_wp2
  refine wp_loop_rounds 2 ?_
  rw [rounds_succ]
  go_wp2_with (go_at_call 40; refine (keyA _).mono ?_; rintro e w1 ⟨rfl, B1⟩; have hc1 := (blk_facts (blk_below (heap_alloc_new w (.cells #[.string ⟨#[97]⟩, .int .i64 10, .int .i64 5] 63)) B1)).1; have hB1 := below_box B1)
  go_wp2_with (first | (go_at_call 41; refine (moment_c _ _ (by omega) (by omega)).mono ?_; rintro e w' ⟨rfl, rfl⟩) | (go_at_call 42; refine (within_c _ _ _ _).mono ?_; rintro e w' ⟨rfl, rfl⟩))
  go_quiet (fail)
  go_wp2
  rw [rounds_succ]
  go_wp2
  go_ret
  exact ⟨rfl, below_drewN hB1 _⟩
set_option maxRecDepth 100000 in
theorem right0_c (b : Nat) (w : World) (h : w.heap[b]? = some (.cells #[.string ⟨#[97]⟩, .int .i64 10, .int .i64 5] 63 (0, 0))) :
    Calls Tryd.prog 50 #[.slice (some ⟨b, 0, none⟩) 1 1, .string ⟨#[97]⟩, .int .i64 20] w fun e w' => e = .returned (.int .i64 15) ∧ Below w.heap.size w w' := by
  have hc := (blk_facts h).1
  have hb := lt_of_heap h
  clear h
  go_enter Tryd.func50, Tryd.ntmps50
  go_wp2
  refine wp_loop_rounds 2 ?_
  rw [rounds_succ]
  go_wp2
  rw [rounds_succ]
  go_wp2
  go_ret
  exact ⟨rfl, below_new _ _⟩
theorem right_c (b : Nat) (w : World) (h : w.heap[b]? = some (.cells #[.string ⟨#[97]⟩, .int .i64 10, .int .i64 5] 63 (0, 0))) :
    Calls Tryd.prog 21 #[.slice (some ⟨b, 0, none⟩) 1 1, .string ⟨#[97]⟩, .int .i64 20] w fun e w' => e = .returned (.tuple #[.int .i64 15, .int .i64 0]) ∧ Below w.heap.size w w' := by
  go_enter Tryd.func21, Tryd.ntmps21
  go_wp2_with fail
  refine (clock1_c _ _ h).mono ?_; rintro e w1 ⟨rfl, B1⟩
  have h1 := blk_below h B1
  clear h
  go_wp2_with fail
  refine (keyA _).mono ?_; rintro e w2 ⟨rfl, B2⟩
  have h2 := blk_below h1 B2
  have hB2 := below_next B1 B2
  clear h1
  go_wp2_with fail
  refine (moment_c _ _ (by omega) (by omega)).mono ?_; rintro e w' ⟨rfl, rfl⟩
  go_wp2_with fail
  refine (right0_c _ _ h2).mono ?_; rintro e w3 ⟨rfl, B3⟩
  go_wp2
  go_ret2
  exact ⟨rfl, below_next hB2 B3⟩
end Go.Proofs.YtjafcnblgeibpaaDoor

/- Maps of the call's own, keyed by strings. -/
namespace Go.Proofs.YtjafcnblgeibpaaDoor
open Go.RowKit
open Go.Maps (Keyed string_keyed)
open Go.MapKept Go.ChangeMaps
open Go.WideMaps (keyOf_string_mk)
set_option linter.unusedVariables false

abbrev MB (w : World) (b n : Nat) (D : DataW Unit) : Prop := w.ownsMap Tryd.prog 9 (plainElem Tryd.prog 4) b n D
abbrev MI (w : World) (b n : Nat) (D : DataW Unit) : Prop := w.ownsMap Tryd.prog 9 (plainElem Tryd.prog 3) b n D
theorem plainElem_bool_inv {P : Program} {e : TypeId} (he : P.underlying e = some .bool) {v : Value} {z : DataW Unit × List MemPlace} (h : plainElem P e v = some z) : ∃ a, v = .bool a ∧ z = (.lit (.bool a), []) := by
  unfold plainElem at h
  rw [he] at h
  cases v <;> simp at h
  subst h
  exact ⟨_, rfl, rfl⟩
theorem mb_lookup {w : World} {b n : Nat} {D : DataW Unit} (h : MB w b n D) (s : ByteArray) (hs : s.size ≤ maxLen) : ∃ v : Bool, (Instr.lookup 65 (.map (some b)) (.string s) false).run Tryd.prog w = .ok (.bool v) w ∧ D.atKey (.string s.data.toList) (.lit (.bool false)) = .lit (.bool v) := by
  obtain ⟨v, ps, hrun, hv⟩ := h.lookup (string_keyed Tryd.underlying9) Tryd.underlying65 (Tryd.zeroValue4 w) (plainElem_bool Tryd.underlying4 false) (keyOf_string_mk Tryd.underlying9 hs)
  obtain ⟨a, rfl, e⟩ := plainElem_bool_inv Tryd.underlying4 hv
  injection e with e1 e2
  exact ⟨a, hrun, e1⟩
theorem mi_lookup {w : World} {b n : Nat} {D : DataW Unit} (h : MI w b n D) (s : ByteArray) (hs : s.size ≤ maxLen) : ∃ v : Int, (Instr.lookup 53 (.map (some b)) (.string s) false).run Tryd.prog w = .ok (.int .i64 v) w ∧ D.atKey (.string s.data.toList) (.lit (.int .i64 0)) = .lit (.int .i64 v) := by
  obtain ⟨c, h1, h2, _⟩ := h.lookup_int (string_keyed Tryd.underlying9) Tryd.underlying53 Tryd.underlying3 (Tryd.zeroValue3 w) (keyOf_string_mk Tryd.underlying9 hs)
  exact ⟨c, h1, h2⟩
theorem mb_new (w : World) : MB (w.alloc (.map #[] 0)) w.heap.size 0 (.map []) := World.ownsMap_made w _ _ _
theorem mi_new (w : World) : MI (w.alloc (.map #[] 0)) w.heap.size 0 (.map []) := World.ownsMap_made w _ _ _
end Go.Proofs.YtjafcnblgeibpaaDoor

/- What the statements of tumbkeep end with: judge.Rank of one time. -/
namespace Go.Proofs.YtjafcnblgeibpaaDoor
open Go.RowKit
open Go.Maps (Keyed string_keyed)
open Go.WideMaps (keyOf_string_mk)
set_option linter.unusedVariables false

theorem atKey_nil (k : Lit) (d : DataW Unit) : (DataW.map ([] : List (Lit × DataW Unit))).atKey k d = d := by simp [DataW.atKey]
end Go.Proofs.YtjafcnblgeibpaaDoor

/- What the statements of tumbkeep end with: judge.Rank of one time. -/
namespace Go.Proofs.YtjafcnblgeibpaaDoor
open Go.RowKit
open Go.Maps (Keyed string_keyed)
open Go.WideMaps (keyOf_string_mk)
set_option linter.unusedVariables false

theorem own_someN {w : World} {base : Nat} {e : TypeId} {size : Nat} {A : Option Addr} {n c : Nat} {xs : List Value} (h : w.ownsRow base e size (.slice A n c) n xs) (hn : 0 < n) : ∃ b, A = some ⟨b, 0, none⟩ ∧ base ≤ b := by
  rcases h.2 with ⟨e1, rfl⟩ | ⟨g, cap, cur, hv, hb, hg, hnc, hcm, hcs, ht⟩
  · omega
  · injection hv with e1 e2 e3; exact ⟨g, e1, hb⟩
theorem own_capN {w : World} {base : Nat} {e : TypeId} {size : Nat} {A : Option Addr} {n c : Nat} {xs : List Value} (h : w.ownsRow base e size (.slice A n c) n xs) : n ≤ c := by
  rcases h.2 with ⟨e1, rfl⟩ | ⟨g, cap, cur, hv, hb, hg, hnc, hcm, hcs, ht⟩
  · omega
  · injection hv with e1 e2 e3; omega
end Go.Proofs.YtjafcnblgeibpaaDoor
