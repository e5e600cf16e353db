import Derived.Test.YtnkhdofcmanipaaGreatDoorFaLens
import Derived.Lib.ItoaNum
import Derived.Test.YtnkhdofcmanipaaGreatDoorShelf
import Derived.Test.YtnkhdofcmanipaaGreatDoorFaStructs
import Derived.BigGuardPart
import Derived.Test.YtnkhdofcmanipaaGreatDoorFaEnv
import Derived.Test.YtnkhdofcmanipaaGreatDoorProg
import Derived.Maps.OwnOps
import Derived.Maps.OwnSet
/- timing.Write at the time that every statement asks (6012). -/
namespace Go.Proofs.YtnkhdofcmanipaaGreatDoor
open Go.RowKit
set_option linter.unusedVariables false

end Go.Proofs.YtnkhdofcmanipaaGreatDoor
/- Library functions on slices of ints, in this family's words: Contains, Equal, Clone; cmp.Or. -/
namespace Go.Proofs.YtnkhdofcmanipaaGreatDoor
open Go.RowKit
set_option linter.unusedVariables false

def orV : List Int → Int
  | [] => 0
  | x :: r => if x ≠ 0 then x else orV r
theorem orV_at {l : List Int} {k : Nat} {x : Int} (h : l[k]? = some x) : orV (l.drop k) = if x ≠ 0 then x else orV (l.drop (k + 1)) := by rw [drop_at h]; rfl
theorem orE_c (A : Option Addr) (n c : Nat) (l : List Int) (w : World) (h : RI 30 w A n l) :
    Calls Tryz.prog 7 #[.slice A n c] w fun e w' => e = .returned (.int .i64 (orV l)) ∧ w = w' := by
  have hl := h.len
  have hb := h.bd
  go_enter Tryz.func7, Tryz.ntmps7
  go_wp2
  go_loop [8] (fun i => ∃ k : Nat, k ≤ n ∧ i = .int .i64 k ∧ Hid (orV (l.drop k) = orV l)) (fun i => n - (intOf i).toNat)
  case atStart => exact ⟨0, Nat.zero_le _, rfl, Lib.hid rfl⟩
  case round =>
    obtain ⟨k, hk, rfl, hF⟩ := hrel
    by_cases hlt : k < n
    · obtain ⟨b, off, x, rfl, _, hx, hcell⟩ := h.at_ hlt
      have hS := Lib.hid (orV_at hx)
      clear hx h hl
      go_wp2
      · go_ret
        exact ⟨ret_i (by rw [← hF.out, hS.out, if_pos (by first | omega | (simp_all; done) | (simp_all; omega))]), rfl⟩
      · go_round
        case rel => exact ⟨k + 1, by omega, by go_num, Lib.hid (by rw [← hF.out, hS.out, if_neg (by first | omega | (simp_all; done) | (simp_all; omega))])⟩
        case measure => simp [intOf]; omega
    · have hS : Hid (orV l = 0) := Lib.hid (by rw [← hF.out, drop_end (by omega)]; rfl)
      clear hl
      go_wp2
      go_ret
      exact ⟨ret_i (by rw [hS.out]), rfl⟩
end Go.Proofs.YtnkhdofcmanipaaGreatDoor

/- The errors of splits: the program's and the reference's. -/
namespace Go.Proofs.YtnkhdofcmanipaaGreatDoor
open Go.RowKit
set_option linter.unusedVariables false

end Go.Proofs.YtnkhdofcmanipaaGreatDoor

/- The errors of splits by the reference; whole splits. -/
namespace Go.Proofs.YtnkhdofcmanipaaGreatDoor
open Go.RowKit
set_option linter.unusedVariables false

def spanErr (n a b : Int) : Int := if a ≤ n ∧ n ≤ b then 0 else 1
theorem spanFault_c (n a b : Int) (w : World) : Calls Tryz.prog 29 #[.int .i64 n, .int .i64 a, .int .i64 b] w fun e w' => e = .returned (.int .i64 (spanErr n a b)) ∧ w = w' := by
  go_enter Tryz.func29, Tryz.ntmps29
  go_wp2_with (go_at_call 50; refine (in_c _ _ _ _).mono ?_; rintro e w' ⟨rfl, rfl⟩)
  · go_ret
    exact ⟨ret_i (by unfold spanErr; rw [if_neg (by first | omega | (simp_all; done) | (simp_all; omega))]), rfl⟩
  · go_ret
    exact ⟨ret_i (by unfold spanErr; rw [if_pos (by first | omega | (simp_all; done) | (simp_all; omega))]), rfl⟩
end Go.Proofs.YtnkhdofcmanipaaGreatDoor

/- Plain lemmas: a list that is filled in order; bounds of right splits. -/
namespace Go.Proofs.YtnkhdofcmanipaaGreatDoor
open Go.RowKit
set_option linter.unusedVariables false

end Go.Proofs.YtnkhdofcmanipaaGreatDoor
/- Splits that the stream makes, all known. -/
namespace Go.Proofs.YtnkhdofcmanipaaGreatDoor
open Go.RowKit
set_option linter.unusedVariables false

theorem info_int : (Tryz.prog.info? 3).map (fun i => (i.zero, i.size, i.bytes)) = some (some (.int .i64 0), 1, 8) := by kernel_rfl

end Go.Proofs.YtnkhdofcmanipaaGreatDoor
/- What the statements of tumbkeep end with: heat.Lanes of a small pool. -/
namespace Go.Proofs.YtnkhdofcmanipaaGreatDoor
open Go.RowKit
set_option linter.unusedVariables false

end Go.Proofs.YtnkhdofcmanipaaGreatDoor

/- What the statements of tumbkeep end with: pad.Right of one clock. -/
namespace Go.Proofs.YtnkhdofcmanipaaGreatDoor
open Go.RowKit
set_option linter.unusedVariables false

theorem keyA (w : World) : Calls Tryz.prog 59 #[.string ⟨#[97]⟩] w fun e w' => e = .returned (.bool true) ∧ Below w.heap.size w w' := by
  have := isKey_c ⟨#[97]⟩ w
  rwa [show keyB ⟨#[97]⟩ = true from by kernel_rfl] at this
theorem moment_c (n : Int) (w : World) (h0 : 0 ≤ n) (h1 : n < 345686400000) : Calls Tryz.prog 123 #[.int .i64 n] w fun e w' => e = .returned (.bool true) ∧ w = w' := by
  go_enter Tryz.func123, Tryz.ntmps123
  go_wp2
  go_ret
  exact ⟨rfl, rfl⟩
set_option maxRecDepth 100000 in
set_option maxHeartbeats 1600000 in
theorem clock1_c (b : Nat) (w : World) (h : w.heap[b]? = some (.cells #[.string ⟨#[97]⟩, .int .i64 10, .int .i64 5] 152 (0, 0))) :
    Calls Tryz.prog 122 #[.slice (some ⟨b, 0, none⟩) 1 1] w fun e w' => e = .returned (.int .i64 0) ∧ Below w.heap.size w w' := by
  have hc := (blk_facts h).1
  have hb := lt_of_heap h
  clear h
  go_enter Tryz.func122, Tryz.ntmps122
  go_wp2
  refine wp_loop_rounds 2 ?_
  rw [rounds_succ]
  go_wp2_with (go_at_call 59; refine (keyA _).mono ?_; rintro e w1 ⟨rfl, B1⟩; have hc1 := (blk_facts (blk_below (heap_alloc_new w (.cells #[.string ⟨#[97]⟩, .int .i64 10, .int .i64 5] 152)) B1)).1; have hB1 := below_box B1)
  go_wp2_with (first | (go_at_call 123; refine (moment_c _ _ (by omega) (by omega)).mono ?_; rintro e w' ⟨rfl, rfl⟩) | (go_at_call 60; refine (within_c _ _ _ _).mono ?_; rintro e w' ⟨rfl, rfl⟩))
  go_quiet (fail)
  go_wp2
  rw [rounds_succ]
  go_wp2
  go_ret
  exact ⟨rfl, below_drewN hB1 _⟩
set_option maxRecDepth 100000 in
theorem right0_c (b : Nat) (w : World) (h : w.heap[b]? = some (.cells #[.string ⟨#[97]⟩, .int .i64 10, .int .i64 5] 152 (0, 0))) :
    Calls Tryz.prog 124 #[.slice (some ⟨b, 0, none⟩) 1 1, .string ⟨#[97]⟩, .int .i64 20] w fun e w' => e = .returned (.int .i64 15) ∧ Below w.heap.size w w' := by
  have hc := (blk_facts h).1
  have hb := lt_of_heap h
  clear h
  go_enter Tryz.func124, Tryz.ntmps124
  go_wp2
  refine wp_loop_rounds 2 ?_
  rw [rounds_succ]
  go_wp2
  rw [rounds_succ]
  go_wp2
  go_ret
  exact ⟨rfl, below_new _ _⟩
theorem right_c (b : Nat) (w : World) (h : w.heap[b]? = some (.cells #[.string ⟨#[97]⟩, .int .i64 10, .int .i64 5] 152 (0, 0))) :
    Calls Tryz.prog 95 #[.slice (some ⟨b, 0, none⟩) 1 1, .string ⟨#[97]⟩, .int .i64 20] w fun e w' => e = .returned (.tuple #[.int .i64 15, .int .i64 0]) ∧ Below w.heap.size w w' := by
  go_enter Tryz.func95, Tryz.ntmps95
  go_wp2_with fail
  refine (clock1_c _ _ h).mono ?_; rintro e w1 ⟨rfl, B1⟩
  have h1 := blk_below h B1
  clear h
  go_wp2_with fail
  refine (keyA _).mono ?_; rintro e w2 ⟨rfl, B2⟩
  have h2 := blk_below h1 B2
  have hB2 := below_next B1 B2
  clear h1
  go_wp2_with fail
  refine (moment_c _ _ (by omega) (by omega)).mono ?_; rintro e w' ⟨rfl, rfl⟩
  go_wp2_with fail
  refine (right0_c _ _ h2).mono ?_; rintro e w3 ⟨rfl, B3⟩
  go_wp2
  go_ret2
  exact ⟨rfl, below_next hB2 B3⟩
end Go.Proofs.YtnkhdofcmanipaaGreatDoor

/- Maps of the call's own, keyed by strings. -/
namespace Go.Proofs.YtnkhdofcmanipaaGreatDoor
open Go.RowKit
open Go.Maps (Keyed string_keyed)
open Go.MapKept Go.ChangeMaps
open Go.WideMaps (keyOf_string_mk)
set_option linter.unusedVariables false

abbrev MB (w : World) (b n : Nat) (D : DataW Unit) : Prop := w.ownsMap Tryz.prog 9 (plainElem Tryz.prog 4) b n D
abbrev MI (w : World) (b n : Nat) (D : DataW Unit) : Prop := w.ownsMap Tryz.prog 9 (plainElem Tryz.prog 3) b n D
theorem mi_lookup {w : World} {b n : Nat} {D : DataW Unit} (h : MI w b n D) (s : ByteArray) (hs : s.size ≤ maxLen) : ∃ v : Int, (Instr.lookup 106 (.map (some b)) (.string s) false).run Tryz.prog w = .ok (.int .i64 v) w ∧ D.atKey (.string s.data.toList) (.lit (.int .i64 0)) = .lit (.int .i64 v) := by
  obtain ⟨c, h1, h2, _⟩ := h.lookup_int (string_keyed Tryz.underlying9) Tryz.underlying106 Tryz.underlying3 (Tryz.zeroValue3 w) (keyOf_string_mk Tryz.underlying9 hs)
  exact ⟨c, h1, h2⟩
theorem mb_new (w : World) : MB (w.alloc (.map #[] 0)) w.heap.size 0 (.map []) := World.ownsMap_made w _ _ _
theorem mi_new (w : World) : MI (w.alloc (.map #[] 0)) w.heap.size 0 (.map []) := World.ownsMap_made w _ _ _
end Go.Proofs.YtnkhdofcmanipaaGreatDoor

/- What the statements of tumbkeep end with: judge.Rank of one time. -/
namespace Go.Proofs.YtnkhdofcmanipaaGreatDoor
open Go.RowKit
open Go.Maps (Keyed string_keyed)
open Go.WideMaps (keyOf_string_mk)
set_option linter.unusedVariables false

theorem atKey_nil (k : Lit) (d : DataW Unit) : (DataW.map ([] : List (Lit × DataW Unit))).atKey k d = d := by simp [DataW.atKey]
end Go.Proofs.YtnkhdofcmanipaaGreatDoor

/- What the statements of tumbkeep end with: judge.Rank of one time. -/
namespace Go.Proofs.YtnkhdofcmanipaaGreatDoor
open Go.RowKit
open Go.Maps (Keyed string_keyed)
open Go.WideMaps (keyOf_string_mk)
set_option linter.unusedVariables false

theorem own_someN {w : World} {base : Nat} {e : TypeId} {size : Nat} {A : Option Addr} {n c : Nat} {xs : List Value} (h : w.ownsRow base e size (.slice A n c) n xs) (hn : 0 < n) : ∃ b, A = some ⟨b, 0, none⟩ ∧ base ≤ b := by
  rcases h.2 with ⟨e1, rfl⟩ | ⟨g, cap, cur, hv, hb, hg, hnc, hcm, hcs, ht⟩
  · omega
  · injection hv with e1 e2 e3; exact ⟨g, e1, hb⟩
end Go.Proofs.YtnkhdofcmanipaaGreatDoor
