/- slices.SortStableFunc of signals, told and timed ones (at most 19). Printed by gensort.py. -/
import Derived.Test.YtnkhdofcmanipaaGreatDoorSortG
import Derived.Test.YtnkhdofcmanipaaGreatDoorFaSortB
namespace Go.Proofs.YtnkhdofcmanipaaGreatDoor
open Go.RowKit Go.Shelf Go.Lib Go.Sort
set_option linter.unusedVariables false

theorem sgIns_c {α : Type} [Inhabited α] (enc : α → List Value) (hs : ∀ x, (enc x).length = 6) (h1 : ∀ x, ∀ v ∈ enc x, v.oneCell' = true) (cf : α → α → Int) (g : Nat) (cb : Array Value) (eg : ∀ args w, (callFunc g args).run Tryz.prog w = .ok (.enter g args) w) (blk cap a b : Nat) (d : Array α) (w : World) (hC : CmpLays Tryz.prog g cb enc 6 cf blk 0 d.size w) (hH : HoldsK enc 6 w blk 0 d) (hblk : blk < w.heap.size) (hab : a ≤ b) (hb : b ≤ d.size) (hsz : d.size ≤ 1000) :
    Calls Tryz.prog 149 #[.slice (some ⟨blk, 0, none⟩) d.size cap, .int .i64 a, .int .i64 b, .func (.func g) #[] cb] w fun e w' => e = .returned (.tuple #[]) ∧ ∃ n os, w' = sortWorldK enc 6 w blk 0 n (Sort.insertionSort (ltOf cf) d a b) os :=
  AnyQ.insertionSortCmpFunc Tryz.laysSY 6 Tryz.isAgg89 Tryz.sizeOf89 enc hs h1 cf g cb blk 0 cap a b d w eg hC hH hblk hab hb (by omega)
theorem sgIns0_c (p : Option Addr) (cap : Nat) (fv : Value) (w : World) :
    Calls Tryz.prog 149 #[.slice p 0 cap, .int .i64 0, .int .i64 0, fv] w fun e w' => e = .returned (.tuple #[]) ∧ w' = w := by
  go_enter Tryz.func149, Tryz.ntmps149
  go_wp2
  refine wp_loop_rounds 1 ?_
  rw [rounds_succ]
  go_wp2
  go_end0
  exact ⟨rfl, rfl⟩
set_option maxHeartbeats 1600000 in
set_option maxRecDepth 100000 in
theorem sgStable_c {α : Type} [Inhabited α] (enc : α → List Value) (hs : ∀ x, (enc x).length = 6) (h1 : ∀ x, ∀ v ∈ enc x, v.oneCell' = true) (cf : α → α → Int) (g : Nat) (cb : Array Value) (eg : ∀ args w, (callFunc g args).run Tryz.prog w = .ok (.enter g args) w) (blk cap : Nat) (d : Array α) (w : World) (hC : CmpLays Tryz.prog g cb enc 6 cf blk 0 d.size w) (hH : HoldsK enc 6 w blk 0 d) (hblk : blk < w.heap.size) (hsz : d.size ≤ 19) :
    Calls Tryz.prog 110 #[.slice (some ⟨blk, 0, none⟩) d.size cap, .int .i64 d.size, .func (.func g) #[] cb] w fun e w' => e = .returned (.tuple #[]) ∧ ∃ n os, w' = sortWorldK enc 6 w blk 0 n (Sort.insertionSort (ltOf cf) d 0 d.size) os := by
  have hI := Lib.hid (sgIns_c enc hs h1 cf g cb eg blk cap 0 d.size d w hC hH hblk (Nat.zero_le _) (Nat.le_refl _) (by omega))
  generalize Sort.insertionSort (ltOf cf) d 0 d.size = r at *
  clear hH hC eg h1 hs
  generalize d.size = n at *
  have h1 : ¬ (20 : Int) ≤ (n : Int) := by omega
  have h2 : ¬ (20 : Int) < (n : Int) := by omega
  go_enter Tryz.func110, Tryz.ntmps110
  go_wp2
  refine wp_loop_rounds 1 ?_
  rw [rounds_succ]
  go_wp2_with fail
  refine hI.out.mono ?_; rintro e w' ⟨rfl, q, os, rfl⟩
  go_wp2
  refine wp_loop_rounds 1 ?_
  rw [rounds_succ]
  go_wp2
  go_end0
  exact ⟨rfl, q, os, rfl⟩
/-- at no element nothing turns -/
theorem sgSort0_c (p : Option Addr) (cap : Nat) (fv : Value) (w : World) :
    Calls Tryz.prog 73 #[.slice p 0 cap, fv] w fun e w' => e = .returned (.tuple #[]) ∧ w' = w := by
  have hS : Calls Tryz.prog 110 #[.slice p 0 cap, .int .i64 0, fv] w fun e w' => e = .returned (.tuple #[]) ∧ w' = w := by
    have hI := Lib.hid (sgIns0_c p cap fv w)
    go_enter Tryz.func110, Tryz.ntmps110
    go_wp2
    refine wp_loop_rounds 1 ?_
    rw [rounds_succ]
    go_wp2_with fail
    refine hI.out.mono ?_; rintro e w' ⟨rfl, rfl⟩
    go_wp2
    refine wp_loop_rounds 1 ?_
    rw [rounds_succ]
    go_wp2
    go_end0
    exact ⟨rfl, rfl⟩
  go_enter Tryz.func73, Tryz.ntmps73
  go_wp2_with fail
  refine hS.mono ?_; rintro e w' ⟨rfl, rfl⟩
  go_wp2
  go_end0
  exact ⟨rfl, rfl⟩
/-- the call's own row is the insertion sort of what it was -/
theorem sgSort_c {α : Type} [Inhabited α] (enc : α → List Value) (hs : ∀ x, (enc x).length = 6) (h1 : ∀ x, ∀ v ∈ enc x, v.oneCell' = true) (cf : α → α → Int) (g : Nat) (cb : Array Value) (eg : ∀ args w, (callFunc g args).run Tryz.prog w = .ok (.enter g args) w) (base b n c : Nat) (l : List α) (w : World) (hC : CmpLays Tryz.prog g cb enc 6 cf b 0 n w) (h : w.ownsRow base 89 6 (.slice (some ⟨b, 0, none⟩) n c) n (l.flatMap enc)) (hn : n ≤ 19) :
    Calls Tryz.prog 73 #[.slice (some ⟨b, 0, none⟩) n c, .func (.func g) #[] cb] w fun e w' => e = .returned (.tuple #[]) ∧ w'.ownsRow base 89 6 (.slice (some ⟨b, 0, none⟩) n c) n ((insL (ltOf cf) l).flatMap enc) ∧ w.grownBy w' (some b) := by
  have hlt := (h.lt b rfl).2
  have hlen : l.length = n := own_len hs (by omega) h
  have hH := holdsK_own enc 6 hs (by omega) h
  have hS := sgStable_c enc hs h1 cf g cb eg b c l.toArray w (by simpa [hlen] using hC) hH hlt (by simp; omega)
  have hR := own_sortedK enc 6 hs (by omega) h (l' := insL (ltOf cf) l) (by rw [insL_len, hlen])
  have e3 : Sort.insertionSort (ltOf cf) l.toArray 0 l.toArray.size = (insL (ltOf cf) l).toArray := by unfold insL; simp
  rw [e3] at hS
  simp only [List.size_toArray, hlen] at hS
  have hS' := Lib.hid hS
  clear hS hH hC eg
  have hR' := Lib.hid hR
  clear hR e3
  generalize insL (ltOf cf) l = L' at *
  go_enter Tryz.func73, Tryz.ntmps73
  go_wp2_with fail
  refine hS'.out.mono ?_; rintro e w' ⟨rfl, q, os, rfl⟩
  go_wp2
  go_end0
  exact ⟨rfl, hR'.out q os⟩

end Go.Proofs.YtnkhdofcmanipaaGreatDoor
