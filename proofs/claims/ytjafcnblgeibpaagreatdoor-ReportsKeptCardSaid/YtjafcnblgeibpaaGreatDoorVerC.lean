import Derived.Test.YtjafcnblgeibpaaGreatDoorVerB
import Derived.Test.YtjafcnblgeibpaaGreatDoorSortB
/- judge.stands; slices.Compact of strings with what stays; tumbref1.once; told, the program's and the reference's. -/
namespace Go.Proofs.YtjafcnblgeibpaaGreatDoor
open Go.RowKit Go.Shelf Go.Lib Go.Sort
set_option linter.unusedVariables false

def stB (l : List Rp) (who : ByteArray) (f at_ : Int) : Bool := decide (0 < (lastV l who f at_).wt) && !(lastV l who f at_).nt
theorem compactS2_c (base : Nat) (A : Option Addr) (n c : Nat) (l : List (List UInt8)) (w : World) (h : w.ownsRow base 9 1 (.slice A n c) n (l.map encStr)) (hn : n ≤ 1000000) :
    Calls Tryz.prog 190 #[.slice A n c] w fun e w' => e = .returned (.slice A (Lib.compact l).length c) ∧ w'.ownsRow base 9 1 (.slice A (Lib.compact l).length c) (Lib.compact l).length ((Lib.compact l).map encStr) ∧ w.grownBy w' (Value.slice A n c).ownBlock := by
  have hl : l.length = n := by have := h.1; rw [List.length_map] at this; omega
  rcases h.2 with ⟨hv, h0⟩ | ⟨g, cap, cur, hv, hb, hg, h1, h2, h3, h4⟩
  · subst h0
    injection hv with q1 q2 q3
    subst q1 q3
    obtain rfl : l = [] := List.eq_nil_of_length_eq_zero hl
    refine (Tryz.slices_Compact_string_empty none 0 w).mono ?_
    rintro e w' ⟨he, rfl⟩
    exact ⟨he, World.ownsRow_nil _ _ _ _, grown_refl _ _⟩
  · injection hv with q1 q2 q3
    subst q1 q3 hl
    rw [Nat.mul_one] at h4
    have hH := holds_of_block hg h4
    have hcl := Lib.compact_length_le l
    refine (Tryz.slices_Compact_string g 0 c l w hH (by omega) h1).mono ?_
    rintro e w' ⟨he, q, rfl⟩
    have k1 := ownsRow_sorted (n := q) (os := #[]) (ss := l) (ts := Lib.compact l ++ List.replicate (l.length - (Lib.compact l).length) []) (by simp; omega) hb hg h1 h2 h3
    have k2 := grownBy_sorted (w := w) (g := g) (n := q) (os := #[]) (Lib.compact l ++ List.replicate (l.length - (Lib.compact l).length) []).toArray
    rw [grow_empty] at k1 k2
    refine ⟨he, ?_, k2⟩
    have k3 := own_takeI k1 hcl
    rw [List.map_append, List.take_append_of_le_length (by simp), List.take_of_length_le (by simp)] at k3
    exact k3
/-- the names of a list, each once, in order -/
def onceB (l : List ByteArray) : List ByteArray := (Lib.compact ((l.map fun s => s.data.toList).mergeSort fun x y => decide (x ≤ y))).map fun b => ⟨b.toArray⟩
theorem onceB_enc (l : List ByteArray) : (Lib.compact ((l.map fun s => s.data.toList).mergeSort fun x y => decide (x ≤ y))).map encStr = (onceB l).map Value.string := by
  unfold onceB
  rw [List.map_map]
  apply List.map_congr_left
  intro x _
  simp [encStr]
theorem onceB_len (l : List ByteArray) : (onceB l).length ≤ l.length := by
  unfold onceB
  rw [List.length_map]
  have h1 := Lib.compact_length_le ((l.map fun s => s.data.toList).mergeSort fun x y => decide (x ≤ y))
  rw [List.length_mergeSort, List.length_map] at h1
  exact h1
/-- what a list of names comes back as -/
def RetS (w : World) (L : List ByteArray) (e : Ending) (w' : World) : Prop := ∃ A c, e = .returned (.slice A L.length c) ∧ RS 9 w' A L.length L ∧ Below w.heap.size w w'
theorem once2_c (A : Option Addr) (n c : Nat) (l : List ByteArray) (w : World) (h : RS 9 w A n l) (hn : n ≤ 1000000) :
    Calls Tryz.prog 152 #[.slice A n c] w (RetS w (onceB l)) := by
  have hcl := Lib.hid (cloneS_c A n c l w h hn)
  have hO := Lib.hid (onceB_enc l)
  have hlen := h.len
  have hol : (onceB l).length = (Lib.compact ((l.map fun s => s.data.toList).mergeSort fun x y => decide (x ≤ y))).length := by unfold onceB; rw [List.length_map]
  have hob := onceB_len l
  rw [← encS_map] at hcl
  generalize onceB l = O at *
  generalize (l.map fun s => s.data.toList) = L at *
  rw [hlen] at hob
  clear hlen h
  have hol' := Lib.hid hol
  clear hol
  go_enter Tryz.func152, Tryz.ntmps152
  go_wp2_with fail
  refine hcl.out.mono ?_; rintro e w1 ⟨A1, c1, rfl, ho1, B1⟩
  go_wp2_with fail
  refine (sortS_c _ A1 n c1 L w1 ho1 hn).mono ?_; rintro e w2 ⟨rfl, ho2, g2⟩
  have B2 := below_own B1 ho1 g2 B1.size (Nat.le_refl _)
  go_wp2_with fail
  refine (compactS2_c _ A1 n c1 _ w2 ho2 hn).mono ?_; rintro e w3 ⟨rfl, ho3, g3⟩
  have B3 := below_own B2 ho2 g3 B2.size (Nat.le_refl _)
  rw [hO.out, ← hol'.out] at ho3
  rw [← hol'.out]
  go_wp2
  go_ret
  exact ⟨A1, c1, rfl, R1.of_own ho3 (by omega), B3⟩
def toldL (l : List Rp) (at_ : Int) : List ByteArray := (l.filter fun x => decide (x.tm ≤ at_)).map Rp.who
def toldV (l : List Rp) (at_ : Int) : List ByteArray := onceB (toldL l at_)
theorem toldL_at {l : List Rp} {at_ : Int} {k : Nat} {x : Rp} (h : l[k]? = some x) : toldL (l.drop k) at_ = (if x.tm ≤ at_ then [x.who] else []) ++ toldL (l.drop (k + 1)) at_ := by
  rw [drop_at h]
  unfold toldL
  by_cases hm : x.tm ≤ at_
  · rw [if_pos hm, List.filter_cons_of_pos (by simpa using hm)]; rfl
  · rw [if_neg hm, List.filter_cons_of_neg (by simpa using hm)]; rfl
theorem toldL_len (l : List Rp) (at_ : Int) : (toldL l at_).length ≤ l.length := by
  unfold toldL; rw [List.length_map]; exact List.length_filter_le _ _
end Go.Proofs.YtjafcnblgeibpaaGreatDoor
