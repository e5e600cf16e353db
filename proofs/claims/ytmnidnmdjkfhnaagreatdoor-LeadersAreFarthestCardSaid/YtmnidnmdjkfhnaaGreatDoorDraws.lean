/- The stream's methods, told without the value: some number within the bounds. -/
import Derived.Test.YtmnidnmdjkfhnaaGreatDoorRaces
namespace Go.Proofs.YtmnidnmdjkfhnaaGreatDoor
open Go.RowKit
set_option linter.unusedVariables false

theorem nextE_c (g : Nat) (zs : List Int) (k : Nat) (n : Int) (w : World) (h : St w g zs k) (hk : k ≤ 1099511627776) (h1 : 1 ≤ n) (h2 : n ≤ 4611686018427387904) :
    Calls Tryz.prog 58 #[.pointer (some ⟨g, 0, none⟩), .int .i64 n] w fun e w' => ∃ v : Int, e = .returned (.int .i64 v) ∧ 0 ≤ v ∧ v < n ∧ St w' g zs (k + 1) ∧ w.grownBy w' (some g) :=
  (next_c g zs k n w h hk h1 h2).mono fun e w' ⟨he, hs, hg⟩ => ⟨_, he, (nextV_bd h1).1, (nextV_bd h1).2, hs, hg⟩
theorem rangeE_c (g : Nat) (zs : List Int) (k : Nat) (a b : Int) (w : World) (h : St w g zs k) (hk : k ≤ 1099511627776) (h0 : a ≤ b) (h1 : -4398046511104 ≤ a) (h2 : b ≤ 4398046511104) :
    Calls Tryz.prog 40 #[.pointer (some ⟨g, 0, none⟩), .int .i64 a, .int .i64 b] w fun e w' => ∃ v : Int, e = .returned (.int .i64 v) ∧ a ≤ v ∧ v ≤ b ∧ St w' g zs (k + 1) ∧ w.grownBy w' (some g) :=
  (range_c g zs k a b w h hk h0 h1 h2).mono fun e w' ⟨he, hs, hg⟩ => by
    obtain ⟨n0, n1⟩ := @nextV_bd zs k (b - a + 1) (by omega)
    exact ⟨_, he, by omega, by omega, hs, hg⟩
theorem flipE_c (g : Nat) (zs : List Int) (k : Nat) (n : Int) (w : World) (h : St w g zs k) (hk : k ≤ 1099511627776) (h1 : 1 ≤ n) (h2 : n ≤ 4611686018427387904) :
    Calls Tryz.prog 42 #[.pointer (some ⟨g, 0, none⟩), .int .i64 n] w fun e w' => ∃ b : Bool, e = .returned (.bool b) ∧ St w' g zs (k + 1) ∧ w.grownBy w' (some g) :=
  (flip_c g zs k n w h hk h1 h2).mono fun e w' ⟨he, hs, hg⟩ => ⟨_, he, hs, hg⟩
theorem pickE_c (g : Nat) (zs : List Int) (k : Nat) (A : Option Addr) (n c : Nat) (l : List Int) (w : World) (h : St w g zs k) (hk : k ≤ 1099511627776) (hr : RI 3 w A n l) (hn : 1 ≤ n) :
    Calls Tryz.prog 17 #[.pointer (some ⟨g, 0, none⟩), .slice A n c] w fun e w' => ∃ v : Int, e = .returned (.int .i64 v) ∧ v ∈ l ∧ St w' g zs (k + 1) ∧ w.grownBy w' (some g) :=
  (pick_c g zs k A n c l w h hk hr hn).mono fun e w' ⟨he, hs, hg⟩ => ⟨_, he, pickV_mem (by intro e0; subst e0; have := hr.len; simp at this; omega), hs, hg⟩
/-- one of some numbers, all of them within bounds; the slice is a literal just made -/
theorem pickB_c (g : Nat) (zs : List Int) (k : Nat) (l : List Int) (a b : Int) (n c z : Nat) (vs : Array Value) (w : World) (h : St w g zs k) (hk : k ≤ 1099511627776) (hz : w.heap.size = z) (hv : vs = (l.map (Value.int .i64)).toArray) (hl : l.length = n) (hn : 1 ≤ n) (hb : n ≤ 1000) (hab : ∀ x ∈ l, a ≤ x ∧ x ≤ b) :
    Calls Tryz.prog 17 #[.pointer (some ⟨g, 0, none⟩), .slice (some ⟨z, 0, none⟩) n c] (w.alloc (.cells vs 3)) fun e w' => ∃ v : Int, e = .returned (.int .i64 v) ∧ a ≤ v ∧ v ≤ b ∧ St w' g zs (k + 1) ∧ w.grownBy w' (some g) := by
  subst hl
  exact (pickE_c g zs k _ _ c l _ (h.alloc _) hk (R1.litAt w z vs l hz hv (le_big hb)) hn).mono fun e w' ⟨v, he, hm, hs, hg⟩ =>
    ⟨v, he, (hab v hm).1, (hab v hm).2, hs, grown_trans (grown_alloc (grown_refl w _) _) hg⟩
theorem someE_c (g : Nat) (zs : List Int) (k : Nat) (l : List ByteArray) (n c z : Nat) (vs : Array Value) (w : World) (h : St w g zs k) (hk : k ≤ 1099511627776) (hz : w.heap.size = z) (hv : vs = (l.map Value.string).toArray) (hl : l.length = n) (hn : 1 ≤ n) (hb : n ≤ 1000) :
    Calls Tryz.prog 28 #[.pointer (some ⟨g, 0, none⟩), .slice (some ⟨z, 0, none⟩) n c] (w.alloc (.cells vs 9)) fun e w' => ∃ v : ByteArray, e = .returned (.string v) ∧ v ∈ l ∧ St w' g zs (k + 1) ∧ w.grownBy w' (some g) := by
  subst hl
  exact (some_c g zs k _ _ c l _ (h.alloc _) hk (R1.litAt w z vs l hz hv (le_big hb)) hn).mono fun e w' ⟨he, hs, hg⟩ =>
    ⟨_, he, pickV_mem (by intro e0; subst e0; simp at hn), hs, grown_trans (grown_alloc (grown_refl w _) _) hg⟩
theorem odd_bd (zs : List Int) (k : Nat) (a b : Int) (h0 : a ≤ b) (h1 : -4398046511 ≤ a) (h2 : b ≤ 4398046511) : -1099511627776 ≤ oddV zs k a b ∧ oddV zs k a b ≤ 1099511627776 := by
  unfold oddV
  split
  · have hm := @pickV_mem Int _ zs (k + 1) [a - 1, b + 1, a, b, -1099511627776, 1099511627776] (by simp)
    generalize pickV zs (k + 1) [a - 1, b + 1, a, b, -1099511627776, 1099511627776] = v at *
    simp at hm
    omega
  · obtain ⟨n0, n1⟩ := @nextV_bd zs (k + 1) (b - a + 1) (by omega)
    omega
theorem oddE_c (g : Nat) (zs : List Int) (k : Nat) (a b : Int) (w : World) (h : St w g zs k) (hk : k + 2 ≤ 1099511627776) (h0 : a ≤ b) (h1 : -4398046511 ≤ a) (h2 : b ≤ 4398046511) :
    Calls Tryz.prog 97 #[.pointer (some ⟨g, 0, none⟩), .int .i64 a, .int .i64 b] w fun e w' => ∃ v : Int, e = .returned (.int .i64 v) ∧ -1099511627776 ≤ v ∧ v ≤ 1099511627776 ∧ St w' g zs (k + 2) ∧ w.grownBy w' (some g) :=
  (odd_c g zs k a b w h hk h0 h1 h2).mono fun e w' ⟨he, hs, hg⟩ => ⟨_, he, (odd_bd zs k a b h0 h1 h2).1, (odd_bd zs k a b h0 h1 h2).2, hs, hg⟩
end Go.Proofs.YtmnidnmdjkfhnaaGreatDoor
