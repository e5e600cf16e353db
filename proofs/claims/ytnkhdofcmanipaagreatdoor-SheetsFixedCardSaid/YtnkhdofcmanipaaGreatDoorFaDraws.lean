import Derived.Test.YtnkhdofcmanipaaGreatDoorFaStream
import Derived.Test.YtnkhdofcmanipaaGreatDoorFaStructs
/- Races as data; the races that the stream makes. -/
namespace Go.Proofs.YtnkhdofcmanipaaGreatDoor
open Go.RowKit
set_option linter.unusedVariables false

theorem some_c (g : Nat) (zs : Zs) (k : Nat) (A : Option Addr) (n c : Nat) (l : List ByteArray) (w : World) (h : St w g zs k) (hk : k ≤ 1099511627776) (hr : RS 9 w A n l) (hn : 1 ≤ n) :
    Calls Tryz.prog 47 #[.pointer (some ⟨g, 0, none⟩), .slice A n c] w fun e w' => e = .returned (.string (pickV zs k l)) ∧ St w' g zs (k + 1) ∧ w.grownBy w' (some g) := by
  have hb := hr.bd
  have hl := hr.len
  obtain ⟨h0, h1⟩ := @nextV_bd zs k n (by omega)
  have hv : pickV zs k l = l.getD (nextV zs k n).toNat default := by unfold pickV; rw [hl]
  have hlt : (nextV zs k n).toNat < n := by omega
  go_enter Tryz.func47, Tryz.ntmps47
  go_wp2_with fail
  refine (next_c g zs k _ _ h hk (by omega) (by omega)).mono ?_; rintro e w' ⟨rfl, hs, hg⟩
  obtain ⟨b, off, x, rfl, hbl, hx, hc⟩ := (hr.keep (T := 25) (by decide) (h.keep hg)).at_ hlt
  have hv' := Lib.hid hv; clear hv
  have hx' := Lib.hid hx; clear hx
  have hl' := Lib.hid hl; clear hl
  go_wp2
  go_ret
  refine ⟨ret_s ?_, hs, hg⟩
  rw [hv'.out, List.getD_eq_getElem?_getD, hx'.out]; rfl

def oddV (zs : Zs) (k : Nat) (a b : Int) : Int := if nextV zs k 12 == 0 then pickV zs (k + 1) [a - 1, b + 1, a, b, -1099511627776, 1099511627776] else a + nextV zs (k + 1) (b - a + 1)
theorem odd_c (g : Nat) (zs : Zs) (k : Nat) (a b : Int) (w : World) (h : St w g zs k) (hk : k + 2 ≤ 1099511627776) (h0 : a ≤ b) (h1 : -4398046511 ≤ a) (h2 : b ≤ 4398046511) :
    Calls Tryz.prog 48 #[.pointer (some ⟨g, 0, none⟩), .int .i64 a, .int .i64 b] w fun e w' =>
      e = .returned (.int .i64 (oddV zs k a b)) ∧ St w' g zs (k + 2) ∧ w.grownBy w' (some g) := by
  have H := @nextV_bd zs (k + 1) (b - a + 1) (by omega)
  have H2 : b - a ≤ 8796093022 := by omega
  go_enter Tryz.func48, Tryz.ntmps48
  go_wp2_with fail
  refine (flip_c g zs k _ _ h (by omega) (by omega) (by omega)).mono ?_; rintro e w1 ⟨rfl, hs, hg⟩
  by_cases hf : nextV zs k 12 == 0
  · go_wp2_with fail
    refine (pick_c g zs (k + 1) _ _ _ [a - 1, b + 1, a, b, -1099511627776, 1099511627776] _ (hs.alloc _) (by omega) (R1.litAt _ _ _ _ (by simp) rfl (le_big (by simp))) (by simp)).mono ?_; rintro e w2 ⟨rfl, hs2, hg2⟩
    go_wp2
    go_ret
    exact ⟨ret_i (by unfold oddV; rw [if_pos hf]), hs2, grown_trans (grown_alloc hg _) hg2⟩
  · go_wp2_with fail
    refine (range_c g zs (k + 1) _ _ _ hs (by omega) h0 (by omega) (by omega)).mono ?_; rintro e w2 ⟨rfl, hs2, hg2⟩
    go_wp2
    go_ret
    exact ⟨ret_i (by unfold oddV; rw [if_neg hf]), hs2, grown_trans hg hg2⟩

def ra : ByteArray := ⟨#[114, 97]⟩
def rb : ByteArray := ⟨#[114, 98]⟩
def plainRace (zs : Zs) (k : Nat) : Race × Nat :=
  let course := pickV zs (k + 1) [25, 50]
  if nextV zs (k + 8) 6 == 0 then
    (⟨pickV zs k [ra, rb], 4 * course, 5, course, 1, nextV zs (k + 4) 3, pickV zs (k + 5) [0, 11], pickV zs (k + 6) [12, 18, 120]⟩, k + 9)
  else
    (⟨pickV zs k [ra, rb], course * (1 + nextV zs (k + 7) 4), 1 + nextV zs (k + 2) 4, course, pickV zs (k + 3) [1, 1, 1, 2, 4], nextV zs (k + 4) 3, pickV zs (k + 5) [0, 11], pickV zs (k + 6) [12, 18, 120]⟩, k + 9)

theorem plainRace_2 (zs : Zs) (k : Nat) : (plainRace zs k).2 = k + 9 := by unfold plainRace; dsimp only; split <;> rfl

set_option maxHeartbeats 1600000 in
theorem plainRace_c (g : Nat) (zs : Zs) (k : Nat) (w : World) (h : St w g zs k) (hk : k + 20 ≤ 1099511627776) :
    Calls Tryz.prog 57 #[.pointer (some ⟨g, 0, none⟩)] w fun e w' => e = .returned (plainRace zs k).1.val ∧ St w' g zs (plainRace zs k).2 ∧ w.grownBy w' (some g) := by
  have b1 : 25 ≤ pickV zs (k + 1) ([25, 50] : List Int) ∧ pickV zs (k + 1) ([25, 50] : List Int) ≤ 50 := by
    have := @pickV_mem _ _ zs (k + 1) ([25, 50] : List Int) (by simp)
    simp at this; omega
  have n7 := @nextV_bd zs (k + 7) 4 (by omega)
  have b2 := mul_bd (a := pickV zs (k + 1) ([25, 50] : List Int)) (b := 1 + nextV zs (k + 7) 4) (A := 50) (B := 4) (by omega) (by omega) (by omega) (by omega)
  go_enter Tryz.func57, Tryz.ntmps57
  go_wp2_with fail
  refine (some_c g zs k _ _ _ [ra, rb] _ ((h.alloc _).alloc _) (by omega) (R1.litAt _ _ _ _ (by simp) rfl (le_big (by simp))) (by simp)).mono ?_; rintro e w1 ⟨rfl, s1, g1⟩
  go_wp2_with fail
  refine (pick_c g zs (k + 1) _ _ _ [25, 50] _ (s1.alloc _) (by omega) (R1.litAt _ _ _ _ (by simp) rfl (le_big (by simp))) (by simp)).mono ?_; rintro e w2 ⟨rfl, s2, g2⟩
  go_wp2_with fail
  refine (range_c g zs (k + 2) _ _ _ s2 (by omega) (by omega) (by omega) (by omega)).mono ?_; rintro e w3 ⟨rfl, s3, g3⟩
  go_wp2_with fail
  refine (pick_c g zs (k + 3) _ _ _ [1, 1, 1, 2, 4] _ (s3.alloc _) (by omega) (R1.litAt _ _ _ _ (by simp) rfl (le_big (by simp))) (by simp)).mono ?_; rintro e w4 ⟨rfl, s4, g4⟩
  go_wp2_with fail
  refine (range_c g zs (k + 4) _ _ _ s4 (by omega) (by omega) (by omega) (by omega)).mono ?_; rintro e w5 ⟨rfl, s5, g5⟩
  go_wp2_with fail
  refine (pick_c g zs (k + 5) _ _ _ [0, 11] _ (s5.alloc _) (by omega) (R1.litAt _ _ _ _ (by simp) rfl (le_big (by simp))) (by simp)).mono ?_; rintro e w6 ⟨rfl, s6, g6⟩
  go_wp2_with fail
  refine (pick_c g zs (k + 6) _ _ _ [12, 18, 120] _ (s6.alloc _) (by omega) (R1.litAt _ _ _ _ (by simp) rfl (le_big (by simp))) (by simp)).mono ?_; rintro e w7 ⟨rfl, s7, g7⟩
  go_wp2_with fail
  have s7' := s7.alloc (.cells #[.string (pickV zs k [ra, rb]), .int .i64 0, .int .i64 (1 + nextV zs (k + 2) 4), .int .i64 (pickV zs (k + 1) [25, 50]), .int .i64 (pickV zs (k + 3) [1, 1, 1, 2, 4]), .int .i64 (nextV zs (k + 4) 3), .int .i64 (pickV zs (k + 5) [0, 11]), .int .i64 (pickV zs (k + 6) [12, 18, 120])] 51)
  have hb7 := heap_alloc_new w7 (.cells #[.string (pickV zs k [ra, rb]), .int .i64 0, .int .i64 (1 + nextV zs (k + 2) 4), .int .i64 (pickV zs (k + 1) [25, 50]), .int .i64 (pickV zs (k + 3) [1, 1, 1, 2, 4]), .int .i64 (nextV zs (k + 4) 3), .int .i64 (pickV zs (k + 5) [0, 11]), .int .i64 (pickV zs (k + 6) [12, 18, 120])] 51)
  have hlt7 := s7.lt
  go_region_with ((go_at_call 13; refine (range_c g zs (k + 7) _ _ _ s7'.drew (by omega) (by omega) (by omega) (by omega)).mono ?_; rintro e w8 ⟨rfl, s8, g8⟩; have hb8 := blk_grown (w := (w7.alloc _).drew) hb7 g8 (by simp; omega); have c3 := blk_cell hb8 3 rfl; have c1 := blk_cell hb8 1 rfl; have f1 := blk_free hb8 1))
  all_goals
    have s8' := (s8.setOther (p := ⟨w7.heap.size, 1, none⟩) hlt7 (.int .i64 (pickV zs (k + 1) [25, 50] * (1 + nextV zs (k + 7) 4))))
    have hb8' := blk_set hb8 1 (.int .i64 (pickV zs (k + 1) [25, 50] * (1 + nextV zs (k + 7) 4)))
    have hz0 := blk_alloc (heap_alloc_new w (.cells #[.string ⟨#[]⟩, .int .i64 0, .int .i64 0, .int .i64 0, .int .i64 0, .int .i64 0, .int .i64 0, .int .i64 0] 51)) (.cells #[.string ⟨#[114, 97]⟩, .string ⟨#[114, 98]⟩] 9)
    have G := grown_trans (grown_alloc (grown_trans (grown_alloc (grown_trans (grown_trans (grown_alloc (grown_trans (grown_trans (grown_alloc g1 _) g2) g3) _) g4) g5) _) g6) _) g7
    have hlt := h.lt
    have hz7 := blk_grown hz0 G (by simp; omega)
    have hw7 := lt_of_heap hz7
    have hz8 := blk_grown (w := (w7.alloc _).drew) (blk_alloc hz7 _) g8 (by simp; omega)
    clear c1 c3 f1 hb7 s7'
    go_wp2_with fail
    refine (flip_c g zs (k + 8) _ _ s8' (by omega) (by omega) (by omega)).mono ?_; rintro e w9 ⟨rfl, s9, g9⟩
    have hb9 := blk_grown hb8' g9 (by simp; omega)
    have hz8' := blk_other hz8 (p := ⟨w7.heap.size, 1, none⟩) (by show w.heap.size ≠ w7.heap.size; omega) (.int .i64 (pickV zs (k + 1) [25, 50] * (1 + nextV zs (k + 7) 4)))
    have hz9 := blk_grown hz8' g9 (by simp; omega)
    obtain ⟨C9, F9⟩ := blk_facts hb9
    obtain ⟨Z9, Y9⟩ := blk_facts hz9
    have G9 : w.grownBy w9 (some g) := grown_trans (grown_setCell (grown_trans (grown_drew (grown_alloc (grown_trans (grown_alloc (grown_alloc (grown_refl w _) _) _) G) _)) g8) (.inr (by show w.heap.size ≤ w7.heap.size; omega)) _) g9
    clear hz0 hz7 hz8 hz8' hb8 hb8' hz9 hb9
    by_cases hf : (nextV zs (k + 8) 6 == 0) = true
    · go_wp2
      refine bodyPost_ret (v := (plainRace zs k).1.val) ?_ rfl ⟨rfl, ?_, ?_⟩
      · unfold plainRace; rw [if_pos hf]; simp [results, Tryz.results57, go_sem, Race.val, Race.cells, Z9]
      · rw [plainRace_2]; repeat (with_reducible refine St.setAt ?_ (by assumption) _)
        exact s9
      · repeat (with_reducible refine grown_setAt ?_ (by first | exact Nat.le_refl _ | exact Nat.le_of_lt hw7) _)
        exact G9
    · go_wp2
      refine bodyPost_ret (v := (plainRace zs k).1.val) ?_ rfl ⟨rfl, ?_, ?_⟩
      · unfold plainRace; rw [if_neg hf]; simp [results, Tryz.results57, go_sem, Race.val, Race.cells, Z9]
      · rw [plainRace_2]; repeat (with_reducible refine St.setAt ?_ (by assumption) _)
        exact s9
      · repeat (with_reducible refine grown_setAt ?_ (by first | exact Nat.le_refl _ | exact Nat.le_of_lt hw7) _)
        exact G9
end Go.Proofs.YtnkhdofcmanipaaGreatDoor

/- What every statement's walk begins with: the stream over the argument. -/
namespace Go.Proofs.YtnkhdofcmanipaaGreatDoor
open Go.RowKit
set_option linter.unusedVariables false

/-- WHAT THE WALK IS TOLD OF A SLICE OF INTEGERS THAT CAME IN: it is nil; or it leads to a row of 'cap' cells, the numbers 'zs' (the first 'len' are its elements, the rest its spare room), each fitting its kind. -/
def IsRow (k : IntKind) (w : World) (a : Option Addr) (len cap : Nat) (zs : List Int) : Prop :=
  (a = none ∧ len = 0 ∧ cap = 0 ∧ zs = []) ∨
  ∃ x, a = some x ∧ len ≤ cap ∧ cap ≤ maxLen ∧ zs.length = cap ∧ (∀ i, i < zs.length → w.cell? (x.add i) = some (.int k (zs.getD i 0))) ∧ ∀ n ∈ zs, (Lit.int k n).wf = true

theorem wf_i64_bd {x : Int} (h : (Lit.int .i64 x).wf = true) : -9223372036854775808 ≤ x ∧ x ≤ 9223372036854775807 := by
  simpa [Lit.wf, IntKind.min, IntKind.max, IntKind.signed, IntKind.bits] using h

theorem law_start {w : World} {a : Option Addr} {len cap : Nat} {zs : List Int} (h : IsRow .i64 w a len cap zs) :
    St (w.alloc (.cells #[.slice a len cap, .int .i64 0] 25)) w.heap.size ⟨zs.take len, w.heap.size⟩ 0 := by
  rcases h with ⟨rfl, rfl, rfl, rfl⟩ | ⟨x, rfl, hl, hm, hz, hc, hw⟩
  · exact ⟨none, 0, 0, heap_alloc_new w _, rfl, by omega, fun j x h => by simp at h, Nat.le_refl _, fun h => absurd h (by omega)⟩
  · have hat : ∀ (j : Nat) y, (zs.take len)[j]? = some y → j < len ∧ zs[j]? = some y := by
      intro j y h
      rw [List.getElem?_take] at h
      split at h
      · exact ⟨by assumption, h⟩
      · cases h
    refine ⟨some x, len, cap, heap_alloc_new w _, by simp; omega, by unfold maxLen at hm; omega, fun j y h => ?_, Nat.le_refl _, fun h0 => ⟨x, rfl, ?_, fun j y h => ?_⟩⟩
    · obtain ⟨_, h2⟩ := hat j y h
      exact wf_i64_bd (hw y (List.mem_of_getElem? h2))
    · have := World.block_lt_of_cell? w _ (hc 0 (by omega))
      rwa [block_add] at this
    · obtain ⟨h1, h2⟩ := hat j y h
      have h3 := hc j (by omega)
      have h4 : zs.getD j 0 = y := by rw [List.getD_eq_getElem?_getD, h2]; rfl
      rw [h4] at h3
      have hlt := World.block_lt_of_cell? w _ h3
      exact (World.cell?_of_block (Below.heap_alloc w _ _ hlt)).trans h3
end Go.Proofs.YtnkhdofcmanipaaGreatDoor

/- The stream's methods, told without the value: some number within the bounds. -/
namespace Go.Proofs.YtnkhdofcmanipaaGreatDoor
open Go.RowKit
set_option linter.unusedVariables false

theorem nextE_c (g : Nat) (zs : Zs) (k : Nat) (n : Int) (w : World) (h : St w g zs k) (hk : k ≤ 1099511627776) (h1 : 1 ≤ n) (h2 : n ≤ 4611686018427387904) :
    Calls Tryz.prog 45 #[.pointer (some ⟨g, 0, none⟩), .int .i64 n] w fun e w' => ∃ v : Int, e = .returned (.int .i64 v) ∧ 0 ≤ v ∧ v < n ∧ St w' g zs (k + 1) ∧ w.grownBy w' (some g) :=
  (next_c g zs k n w h hk h1 h2).mono fun e w' ⟨he, hs, hg⟩ => ⟨_, he, (nextV_bd h1).1, (nextV_bd h1).2, hs, hg⟩
theorem rangeE_c (g : Nat) (zs : Zs) (k : Nat) (a b : Int) (w : World) (h : St w g zs k) (hk : k ≤ 1099511627776) (h0 : a ≤ b) (h1 : -4398046511104 ≤ a) (h2 : b ≤ 4398046511104) :
    Calls Tryz.prog 13 #[.pointer (some ⟨g, 0, none⟩), .int .i64 a, .int .i64 b] w fun e w' => ∃ v : Int, e = .returned (.int .i64 v) ∧ a ≤ v ∧ v ≤ b ∧ St w' g zs (k + 1) ∧ w.grownBy w' (some g) :=
  (range_c g zs k a b w h hk h0 h1 h2).mono fun e w' ⟨he, hs, hg⟩ => by
    obtain ⟨n0, n1⟩ := @nextV_bd zs k (b - a + 1) (by omega)
    exact ⟨_, he, by omega, by omega, hs, hg⟩
theorem flipE_c (g : Nat) (zs : Zs) (k : Nat) (n : Int) (w : World) (h : St w g zs k) (hk : k ≤ 1099511627776) (h1 : 1 ≤ n) (h2 : n ≤ 4611686018427387904) :
    Calls Tryz.prog 46 #[.pointer (some ⟨g, 0, none⟩), .int .i64 n] w fun e w' => ∃ b : Bool, e = .returned (.bool b) ∧ St w' g zs (k + 1) ∧ w.grownBy w' (some g) :=
  (flip_c g zs k n w h hk h1 h2).mono fun e w' ⟨he, hs, hg⟩ => ⟨_, he, hs, hg⟩
theorem pickE_c (g : Nat) (zs : Zs) (k : Nat) (A : Option Addr) (n c : Nat) (l : List Int) (w : World) (h : St w g zs k) (hk : k ≤ 1099511627776) (hr : RI 3 w A n l) (hn : 1 ≤ n) :
    Calls Tryz.prog 21 #[.pointer (some ⟨g, 0, none⟩), .slice A n c] w fun e w' => ∃ v : Int, e = .returned (.int .i64 v) ∧ v ∈ l ∧ St w' g zs (k + 1) ∧ w.grownBy w' (some g) :=
  (pick_c g zs k A n c l w h hk hr hn).mono fun e w' ⟨he, hs, hg⟩ => ⟨_, he, pickV_mem (by intro e0; subst e0; have := hr.len; simp at this; omega), hs, hg⟩
/-- one of some numbers, all of them within bounds; the slice is a literal just made -/
theorem pickB_c (g : Nat) (zs : Zs) (k : Nat) (l : List Int) (a b : Int) (n c z : Nat) (vs : Array Value) (w : World) (h : St w g zs k) (hk : k ≤ 1099511627776) (hz : w.heap.size = z) (hv : vs = (l.map (Value.int .i64)).toArray) (hl : l.length = n) (hn : 1 ≤ n) (hb : n ≤ 1000) (hab : ∀ x ∈ l, a ≤ x ∧ x ≤ b) :
    Calls Tryz.prog 21 #[.pointer (some ⟨g, 0, none⟩), .slice (some ⟨z, 0, none⟩) n c] (w.alloc (.cells vs 3)) fun e w' => ∃ v : Int, e = .returned (.int .i64 v) ∧ a ≤ v ∧ v ≤ b ∧ St w' g zs (k + 1) ∧ w.grownBy w' (some g) := by
  subst hl
  exact (pickE_c g zs k _ _ c l _ (h.alloc _) hk (R1.litAt w z vs l hz hv (le_big hb)) hn).mono fun e w' ⟨v, he, hm, hs, hg⟩ =>
    ⟨v, he, (hab v hm).1, (hab v hm).2, hs, grown_trans (grown_alloc (grown_refl w _) _) hg⟩
theorem odd_bd (zs : Zs) (k : Nat) (a b : Int) (h0 : a ≤ b) (h1 : -4398046511 ≤ a) (h2 : b ≤ 4398046511) : -1099511627776 ≤ oddV zs k a b ∧ oddV zs k a b ≤ 1099511627776 := by
  unfold oddV
  split
  · have hm := @pickV_mem Int _ zs (k + 1) [a - 1, b + 1, a, b, -1099511627776, 1099511627776] (by simp)
    generalize pickV zs (k + 1) [a - 1, b + 1, a, b, -1099511627776, 1099511627776] = v at *
    simp at hm
    omega
  · obtain ⟨n0, n1⟩ := @nextV_bd zs (k + 1) (b - a + 1) (by omega)
    omega
theorem oddE_c (g : Nat) (zs : Zs) (k : Nat) (a b : Int) (w : World) (h : St w g zs k) (hk : k + 2 ≤ 1099511627776) (h0 : a ≤ b) (h1 : -4398046511 ≤ a) (h2 : b ≤ 4398046511) :
    Calls Tryz.prog 48 #[.pointer (some ⟨g, 0, none⟩), .int .i64 a, .int .i64 b] w fun e w' => ∃ v : Int, e = .returned (.int .i64 v) ∧ -1099511627776 ≤ v ∧ v ≤ 1099511627776 ∧ St w' g zs (k + 2) ∧ w.grownBy w' (some g) :=
  (odd_c g zs k a b w h hk h0 h1 h2).mono fun e w' ⟨he, hs, hg⟩ => ⟨_, he, (odd_bd zs k a b h0 h1 h2).1, (odd_bd zs k a b h0 h1 h2).2, hs, hg⟩
end Go.Proofs.YtnkhdofcmanipaaGreatDoor
