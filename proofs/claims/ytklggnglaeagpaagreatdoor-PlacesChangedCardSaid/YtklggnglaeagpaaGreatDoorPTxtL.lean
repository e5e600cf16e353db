/- The texts of starts: tumbref1.StartLines, heat.Text. Printed by wip/mksl.py. -/
import Derived.Test.YtklggnglaeagpaaGreatDoorPTxtU
import Derived.Test.YtklggnglaeagpaaGreatDoorPTxtS
import Derived.Deep.RegionHeld3
namespace Go.Proofs.YtklggnglaeagpaaGreatDoor
open Go.RowKit Go.Lib
set_option linter.unusedVariables false

theorem stText_le (l : List Sp) (k : Nat) : (stText (l.take k)).length ≤ (stText l).length := by
  unfold stText
  conv => rhs; rw [← List.take_append_drop k l, List.flatMap_append, List.length_append]
  omega
theorem stText_at {l : List Sp} {k : Nat} {x : Sp} (h : l[k]? = some x) : stText (l.take (k + 1)) = stText (l.take k) ++ (stLine x ++ [10]) := by
  rw [List.take_add_one, h]
  unfold stText
  simp
theorem itoaS_len (n : Int) : (itoaS n).size = (itoa n).length := by
  rw [Lib.size_eq]; simp [itoaS]
set_option maxHeartbeats 6400000 in
set_option maxRecDepth 100000 in
theorem startLines_c (A : Option Addr) (n c : Nat) (l : List Sp) (w : World) (h : RSp w A n l) (hT : Tb w) (hS : (stText l).length ≤ 900000) (hx : ∀ x ∈ l, SpBd x) :
    Calls Tryz.prog 90 #[.slice A n c] w fun e w' => e = .returned (.string ⟨(stText l).toArray⟩) ∧ Below w.heap.size w w' := by
  have hl := h.len
  have hbd := h.bd
  have hR := Lib.hid (fun W (B : Below w.heap.size w W) => h.below B)
  have hTb := Lib.hid (fun W (B : Below w.heap.size w W) => hT.below B)
  have hx' := Lib.hid hx
  have hAt := Lib.hid (fun (k : Nat) x (h : l[k]? = some x) => stText_at h)
  have hLe := Lib.hid (fun (k : Nat) => Nat.le_trans (stText_le l k) hS)
  have hEnd := Lib.hid (show stText (l.take n) = stText l by rw [List.take_of_length_le (by omega)])
  have hB0 := below_new w (.cells #[.pointer none, .slice none 0 0] 243)
  have hb0 := Bd.start (w := w)
  clear h hT hx hS
  go_enter Tryz.func90, Tryz.ntmps90
  go_wp2_with fail
  generalize w.alloc (.cells #[.pointer none, .slice none 0 0] 243) = w1 at *
  go_loopw [5, 8] (fun _ i wr => ∃ k : Nat, k ≤ n ∧ i = .int .i64 k ∧ Bd w.heap.size w.heap.size (stText (l.take k)) wr ∧ Below w.heap.size w wr) (fun _ i _ => n - (intOf i).toNat)
  case atStart => exact ⟨0, Nat.zero_le _, rfl, hb0, hB0⟩
  case round =>
    clear hb0 hB0
    rename World => wr
    obtain ⟨k, hk, rfl, hBd, hB⟩ := hrel
    by_cases hlt : k < n
    · obtain ⟨bs, os, x, rfl, hbl, hxk, c0, c1, c2⟩ := RSp_at3 (hR.out _ hB) hlt
      have hxb := hx'.out x (List.mem_of_getElem? hxk)
      have hAk := Lib.hid (hAt.out k x hxk)
      have hL1 := Lib.hid (hLe.out (k + 1))
      obtain ⟨xw, heat, lane⟩ := x
      obtain ⟨hb1, hb2, hb3⟩ := hxb
      dsimp only [stLine] at *
      have hn0 := heap_alloc_new wr (.cells #[.string xw, .int .i64 heat, .int .i64 lane] 153)
      have hBn := below_new wr (.cells #[.string xw, .int .i64 heat, .int .i64 lane] 153)
      have hneq := Lib.hid (show wr.heap.size ≠ w.heap.size by obtain ⟨cs, hcs⟩ := hBd.blk; have := lt_of_heap hcs; omega)
      have hBd1 := hBd.below hBn
      have hB1 := below_next hB hBn
      clear hxk hBd
      go_wp2_with fail
      generalize wr.alloc (.cells #[.string xw, .int .i64 heat, .int .i64 lane] 153) = w3 at *
      have hd0 : w3.drew.heap[wr.heap.size]? = some (.cells #[.string xw, .int .i64 heat, .int .i64 lane] 153 (0, 0)) := hn0
      have hBdd : Bd w.heap.size w.heap.size (stText (l.take k)) w3.drew := hBd1
      have hB2d : Below w.heap.size w w3.drew := below_drewN hB1 1
      have y3 := And.intro ((blk_facts hd0).1 0) (And.intro ((blk_facts hd0).1 1) ((blk_facts hd0).1 2))
      have hit1 := Lib.hid (itoa_c heat w3.drew (hTb.out _ hB2d) hb2.1 hb2.2)
      have hit2 := Lib.hid (fun W (B : Below w3.drew.heap.size w3.drew W) => itoa_c lane W (hTb.out _ (below_next hB2d B)) hb3.1 hb3.2)
      have hLn := hL1.out
      rw [hAk.out] at hLn
      simp only [List.length_append, List.length_cons, List.length_nil] at hLn
      have hq1 := itoaS_len heat
      have hq2 := itoaS_len lane
      have hd1 : (itoaS heat).data.toList = itoa heat := by simp [itoaS]
      have hd2 : (itoaS lane).data.toList = itoa lane := by simp [itoaS]
      generalize itoaS heat = I1 at *
      generalize itoaS lane = I2 at *
      have hxs := Lib.size_eq xw
      have hEq := Lib.hid (show stText (l.take k) ++ (I1 ++ ⟨#[32]⟩ ++ I2 ++ ⟨#[32]⟩ ++ xw ++ ⟨#[10]⟩).data.toList = stText (l.take (k + 1)) from by rw [hAk.out]; simp [hd1, hd2])
      have hsz9 : (I1 ++ (⟨#[32]⟩ : ByteArray) ++ I2 ++ (⟨#[32]⟩ : ByteArray) ++ xw ++ (⟨#[10]⟩ : ByteArray)).size = I1.size + 1 + I2.size + 1 + xw.size + 1 := by simp only [ByteArray.size_append]; rfl
      have hlen9 : (stText (l.take k)).length + (I1 ++ (⟨#[32]⟩ : ByteArray) ++ I2 ++ (⟨#[32]⟩ : ByteArray) ++ xw ++ (⟨#[10]⟩ : ByteArray)).size ≤ 1000000 := by rw [hsz9]; omega
      obtain ⟨ST, hST⟩ : ∃ ST, (I1 ++ ⟨#[32]⟩ ++ I2 ++ ⟨#[32]⟩ ++ xw ++ ⟨#[10]⟩ : ByteArray) = ST := ⟨_, rfl⟩
      rw [hST] at hlen9 hEq
      have hW := Lib.hid (fun W (h : Bd w.heap.size w.heap.size (stText (l.take k)) W) hB => wsB_c w.heap.size w.heap.size _ ST W h hlen9 hB)
      rw [hEq.out] at hW
      rw [hST] at hsz9
      subst hST
      have hk1 : I1.size ≤ 900000 := by omega
      have hk2 : I2.size ≤ 900000 := by omega
      have s1 : ¬ 9223372036854775807 < I1.size + 1 := by omega
      have s2 : ¬ 9223372036854775807 < I1.size + 1 + I2.size := by omega
      have s3 : ¬ 9223372036854775807 < I1.size + 1 + I2.size + 1 := by omega
      have s4 : ¬ 9223372036854775807 < I1.size + 1 + I2.size + 1 + xw.size := by omega
      have s5 : ¬ 9223372036854775807 < I1.size + 1 + I2.size + 1 + xw.size + 1 := by omega
      have hcl := Lib.hid (fun W (B : Below w3.drew.heap.size w3.drew W) => And.intro ((blk_facts (blk_below hd0 B)).1 0) (And.intro ((blk_facts (blk_below hd0 B)).1 1) ((blk_facts (blk_below hd0 B)).1 2)))
      have hk9 := Lib.hid (fun W5 W6 (B : Below w3.drew.heap.size w3.drew W5) (hk : Lib.OthersKept 5 (some w.heap.size) W5 W6) => show W6.heap[wr.heap.size]? = some (.cells #[.string xw, .int .i64 heat, .int .i64 lane] 153 (0, 0)) from hk _ _ (blk_below hd0 B) (fun e => hneq.out (Option.some.inj e)) (fun c fz e => by injection e with _ e; exact absurd e (by decide)))
      have hk8 := Lib.hid (fun W5 W6 (B : Below w3.drew.heap.size w3.drew W5) (hk : Lib.OthersKept 5 (some w.heap.size) W5 W6) => And.intro ((blk_facts (hk9.out W5 W6 B hk)).1 0) (And.intro ((blk_facts (hk9.out W5 W6 B hk)).1 1) ((blk_facts (hk9.out W5 W6 B hk)).1 2)))
      have hb6 := Lib.hid (fun W (B : Below w3.drew.heap.size w3.drew W) => And.intro (hBdd.below B) (below_next hB2d B))
      clear hn0 hd0 hBdd hBd1 hB1 hB2d hBn hLn hAk hL1 hEq hsz9 hlen9 hxs hq1 hq2 hd1 hd2 hk9 hk1 hk2 c0 c1 c2
      go_wp2_with fail
      go_region_held3 (fun w' => w'.cell? ⟨wr.heap.size, 0, none⟩ = some (.string xw) ∧ w'.cell? ⟨wr.heap.size, 1, none⟩ = some (.int .i64 heat) ∧ w'.cell? ⟨wr.heap.size, 2, none⟩ = some (.int .i64 lane)) (first | go_keep | with_reducible exact y3 | with_reducible exact y5 | with_reducible exact y6 | with_reducible exact y7)
        (first
          | (have B5q := B5; go_at_call 109; with_reducible refine (hit2.out _ B5q).mono ?_; rintro e w6 ⟨rfl, B6'⟩; have B6 := below_next B5 B6'; have y6 := hcl.out _ B6; have hq6 := hb6.out _ B6)
          | (go_at_call 109; with_reducible refine hit1.out.mono ?_; rintro e w5 ⟨rfl, B5⟩; have y5 := hcl.out _ B5)
          | (have hq6q := hq6; go_at_call 172; with_reducible refine (hW.out _ hq6q.1 hq6q.2.size).mono ?_; rintro e w7 ⟨rfl, hBd7, B7, hk7⟩; have y7 := hk8.out _ _ B6 hk7))
      have hB7 := hq6.2.trans B7
      go_wp2
      go_roundw
      case rel => exact ⟨k + 1, by omega, by go_num, hBd7, hB7⟩
      case measure => simp [intOf]; omega
    · obtain rfl : k = n := by omega
      rw [hEnd.out] at hBd
      have hSt := Lib.hid (strB_c w.heap.size w.heap.size _ wr hBd hB.size)
      clear hBd hEnd
      go_wp2_with fail
      refine hSt.out.mono ?_; rintro e w9 ⟨rfl, B9⟩
      have hB9 := hB.trans B9
      go_wp2
      go_ret
      exact ⟨rfl, hB9⟩
set_option maxHeartbeats 6400000 in
set_option maxRecDepth 100000 in
theorem startText_c (p : Pl) (hpb : PlBd p) (A : Option Addr) (n c : Nat) (l : List Sp) (w : World) (h : RSp w A n l) (hT : Tb w) (hS : (stText l).length ≤ 200000) (hx : ∀ x ∈ l, SpBd x) (h0 : startsErr p l = 0) :
    Calls Tryz.prog 88 #[p.val, .slice A n c] w fun e w' => e = .returned (.tuple #[.string ⟨(stText l).toArray⟩, .int .i64 0]) ∧ Below w.heap.size w w' := by
  have hCF := Lib.hid (fun W h => checkStarts_c p hpb A n c l W h)
  rw [h0] at hCF
  have hP0 : PoolB w.heap.size p (w.alloc (.cells p.cells 131)) := heap_alloc_new w _
  have hB0 := below_new w (.cells p.cells 131)
  have h1 := h.below hB0
  have hT1 := hT.below hB0
  clear h0 h hT
  obtain ⟨z0, z1, z2, z3⟩ := hP0.at_
  obtain ⟨lo, hi, le, ci⟩ := p
  dsimp only [Pl.val, Pl.cells] at *
  go_enter Tryz.func88, Tryz.ntmps88
  go_wp2_with fail
  refine (hCF.out _ h1).mono ?_; rintro e wS ⟨rfl, B1⟩
  have h := h1.below B1
  have hT := hT1.below B1
  have hBS := below_next hB0 B1
  have hRet := Lib.hid (fun W (B : Below wS.heap.size wS W) => below_next hBS B)
  clear hCF hP0 hB0 h1 hT1 B1 hBS z0 z1 z2 z3
  have hl := h.len
  have hbd := h.bd
  have hTle := hS
  have hR := Lib.hid (fun W (B : Below wS.heap.size wS W) => h.below B)
  have hTb := Lib.hid (fun W (B : Below wS.heap.size wS W) => hT.below B)
  have hx' := Lib.hid hx
  have hAt := Lib.hid (fun (k : Nat) x (h : l[k]? = some x) => stText_at h)
  have hLe := Lib.hid (fun (k : Nat) => show (stText (l.take k)).length ≤ 900000 from Nat.le_trans (stText_le l k) (by omega))
  have hEnd := Lib.hid (show stText (l.take n) = stText l by rw [List.take_of_length_le (by omega)])
  have hB0 := below_new wS (.cells #[.pointer none, .slice none 0 0] 243)
  have hb0 := Bd.start (w := wS)
  clear h hT hx hS
  go_wp2_with fail
  generalize wS.alloc (.cells #[.pointer none, .slice none 0 0] 243) = w1 at *
  go_loopw [9, 18] (fun _ i wr => ∃ k : Nat, k ≤ n ∧ i = .int .i64 k ∧ Bd wS.heap.size wS.heap.size (stText (l.take k)) wr ∧ Below wS.heap.size wS wr) (fun _ i _ => n - (intOf i).toNat)
  case atStart => exact ⟨0, Nat.zero_le _, rfl, hb0, hB0⟩
  case round =>
    clear hb0 hB0
    rename World => wr
    obtain ⟨k, hk, rfl, hBd, hB⟩ := hrel
    by_cases hlt : k < n
    · obtain ⟨bs, os, x, rfl, hbl, hxk, c0, c1, c2⟩ := RSp_at3 (hR.out _ hB) hlt
      have hxb := hx'.out x (List.mem_of_getElem? hxk)
      have hAk := Lib.hid (hAt.out k x hxk)
      have hL1 := Lib.hid (hLe.out (k + 1))
      obtain ⟨xw, heat, lane⟩ := x
      obtain ⟨hb1, hb2, hb3⟩ := hxb
      dsimp only [stLine] at *
      have hn0 := heap_alloc_new wr (.cells #[.string xw, .int .i64 heat, .int .i64 lane] 153)
      have hBn := below_new wr (.cells #[.string xw, .int .i64 heat, .int .i64 lane] 153)
      have hneq := Lib.hid (show wr.heap.size ≠ wS.heap.size by obtain ⟨cs, hcs⟩ := hBd.blk; have := lt_of_heap hcs; omega)
      have hBd1 := hBd.below hBn
      have hB1 := below_next hB hBn
      clear hxk hBd
      go_wp2_with fail
      generalize wr.alloc (.cells #[.string xw, .int .i64 heat, .int .i64 lane] 153) = w3 at *
      have hd0 : w3.drew.heap[wr.heap.size]? = some (.cells #[.string xw, .int .i64 heat, .int .i64 lane] 153 (0, 0)) := hn0
      have hBdd : Bd wS.heap.size wS.heap.size (stText (l.take k)) w3.drew := hBd1
      have hB2d : Below wS.heap.size wS w3.drew := below_drewN hB1 1
      have y3 := And.intro ((blk_facts hd0).1 0) (And.intro ((blk_facts hd0).1 1) ((blk_facts hd0).1 2))
      have hit1 := Lib.hid (itoa_c heat w3.drew (hTb.out _ hB2d) hb2.1 hb2.2)
      have hit2 := Lib.hid (fun W (B : Below w3.drew.heap.size w3.drew W) => itoa_c lane W (hTb.out _ (below_next hB2d B)) hb3.1 hb3.2)
      have hLn := hL1.out
      rw [hAk.out] at hLn
      simp only [List.length_append, List.length_cons, List.length_nil] at hLn
      have hq1 := itoaS_len heat
      have hq2 := itoaS_len lane
      have hd1 : (itoaS heat).data.toList = itoa heat := by simp [itoaS]
      have hd2 : (itoaS lane).data.toList = itoa lane := by simp [itoaS]
      generalize itoaS heat = I1 at *
      generalize itoaS lane = I2 at *
      have hxs := Lib.size_eq xw
      have hEq := Lib.hid (show stText (l.take k) ++ (I1 ++ ⟨#[32]⟩ ++ I2 ++ ⟨#[32]⟩ ++ xw ++ ⟨#[10]⟩).data.toList = stText (l.take (k + 1)) from by rw [hAk.out]; simp [hd1, hd2])
      have hsz9 : (I1 ++ (⟨#[32]⟩ : ByteArray) ++ I2 ++ (⟨#[32]⟩ : ByteArray) ++ xw ++ (⟨#[10]⟩ : ByteArray)).size = I1.size + 1 + I2.size + 1 + xw.size + 1 := by simp only [ByteArray.size_append]; rfl
      have hlen9 : (stText (l.take k)).length + (I1 ++ (⟨#[32]⟩ : ByteArray) ++ I2 ++ (⟨#[32]⟩ : ByteArray) ++ xw ++ (⟨#[10]⟩ : ByteArray)).size ≤ 1000000 := by rw [hsz9]; omega
      obtain ⟨ST, hST⟩ : ∃ ST, (I1 ++ ⟨#[32]⟩ ++ I2 ++ ⟨#[32]⟩ ++ xw ++ ⟨#[10]⟩ : ByteArray) = ST := ⟨_, rfl⟩
      rw [hST] at hlen9 hEq
      have hW := Lib.hid (fun W (h : Bd wS.heap.size wS.heap.size (stText (l.take k)) W) hB => wsB_c wS.heap.size wS.heap.size _ ST W h hlen9 hB)
      rw [hEq.out] at hW
      rw [hST] at hsz9
      subst hST
      have hk1 : I1.size ≤ 900000 := by omega
      have hk2 : I2.size ≤ 900000 := by omega
      have s1 : ¬ 9223372036854775807 < I1.size + 1 := by omega
      have s2 : ¬ 9223372036854775807 < I1.size + 1 + I2.size := by omega
      have s3 : ¬ 9223372036854775807 < I1.size + 1 + I2.size + 1 := by omega
      have s4 : ¬ 9223372036854775807 < I1.size + 1 + I2.size + 1 + xw.size := by omega
      have s5 : ¬ 9223372036854775807 < I1.size + 1 + I2.size + 1 + xw.size + 1 := by omega
      have hcl := Lib.hid (fun W (B : Below w3.drew.heap.size w3.drew W) => And.intro ((blk_facts (blk_below hd0 B)).1 0) (And.intro ((blk_facts (blk_below hd0 B)).1 1) ((blk_facts (blk_below hd0 B)).1 2)))
      have hk9 := Lib.hid (fun W5 W6 (B : Below w3.drew.heap.size w3.drew W5) (hk : Lib.OthersKept 5 (some wS.heap.size) W5 W6) => show W6.heap[wr.heap.size]? = some (.cells #[.string xw, .int .i64 heat, .int .i64 lane] 153 (0, 0)) from hk _ _ (blk_below hd0 B) (fun e => hneq.out (Option.some.inj e)) (fun c fz e => by injection e with _ e; exact absurd e (by decide)))
      have hk8 := Lib.hid (fun W5 W6 (B : Below w3.drew.heap.size w3.drew W5) (hk : Lib.OthersKept 5 (some wS.heap.size) W5 W6) => And.intro ((blk_facts (hk9.out W5 W6 B hk)).1 0) (And.intro ((blk_facts (hk9.out W5 W6 B hk)).1 1) ((blk_facts (hk9.out W5 W6 B hk)).1 2)))
      have hb6 := Lib.hid (fun W (B : Below w3.drew.heap.size w3.drew W) => And.intro (hBdd.below B) (below_next hB2d B))
      clear hn0 hd0 hBdd hBd1 hB1 hB2d hBn hLn hAk hL1 hEq hsz9 hlen9 hxs hq1 hq2 hd1 hd2 hk9 hk1 hk2 c0 c1 c2
      go_wp2_with fail
      go_region_held3 (fun w' => w'.cell? ⟨wr.heap.size, 0, none⟩ = some (.string xw) ∧ w'.cell? ⟨wr.heap.size, 1, none⟩ = some (.int .i64 heat) ∧ w'.cell? ⟨wr.heap.size, 2, none⟩ = some (.int .i64 lane)) (first | go_keep | with_reducible exact y3 | with_reducible exact y5 | with_reducible exact y6 | with_reducible exact y7)
        (first
          | (have B5q := B5; go_at_call 109; with_reducible refine (hit2.out _ B5q).mono ?_; rintro e w6 ⟨rfl, B6'⟩; have B6 := below_next B5 B6'; have y6 := hcl.out _ B6; have hq6 := hb6.out _ B6)
          | (go_at_call 109; with_reducible refine hit1.out.mono ?_; rintro e w5 ⟨rfl, B5⟩; have y5 := hcl.out _ B5)
          | (have hq6q := hq6; go_at_call 172; with_reducible refine (hW.out _ hq6q.1 hq6q.2.size).mono ?_; rintro e w7 ⟨rfl, hBd7, B7, hk7⟩; have y7 := hk8.out _ _ B6 hk7))
      have hB7 := hq6.2.trans B7
      go_wp2
      go_roundw
      case rel => exact ⟨k + 1, by omega, by go_num, hBd7, hB7⟩
      case measure => simp [intOf]; omega
    · obtain rfl : k = n := by omega
      rw [hEnd.out] at hBd
      have hLen := Lib.hid (Any.Builder_Len_f Tryz.lays170 wS.heap.size wS.heap.size _ wr hBd)
      rw [Lib.byteCells_length] at hLen
      have hSt := Lib.hid (strB_c wS.heap.size wS.heap.size _ wr hBd hB.size)
      have hT3 : ¬ (200000 : Int) < ((stText l).length : Int) := by omega
      clear hBd hEnd
      go_wp2_with fail
      refine hLen.out.mono ?_; rintro e w8 ⟨rfl, rfl⟩
      go_wp2_with fail
      refine hSt.out.mono ?_; rintro e w9 ⟨rfl, B9⟩
      have hB9 := hRet.out _ (hB.trans B9)
      go_wp2
      go_ret2
      exact ⟨rfl, hB9⟩
end Go.Proofs.YtklggnglaeagpaaGreatDoor
