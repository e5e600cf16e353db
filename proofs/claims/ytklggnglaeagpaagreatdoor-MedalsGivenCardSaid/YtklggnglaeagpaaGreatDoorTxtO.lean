/- The texts of ranks: tumbref1.RankLines, judge.Text. Printed by wip/mkro.py. -/
import Derived.Test.YtklggnglaeagpaaGreatDoorTxtU
import Derived.Test.YtklggnglaeagpaaGreatDoorTxtV
import Derived.Test.YtklggnglaeagpaaGreatDoorTxtR
import Derived.Test.YtklggnglaeagpaaGreatDoorVerdM
import Derived.Deep.DeepCutAuto
import Derived.Deep.RegionHeld3
namespace Go.Proofs.YtklggnglaeagpaaGreatDoor
open Go.RowKit Go.Lib
set_option linter.unusedVariables false

theorem two_digO {n : Nat} (h : n < 100) : digP (n / 10) ++ digP (n % 10) = twoP n := by
  have h2 : ∀ m : Fin 100, digP (m.val / 10) ++ digP (m.val % 10) = twoP m.val := by decide +kernel
  exact h2 ⟨n, h⟩
set_option maxRecDepth 100000 in
theorem writtenO_c (n : Int) (w : World) (h0 : 1 ≤ n) (h1 : n ≤ 360000) : Calls Tryz.prog 217 #[.int .i64 n] w fun e w' => e = .returned (.string ⟨(writeP n.toNat).toArray⟩) ∧ w' = w := by
  have i1 := Lib.hid (fun W => itoaD_c (n / 100 % 60) (by omega) (by omega) W)
  have i2 := Lib.hid (fun W => itoaD_c (n / 6000) (by omega) (by omega) W)
  have t1 := Lib.hid (fun W => twoR_c (n % 100) W (by omega) (by omega))
  have t2 := Lib.hid (fun W => twoR_c (n / 100 % 60) W (by omega) (by omega))
  have r1 : digP (n % 100 / 10).toNat ++ digP (n % 100 % 10).toNat = twoP (n.toNat % 100) := by
    rw [show (n % 100 / 10).toNat = n.toNat % 100 / 10 by omega, show (n % 100 % 10).toNat = n.toNat % 100 % 10 by omega]
    exact two_digO (by omega)
  have r2 : digP (n / 100 % 60 / 10).toNat ++ digP (n / 100 % 60 % 10).toNat = twoP (n.toNat / 100 % 60) := by
    rw [show (n / 100 % 60 / 10).toNat = n.toNat / 100 % 60 / 10 by omega, show (n / 100 % 60 % 10).toNat = n.toNat / 100 % 60 % 10 by omega]
    exact two_digO (by omega)
  have r3 : (n / 100 % 60).toNat = n.toNat / 100 % 60 := by omega
  have r4 : (n / 6000).toNat = n.toNat / 6000 := by omega
  rw [r1] at t1
  rw [r2] at t2
  rw [r3] at i1
  rw [r4] at i2
  have zd : ∀ m, (⟨(digP m).toArray⟩ : ByteArray).size ≤ 2 := fun m => by
    show (digP m).toArray.size ≤ 2
    rw [List.size_toArray]; exact digP_len _
  have za : (⟨(twoP (n.toNat % 100)).toArray⟩ : ByteArray).size = 2 := rfl
  have zb : (⟨(twoP (n.toNat / 100 % 60)).toArray⟩ : ByteArray).size = 2 := rfl
  have zc := zd (n.toNat / 100 % 60)
  have ze := zd (n.toNat / 6000)
  have hx : n < 6000 → (⟨(digP (n.toNat / 100 % 60)).toArray⟩ : ByteArray) ++ ⟨#[46]⟩ ++ ⟨(twoP (n.toNat % 100)).toArray⟩ = ⟨(writeP n.toNat).toArray⟩ := fun hl => by
    have : (⟨#[46]⟩ : ByteArray) = ⟨[46].toArray⟩ := rfl
    rw [this, str_app, str_app]
    unfold writeP
    rw [if_pos (by omega), show n.toNat / 100 % 60 = n.toNat / 100 by omega]
    simp
  have hy : ¬ n < 6000 → (⟨(digP (n.toNat / 6000)).toArray⟩ : ByteArray) ++ ⟨#[58]⟩ ++ ⟨(twoP (n.toNat / 100 % 60)).toArray⟩ ++ ⟨#[46]⟩ ++ ⟨(twoP (n.toNat % 100)).toArray⟩ = ⟨(writeP n.toNat).toArray⟩ := fun hl => by
    have : (⟨#[46]⟩ : ByteArray) = ⟨[46].toArray⟩ := rfl
    have e2 : (⟨#[58]⟩ : ByteArray) = ⟨[58].toArray⟩ := rfl
    rw [this, e2, str_app, str_app, str_app, str_app]
    unfold writeP
    rw [if_neg (by omega)]
    simp
  generalize (⟨(writeP n.toNat).toArray⟩ : ByteArray) = R at *
  generalize (⟨(twoP (n.toNat % 100)).toArray⟩ : ByteArray) = S1 at *
  generalize (⟨(twoP (n.toNat / 100 % 60)).toArray⟩ : ByteArray) = S2 at *
  generalize (⟨(digP (n.toNat / 100 % 60)).toArray⟩ : ByteArray) = D1 at *
  generalize (⟨(digP (n.toNat / 6000)).toArray⟩ : ByteArray) = D2 at *
  have y1 : D1.size + 1 ≤ 9223372036854775807 := by omega
  have y2 : D1.size + 1 + 2 ≤ 9223372036854775807 := by omega
  have y3 : D2.size + 1 ≤ 9223372036854775807 := by omega
  have y4 : D2.size + 1 + 2 ≤ 9223372036854775807 := by omega
  have y5 : D2.size + 1 + 2 + 1 ≤ 9223372036854775807 := by omega
  have y6 : D2.size + 1 + 2 + 1 + 2 ≤ 9223372036854775807 := by omega
  have hx' := Lib.hid hx
  have hy' := Lib.hid hy
  clear hx hy zc ze zd r1 r2 r3 r4
  go_enter Tryz.func217, Tryz.ntmps217
  go_wp2_with fail
  refine (i1.out _).mono ?_; rintro e w' ⟨rfl, rfl⟩
  go_wp2_with fail
  refine (t1.out _).mono ?_; rintro e w' ⟨rfl, rfl⟩
  by_cases hl : n < 6000
  · have hr := Lib.hid (hx'.out hl)
    go_wp2
    go_ret
    exact ⟨congrArg (fun x => Ending.returned (.string x)) hr.out, rfl⟩
  · have hr := Lib.hid (hy'.out (by omega))
    go_wp2_with fail
    refine (i2.out _).mono ?_; rintro e w' ⟨rfl, rfl⟩
    go_wp2_with fail
    refine (t2.out _).mono ?_; rintro e w' ⟨rfl, rfl⟩
    go_wp2_with fail
    refine (t1.out _).mono ?_; rintro e w' ⟨rfl, rfl⟩
    go_wp2
    go_ret
    exact ⟨congrArg (fun x => Ending.returned (.string x)) hr.out, rfl⟩

theorem rkText_le (l : List Rk) (k : Nat) : (rkText (l.take k)).length ≤ (rkText l).length := by
  unfold rkText
  conv => rhs; rw [← List.take_append_drop k l, List.flatMap_append, List.length_append]
  omega
theorem rkText_at {l : List Rk} {k : Nat} {x : Rk} (h : l[k]? = some x) : rkText (l.take (k + 1)) = rkText (l.take k) ++ (rkLine x ++ [10]) := by
  rw [List.take_add_one, h]
  unfold rkText
  simp
theorem itoaO_len (n : Int) : (itoaS n).size = (itoa n).length := by
  rw [Lib.size_eq]; simp [itoaS]
theorem bL_itoaO (n : Int) : bL (itoaS n) = itoa n := by simp [bL, itoaS]
/-- the time of a line -/
def tmS (n : Int) : ByteArray := ⟨(rkTime n).toArray⟩
theorem tmS_pos {n : Int} (h : 0 < n) : tmS n = ⟨(writeP n.toNat).toArray⟩ := by unfold tmS rkTime; rw [if_pos h]
theorem tmS_no {n : Int} (h : ¬ 0 < n) : tmS n = ⟨#[45]⟩ := by unfold tmS rkTime; rw [if_neg h]
theorem tmS_data (n : Int) : (tmS n).data.toList = rkTime n := by simp [tmS]
/-- bounds of what is written -/
def RkWr (x : Rk) : Prop := x.who.size ≤ 100 ∧ (-9223372036854775808 ≤ x.rank ∧ x.rank ≤ 9223372036854775807) ∧ x.time ≤ 360000 ∧ (-9223372036854775808 ≤ x.fault ∧ x.fault ≤ 9223372036854775807)
theorem own_lit4 (W : World) (cs : Array Value) (h : cs.size = 4) : (W.alloc (.cells cs 9)).ownsRow W.heap.size 9 1 (.slice (some ⟨W.heap.size, 0, none⟩) 4 4) 4 cs.toList := by
  refine ⟨by simp [h], .inr ⟨W.heap.size, 4, cs, rfl, Nat.le_refl _, heap_alloc_new W _, Nat.le_refl _, by decide, by omega, ?_⟩⟩
  rw [List.take_of_length_le (by simp [h])]
set_option maxHeartbeats 6400000 in
set_option maxRecDepth 100000 in
theorem rkTextR_c (A : Option Addr) (n c : Nat) (l : List Rk) (w : World) (h : RRk w A n l) (hT : Tb w) (hS : (rkText l).length ≤ 200000) (hx : ∀ x ∈ l, RkWr x) (h0 : rkErr l = 0) :
    Calls Tryz.prog 103 #[.slice A n c] w fun e w' => e = .returned (.tuple #[.string ⟨(rkText l).toArray⟩, .int .i64 0]) ∧ Below w.heap.size w w' := by
  have hCF := Lib.hid (checkRankedA_c A n c l w h)
  rw [h0] at hCF
  clear h0
  go_enter Tryz.func103, Tryz.ntmps103
  go_wp2_with fail
  refine hCF.out.mono ?_; rintro e wS ⟨rfl, B1⟩
  replace h := h.below B1
  replace hT := hT.below B1
  have hRet := Lib.hid (fun W (B : Below wS.heap.size wS W) => below_next B1 B)
  have hTle := hS
  clear hCF B1
  have hl := h.len
  have hbd := h.bd
  have hR := Lib.hid (fun W (B : Below wS.heap.size wS W) => h.below B)
  have hTb := Lib.hid (fun W (B : Below wS.heap.size wS W) => hT.below B)
  have hx' := Lib.hid hx
  have hAt := Lib.hid (fun (k : Nat) x (h : l[k]? = some x) => rkText_at h)
  have hLe := Lib.hid (fun (k : Nat) => show (rkText (l.take k)).length ≤ 900000 from Nat.le_trans (rkText_le l k) (by omega))
  have hEnd := Lib.hid (show rkText (l.take n) = rkText l by rw [List.take_of_length_le (by omega)])
  have hB0 := below_new wS (.cells #[.pointer none, .slice none 0 0] 243)
  have hb0 := Bd.start (w := wS)
  clear h hT hx hS
  go_wp2_with fail
  generalize wS.alloc (.cells #[.pointer none, .slice none 0 0] 243) = w1 at *
  go_loopw [7, 8, 16] (fun _ _ i wr => ∃ k : Nat, k ≤ n ∧ i = .int .i64 k ∧ Bd wS.heap.size wS.heap.size (rkText (l.take k)) wr ∧ Below wS.heap.size wS wr) (fun _ _ i _ => n - (intOf i).toNat)
  case atStart => exact ⟨0, Nat.zero_le _, rfl, hb0, hB0⟩
  case round =>
    clear hb0 hB0
    rename World => wr
    obtain ⟨k, hk, rfl, hBd, hB⟩ := hrel
    by_cases hlt : k < n
    · obtain ⟨bs, os, x, rfl, hbl, hxk, c0, c1, c2, c3⟩ := RRk.at4 (hR.out _ hB) hlt
      have hxb := hx'.out x (List.mem_of_getElem? hxk)
      have hAk := Lib.hid (hAt.out k x hxk)
      have hL1 := Lib.hid (hLe.out (k + 1))
      obtain ⟨xw, rank, time, fault⟩ := x
      obtain ⟨hb1, hb2, hb3, hb4⟩ := hxb
      dsimp only [rkLine] at *
      have hn0 := heap_alloc_new wr (.cells #[.string xw, .int .i64 rank, .int .i64 time, .int .i64 fault] 48)
      have hBn := below_new wr (.cells #[.string xw, .int .i64 rank, .int .i64 time, .int .i64 fault] 48)
      have hneq := Lib.hid (show wr.heap.size ≠ wS.heap.size by obtain ⟨cs, hcs⟩ := hBd.blk; have := lt_of_heap hcs; omega)
      have hBd1 := hBd.below hBn
      have hB1 := below_next hB hBn
      have z2 := (blk_facts hn0).1 2
      clear hxk hBd
      go_upto_if 22 with (fail)
      generalize wr.alloc (.cells #[.string xw, .int .i64 rank, .int .i64 time, .int .i64 fault] 48) = w3 at *
      generalize hb9 : wr.heap.size = b9 at *
      go_cut [8] (fun s8 wx => s8 = .string (tmS time) ∧ wx.heap[b9]? = some (.cells #[.string xw, .int .i64 rank, .int .i64 time, .int .i64 fault] 48 (0, 0)) ∧ Bd wS.heap.size wS.heap.size (rkText (l.take k)) wx ∧ Below wS.heap.size wS wx)
      case first =>
        by_cases h0 : 0 < time
        · have hg := decide_eq_true h0
          have ht := tmS_pos h0
          have hWr := Lib.hid (fun W => write_c time W (by omega) hb3)
          rw [← ht] at hWr
          generalize tmS time = TM at *
          clear ht
          go_wp2_with fail
          refine (hWr.out _).mono ?_; rintro e w4 ⟨rfl, B4⟩
          have hn4 := blk_below hn0 B4
          have hBd4 := hBd1.below B4
          have hB4 := below_next hB1 B4
          clear hWr hn0 hBd1 hB1 B4 z2
          go_wp2
          go_meet
          case rel => exact ⟨rfl, hn4, hBd4, hB4⟩
        · have hg := decide_eq_false h0
          have ht := tmS_no h0
          go_wp2
          go_meet
          case rel => exact ⟨by rw [ht], hn0, hBd1, hB1⟩
      case rest =>
        clear hn0 hBd1 hB1 z2 hBn hb9
        rename World => w4
        obtain ⟨rfl, hn4, hBd4, hB4⟩ := hcut
        have hd0 : w4.drew.heap[b9]? = some (.cells #[.string xw, .int .i64 rank, .int .i64 time, .int .i64 fault] 48 (0, 0)) := hn4
        have hBdd : Bd wS.heap.size wS.heap.size (rkText (l.take k)) w4.drew := hBd4
        have hB2d : Below wS.heap.size wS w4.drew := below_drewN hB4 1
        have y3 := And.intro ((blk_facts hd0).1 0) (And.intro ((blk_facts hd0).1 1) ((blk_facts hd0).1 3))
        have hit1 := Lib.hid (itoa_c rank w4.drew (hTb.out _ hB2d) hb2.1 hb2.2)
        have hit2 := Lib.hid (fun W (B : Below w4.drew.heap.size w4.drew W) => itoa_c fault W (hTb.out _ (below_next hB2d B)) hb4.1 hb4.2)
        have hLn := hL1.out
        rw [hAk.out] at hLn
        simp only [List.length_append, List.length_cons, List.length_nil] at hLn
        have hq1 := itoaO_len rank
        have hq2 := itoaO_len fault
        have hd1 : (itoaS rank).data.toList = itoa rank := by simp [itoaS]
        have hd2 : (itoaS fault).data.toList = itoa fault := by simp [itoaS]
        have hd3 := tmS_data time
        have hxs := Lib.size_eq xw
        have hts := Lib.size_eq (tmS time)
        rw [hd3] at hts
        have hbi1 := bL_itoaO rank
        have hbi2 := bL_itoaO fault
        generalize itoaS rank = I1 at *
        generalize itoaS fault = I2 at *
        generalize tmS time = TM at *
        have hcl := Lib.hid (fun W (B : Below w4.drew.heap.size w4.drew W) => And.intro ((blk_facts (blk_below hd0 B)).1 0) (And.intro ((blk_facts (blk_below hd0 B)).1 1) ((blk_facts (blk_below hd0 B)).1 3)))
        have hk9 := Lib.hid (fun W5 W6 (B : Below w4.drew.heap.size w4.drew W5) (hk : Lib.OthersKept 5 (some wS.heap.size) W5 W6) => show W6.heap[b9]? = some (.cells #[.string xw, .int .i64 rank, .int .i64 time, .int .i64 fault] 48 (0, 0)) from hk _ _ (blk_below hd0 B) (fun e => hneq.out (Option.some.inj e)) (fun c fz e => by injection e with _ e; exact absurd e (by decide)))
        have hk8 := Lib.hid (fun W5 W6 (B : Below w4.drew.heap.size w4.drew W5) (hk : Lib.OthersKept 5 (some wS.heap.size) W5 W6) => And.intro ((blk_facts (hk9.out W5 W6 B hk)).1 0) (And.intro ((blk_facts (hk9.out W5 W6 B hk)).1 1) ((blk_facts (hk9.out W5 W6 B hk)).1 3)))
        have hb6 := Lib.hid (fun W (B : Below w4.drew.heap.size w4.drew W) => And.intro (hBdd.below B) (below_next hB2d B))
        have hEq := Lib.hid (show rkText (l.take k) ++ (I1 ++ ⟨#[32]⟩ ++ xw ++ ⟨#[32]⟩ ++ TM ++ ⟨#[32]⟩ ++ I2 ++ ⟨#[10]⟩).data.toList = rkText (l.take (k + 1)) from by rw [hAk.out]; simp [hd1, hd2, hd3])
        have hsz9 : (I1 ++ (⟨#[32]⟩ : ByteArray) ++ xw ++ (⟨#[32]⟩ : ByteArray) ++ TM ++ (⟨#[32]⟩ : ByteArray) ++ I2 ++ (⟨#[10]⟩ : ByteArray)).size = I1.size + 1 + xw.size + 1 + TM.size + 1 + I2.size + 1 := by simp only [ByteArray.size_append]; rfl
        have hlen9 : (rkText (l.take k)).length + (I1 ++ (⟨#[32]⟩ : ByteArray) ++ xw ++ (⟨#[32]⟩ : ByteArray) ++ TM ++ (⟨#[32]⟩ : ByteArray) ++ I2 ++ (⟨#[10]⟩ : ByteArray)).size ≤ 1000000 := by rw [hsz9]; omega
        obtain ⟨ST, hST⟩ : ∃ ST, (I1 ++ ⟨#[32]⟩ ++ xw ++ ⟨#[32]⟩ ++ TM ++ ⟨#[32]⟩ ++ I2 ++ ⟨#[10]⟩ : ByteArray) = ST := ⟨_, rfl⟩
        rw [hST] at hlen9 hEq
        have hW := Lib.hid (fun W (h : Bd wS.heap.size wS.heap.size (rkText (l.take k)) W) hB => wsB_c wS.heap.size wS.heap.size _ ST W h hlen9 hB)
        rw [hEq.out] at hW
        rw [hST] at hsz9
        subst hST
        have s1 : ¬ 9223372036854775807 < I1.size + 1 := by omega
        have s2 : ¬ 9223372036854775807 < I1.size + 1 + xw.size := by omega
        have s3 : ¬ 9223372036854775807 < I1.size + 1 + xw.size + 1 := by omega
        have s4 : ¬ 9223372036854775807 < I1.size + 1 + xw.size + 1 + TM.size := by omega
        have s5 : ¬ 9223372036854775807 < I1.size + 1 + xw.size + 1 + TM.size + 1 := by omega
        have s6 : ¬ 9223372036854775807 < I1.size + 1 + xw.size + 1 + TM.size + 1 + I2.size := by omega
        have s7 : ¬ 9223372036854775807 < I1.size + 1 + xw.size + 1 + TM.size + 1 + I2.size + 1 := by omega
        clear hn4 hd0 hBdd hBd4 hB4 hB2d hLn hAk hL1 hEq hsz9 hlen9 hxs hts hq1 hq2 hd1 hd2 hd3 hbi1 hbi2 hk9 c0 c1 c2 c3
        go_wp2_with fail
        go_region_held3 (fun w' => w'.cell? ⟨b9, 0, none⟩ = some (.string xw) ∧ w'.cell? ⟨b9, 1, none⟩ = some (.int .i64 rank) ∧ w'.cell? ⟨b9, 3, none⟩ = some (.int .i64 fault)) (first | go_keep | with_reducible exact y3 | with_reducible exact y5 | with_reducible exact y6 | with_reducible exact y7)
          (first
            | (have B5q := B5; go_at_call 109; with_reducible refine (hit2.out _ B5q).mono ?_; rintro e w6 ⟨rfl, B6'⟩; have B6 := below_next B5q B6'; have y6 := hcl.out _ B6; have hq6 := hb6.out _ B6)
            | (go_at_call 109; with_reducible refine hit1.out.mono ?_; rintro e w5 ⟨rfl, B5⟩; have y5 := hcl.out _ B5)
            | (have hq6q := hq6; go_at_call 172; with_reducible refine (hW.out _ hq6q.1 hq6q.2.size).mono ?_; rintro e w7 ⟨rfl, hBd7, B7, hk7⟩; have y7 := hk8.out _ _ B6 hk7))
        have hB7 := hq6.2.trans B7
        go_wp2
        go_roundw
        case rel => exact ⟨k + 1, by omega, by go_num, hBd7, hB7⟩
        case measure => simp [intOf]; omega
    · obtain rfl : k = n := by omega
      rw [hEnd.out] at hBd
      have hLen := Lib.hid (Any.Builder_Len_f Tryz.lays170 wS.heap.size wS.heap.size _ wr hBd)
      rw [Lib.byteCells_length] at hLen
      have hSt := Lib.hid (strB_c wS.heap.size wS.heap.size _ wr hBd hB.size)
      have hT3 : ¬ (200000 : Int) < ((rkText l).length : Int) := by omega
      clear hBd hEnd
      go_wp2_with fail
      refine hLen.out.mono ?_; rintro e w8 ⟨rfl, rfl⟩
      go_wp2_with fail
      refine hSt.out.mono ?_; rintro e w9 ⟨rfl, B9⟩
      have hB9 := hRet.out _ (hB.trans B9)
      go_wp2
      go_ret2
      exact ⟨rfl, hB9⟩
set_option maxHeartbeats 6400000 in
set_option maxRecDepth 100000 in
theorem rankLines_c (A : Option Addr) (n c : Nat) (l : List Rk) (w : World) (h : RRk w A n l) (hT : Tb w) (hS : (rkText l).length ≤ 900000) (hx : ∀ x ∈ l, RkWr x) :
    Calls Tryz.prog 104 #[.slice A n c] w fun e w' => e = .returned (.string ⟨(rkText l).toArray⟩) ∧ Below w.heap.size w w' := by
  have hl := h.len
  have hbd := h.bd
  have hR := Lib.hid (fun W (B : Below w.heap.size w W) => h.below B)
  have hTb := Lib.hid (fun W (B : Below w.heap.size w W) => hT.below B)
  have hx' := Lib.hid hx
  have hAt := Lib.hid (fun (k : Nat) x (h : l[k]? = some x) => rkText_at h)
  have hLe := Lib.hid (fun (k : Nat) => show (rkText (l.take k)).length ≤ 900000 from Nat.le_trans (rkText_le l k) (by omega))
  have hEnd := Lib.hid (show rkText (l.take n) = rkText l by rw [List.take_of_length_le (by omega)])
  have hB0 := below_new w (.cells #[.pointer none, .slice none 0 0] 243)
  have hb0 := Bd.start (w := w)
  clear h hT hx hS
  go_enter Tryz.func104, Tryz.ntmps104
  go_wp2_with fail
  generalize w.alloc (.cells #[.pointer none, .slice none 0 0] 243) = w1 at *
  go_loopw [5, 6, 9] (fun _ _ i wr => ∃ k : Nat, k ≤ n ∧ i = .int .i64 k ∧ Bd w.heap.size w.heap.size (rkText (l.take k)) wr ∧ Below w.heap.size w wr) (fun _ _ i _ => n - (intOf i).toNat)
  case atStart => exact ⟨0, Nat.zero_le _, rfl, hb0, hB0⟩
  case round =>
    clear hb0 hB0
    rename World => wr
    obtain ⟨k, hk, rfl, hBd, hB⟩ := hrel
    by_cases hlt : k < n
    · obtain ⟨bs, os, x, rfl, hbl, hxk, c0, c1, c2, c3⟩ := RRk.at4 (hR.out _ hB) hlt
      have hxb := hx'.out x (List.mem_of_getElem? hxk)
      have hAk := Lib.hid (hAt.out k x hxk)
      have hL1 := Lib.hid (hLe.out (k + 1))
      obtain ⟨xw, rank, time, fault⟩ := x
      obtain ⟨hb1, hb2, hb3, hb4⟩ := hxb
      dsimp only [rkLine] at *
      have hn0 := heap_alloc_new wr (.cells #[.string xw, .int .i64 rank, .int .i64 time, .int .i64 fault] 48)
      have hBn := below_new wr (.cells #[.string xw, .int .i64 rank, .int .i64 time, .int .i64 fault] 48)
      have hneq := Lib.hid (show wr.heap.size ≠ w.heap.size by obtain ⟨cs, hcs⟩ := hBd.blk; have := lt_of_heap hcs; omega)
      have hBd1 := hBd.below hBn
      have hB1 := below_next hB hBn
      have z2 := (blk_facts hn0).1 2
      clear hxk hBd
      go_upto_if 15 with (fail)
      generalize wr.alloc (.cells #[.string xw, .int .i64 rank, .int .i64 time, .int .i64 fault] 48) = w3 at *
      generalize hb9 : wr.heap.size = b9 at *
      go_cut [6] (fun s8 wx => s8 = .string (tmS time) ∧ wx.heap[b9]? = some (.cells #[.string xw, .int .i64 rank, .int .i64 time, .int .i64 fault] 48 (0, 0)) ∧ Bd w.heap.size w.heap.size (rkText (l.take k)) wx ∧ Below w.heap.size w wx)
      case first =>
        by_cases h0 : 0 < time
        · have hg := decide_eq_true h0
          have ht := tmS_pos h0
          have hWr := Lib.hid (fun W => writtenO_c time W (by omega) hb3)
          rw [← ht] at hWr
          generalize tmS time = TM at *
          clear ht
          go_wp2_with fail
          refine (hWr.out _).mono ?_; rintro e w4 ⟨rfl, rfl⟩; have B4 := Below.refl w4.heap.size w4
          have hn4 := blk_below hn0 B4
          have hBd4 := hBd1.below B4
          have hB4 := below_next hB1 B4
          clear hWr hn0 hBd1 hB1 B4 z2
          go_wp2
          go_meet
          case rel => exact ⟨rfl, hn4, hBd4, hB4⟩
        · have hg := decide_eq_false h0
          have ht := tmS_no h0
          go_wp2
          go_meet
          case rel => exact ⟨by rw [ht], hn0, hBd1, hB1⟩
      case rest =>
        clear hn0 hBd1 hB1 z2 hBn hb9
        rename World => w4
        obtain ⟨rfl, hn4, hBd4, hB4⟩ := hcut
        have hd0 : w4.drew.heap[b9]? = some (.cells #[.string xw, .int .i64 rank, .int .i64 time, .int .i64 fault] 48 (0, 0)) := hn4
        have hBdd : Bd w.heap.size w.heap.size (rkText (l.take k)) w4.drew := hBd4
        have hB2d : Below w.heap.size w w4.drew := below_drewN hB4 1
        have y3 := And.intro ((blk_facts hd0).1 0) (And.intro ((blk_facts hd0).1 1) ((blk_facts hd0).1 3))
        have hit1 := Lib.hid (itoa_c rank w4.drew (hTb.out _ hB2d) hb2.1 hb2.2)
        have hit2 := Lib.hid (fun W (B : Below w4.drew.heap.size w4.drew W) => itoa_c fault W (hTb.out _ (below_next hB2d B)) hb4.1 hb4.2)
        have hLn := hL1.out
        rw [hAk.out] at hLn
        simp only [List.length_append, List.length_cons, List.length_nil] at hLn
        have hq1 := itoaO_len rank
        have hq2 := itoaO_len fault
        have hd1 : (itoaS rank).data.toList = itoa rank := by simp [itoaS]
        have hd2 : (itoaS fault).data.toList = itoa fault := by simp [itoaS]
        have hd3 := tmS_data time
        have hxs := Lib.size_eq xw
        have hts := Lib.size_eq (tmS time)
        rw [hd3] at hts
        have hbi1 := bL_itoaO rank
        have hbi2 := bL_itoaO fault
        generalize itoaS rank = I1 at *
        generalize itoaS fault = I2 at *
        generalize tmS time = TM at *
        have hcl := Lib.hid (fun W (B : Below w4.drew.heap.size w4.drew W) => And.intro ((blk_facts (blk_below hd0 B)).1 0) (And.intro ((blk_facts (blk_below hd0 B)).1 1) ((blk_facts (blk_below hd0 B)).1 3)))
        have hk9 := Lib.hid (fun W5 W6 (B : Below w4.drew.heap.size w4.drew W5) (hk : Lib.OthersKept 5 (some w.heap.size) W5 W6) => show W6.heap[b9]? = some (.cells #[.string xw, .int .i64 rank, .int .i64 time, .int .i64 fault] 48 (0, 0)) from hk _ _ (blk_below hd0 B) (fun e => hneq.out (Option.some.inj e)) (fun c fz e => by injection e with _ e; exact absurd e (by decide)))
        have hk8 := Lib.hid (fun W5 W6 (B : Below w4.drew.heap.size w4.drew W5) (hk : Lib.OthersKept 5 (some w.heap.size) W5 W6) => And.intro ((blk_facts (hk9.out W5 W6 B hk)).1 0) (And.intro ((blk_facts (hk9.out W5 W6 B hk)).1 1) ((blk_facts (hk9.out W5 W6 B hk)).1 3)))
        have hb6 := Lib.hid (fun W (B : Below w4.drew.heap.size w4.drew W) => And.intro (hBdd.below B) (below_next hB2d B))
        have hbs : ([I1, xw, TM, I2] : List ByteArray).map bL = [itoa rank, xw.data.toList, rkTime time, itoa fault] := by simp only [List.map_cons, List.map_nil, hbi1, hbi2]; rw [show bL TM = rkTime time from hd3]; rfl
        have hln : itoa rank ++ 32 :: (xw.data.toList ++ 32 :: (rkTime time ++ 32 :: itoa fault)) = Lib.join (([I1, xw, TM, I2] : List ByteArray).map bL) [32] := by rw [hbs]; simp [join_two, join_one]
        have hJ := Lib.hid (fun W (B : Below w4.drew.heap.size w4.drew W) => joinR_c (some ⟨W.heap.size, 0, none⟩) 4 4 [I1, xw, TM, I2] 32 (W.alloc (.cells #[.string I1, .string xw, .string TM, .string I2] 9)) (R1.lit W _ [I1, xw, TM, I2] rfl (by simp)) (by decide) (by rw [← hln]; simp only [List.length_append, List.length_cons]; omega))
        have hJs : (⟨(Lib.join (([I1, xw, TM, I2] : List ByteArray).map bL) [32]).toArray⟩ : ByteArray).size = (Lib.join (([I1, xw, TM, I2] : List ByteArray).map bL) [32]).length := by show (Lib.join _ [32]).toArray.size = _; simp
        obtain ⟨J, hJe⟩ : ∃ J, (⟨(Lib.join (([I1, xw, TM, I2] : List ByteArray).map bL) [32]).toArray⟩ : ByteArray) = J := ⟨_, rfl⟩
        have hJd : J.data.toList = Lib.join (([I1, xw, TM, I2] : List ByteArray).map bL) [32] := by rw [← hJe]
        rw [hJe] at hJ hJs
        have hJs2 : J.size ≤ 900000 := by rw [hJs, ← hln]; simp only [List.length_append, List.length_cons]; omega
        have hEq : rkText (l.take k) ++ (J ++ ⟨#[10]⟩).data.toList = rkText (l.take (k + 1)) := by rw [hAk.out, hln]; simp [hJd]
        have hsz9 : (J ++ (⟨#[10]⟩ : ByteArray)).size = J.size + 1 := by simp only [ByteArray.size_append]; rfl
        have hlen9 : (rkText (l.take k)).length + (J ++ (⟨#[10]⟩ : ByteArray)).size ≤ 1000000 := by
          rw [hsz9, hJs, ← hln]; simp only [List.length_append, List.length_cons]; omega
        obtain ⟨ST, hST⟩ : ∃ ST, (J ++ ⟨#[10]⟩ : ByteArray) = ST := ⟨_, rfl⟩
        rw [hST] at hlen9 hEq
        have hW := Lib.hid (fun W (h : Bd w.heap.size w.heap.size (rkText (l.take k)) W) hB => wsB_c w.heap.size w.heap.size _ ST W h hlen9 hB)
        rw [hEq] at hW
        rw [hST] at hsz9
        subst hST
        have s1 : ¬ 9223372036854775807 < J.size + 1 := by omega
        clear hn4 hd0 hBdd hBd4 hB4 hB2d hLn hAk hL1 hEq hsz9 hlen9 hxs hts hq1 hq2 hd1 hd2 hd3 hbi1 hbi2 hk9 c0 c1 c2 c3 hbs hln hJs hJe hJd hJs2
        go_wp2_with fail
        go_region_held3 (fun w' => w'.cell? ⟨b9, 0, none⟩ = some (.string xw) ∧ w'.cell? ⟨b9, 1, none⟩ = some (.int .i64 rank) ∧ w'.cell? ⟨b9, 3, none⟩ = some (.int .i64 fault)) (first | go_keep | with_reducible exact y3 | with_reducible exact y5 | with_reducible exact y6 | with_reducible exact y7 | with_reducible exact y6a | with_reducible exact y8)
          (first
            | (have B5q := B5; go_at_call 109; with_reducible refine (hit2.out _ B5q).mono ?_; rintro e w6 ⟨rfl, B6'⟩; have B6 := below_next B5q B6'; have y6 := hcl.out _ B6; have B6a := B6.alloc B6.size (.cells #[.string I1, .string xw, .string TM, .string I2] 9); have y6a := hcl.out _ B6a)
            | (go_at_call 109; with_reducible refine hit1.out.mono ?_; rintro e w5 ⟨rfl, B5⟩; have y5 := hcl.out _ B5)
            | (have B6q := B6; go_at_call 173; with_reducible refine (hJ.out _ B6q).mono ?_; rintro e w8 ⟨rfl, B8'⟩; have B8 := below_next B6a B8'; have y8 := hcl.out _ B8; have hq6 := hb6.out _ B8)
            | (have hq6q := hq6; go_at_call 172; with_reducible refine (hW.out _ hq6q.1 hq6q.2.size).mono ?_; rintro e w7 ⟨rfl, hBd7, B7, hk7⟩; have y7 := hk8.out _ _ B8 hk7))
        have hB7 := hq6.2.trans B7
        go_wp2
        go_roundw
        case rel => exact ⟨k + 1, by omega, by go_num, hBd7, hB7⟩
        case measure => simp [intOf]; omega
    · obtain rfl : k = n := by omega
      rw [hEnd.out] at hBd
      have hSt := Lib.hid (strB_c w.heap.size w.heap.size _ wr hBd hB.size)
      clear hBd hEnd
      go_wp2_with fail
      refine hSt.out.mono ?_; rintro e w9 ⟨rfl, B9⟩
      have hB9 := hB.trans B9
      go_wp2
      go_ret
      exact ⟨rfl, hB9⟩
end Go.Proofs.YtklggnglaeagpaaGreatDoor
