/- Readers of signals: pad.word, pad.readSignal, pad.Read, tumbref1.SignalsRead and their closures. Printed by wip/mksg.py. -/
import Derived.Test.YtnkhdofcmanipaaGreatDoorFaTxtC
import Derived.Test.YtnkhdofcmanipaaGreatDoorFaTxtG
import Derived.Deep.DeepCutAuto
import Derived.Deep.RegionHeld3
import Derived.BigRegion
namespace Go.Proofs.YtnkhdofcmanipaaGreatDoor
open Go.RowKit Go.Lib
set_option linter.unusedVariables false

abbrev SgI (w : World) (b : Nat) : List (List UInt8) → World → Prop := TkI 78 89 6 sgE sgParse w b
theorem sg_emp {a : List UInt8} (h : ([] : List UInt8) ∈ spl 32 a) : sgParse a = none := by
  unfold sgParse; rw [if_pos h]
theorem sg_len {a : List UInt8} (h : (spl 32 a).length < 5) : sgParse a = none := by
  unfold sgParse
  split
  · rfl
  · split
    · rename_i e
      rw [e] at h
      simp only [List.length_cons] at h
      omega
    · rfl
theorem sg_five {a d n k p q : List UInt8} {r : List (List UInt8)} (h : spl 32 a = d :: n :: k :: p :: q :: r) (he : ([] : List UInt8) ∉ spl 32 a) : sgParse a = sgFin d (sgKind k) (numsP (n :: p :: q :: r) 12) := by
  unfold sgParse
  rw [if_neg he, h]
theorem sgKind_bd (w : List UInt8) : 0 ≤ sgKind w ∧ sgKind w ≤ 4 := by
  unfold sgKind
  split
  · omega
  · split
    · omega
    · split
      · omega
      · split <;> omega
theorem sgKind_iff {w : List UInt8} {k : Int} (h1 : 1 ≤ k) (h2 : k ≤ 4) : sgWord k = w ↔ sgKind w = k := by
  constructor
  · rintro rfl; exact sgKind_word h1 h2
  · intro h; rw [← h]; exact (sgWord_kind (by omega)).1
theorem sgFin_zero {d : List UInt8} {ns : Option (List Int)} {k : Int} (h : k < 1) : sgFin d k ns = none := by
  unfold sgFin
  split
  · rw [if_neg (by omega)]
  · rw [if_neg (by omega)]
  · rfl
theorem sgFin_no {d : List UInt8} {k : Int} : sgFin d k none = none := rfl
theorem sgFin_len {d : List UInt8} {l : List Int} {k : Int} (h : (l.length : Int) ≠ if k = 4 then 4 else 3) : sgFin d k (some l) = none := by
  unfold sgFin
  split
  · rename_i e
    obtain rfl := Option.some.inj e
    by_cases hk : k = 4
    · rw [if_neg (by omega)]
    · rw [if_neg hk] at h; exact absurd rfl h
  · rename_i e
    obtain rfl := Option.some.inj e
    by_cases hk : k = 4
    · rw [if_pos hk] at h; exact absurd rfl h
    · rw [if_neg hk]
  · rfl
theorem sgFin_three {d : List UInt8} {a b c k : Int} (h1 : 1 ≤ k) (h4 : k ≠ 4) : sgFin d k (some [a, b, c]) = some ⟨⟨d.toArray⟩, a, k, b, c, 0⟩ := if_pos ⟨h1, h4⟩
theorem sgFin_four {d : List UInt8} {a b c t : Int} : sgFin d 4 (some [a, b, c, t]) = some ⟨⟨d.toArray⟩, a, 4, b, c, t⟩ := by simp [sgFin]
theorem baL {x : List UInt8} {y : ByteArray} (h : (⟨x.toArray⟩ : ByteArray).toList = y.toList) : x = bL y := by
  rw [ByteArray.toList_eq, ByteArray.toList_eq] at h
  simpa [bL] using h
theorem word_c (k : Int) (W : World) : Calls Tryz.prog 77 #[.int .i64 k] W fun e w' => e = .returned (.string ⟨(sgWord k).toArray⟩) ∧ W = w' := by
  by_cases h1 : k = 1
  · subst h1
    go_enter Tryz.func77, Tryz.ntmps77
    go_wp2
    go_ret
    exact ⟨rfl, rfl⟩
  by_cases h2 : k = 2
  · subst h2
    go_enter Tryz.func77, Tryz.ntmps77
    go_wp2
    go_ret
    exact ⟨rfl, rfl⟩
  by_cases h3 : k = 3
  · subst h3
    go_enter Tryz.func77, Tryz.ntmps77
    go_wp2
    go_ret
    exact ⟨rfl, rfl⟩
  have e1 : (k == 1) = false := beq_eq_false_iff_ne.2 h1
  have e2 : (k == 2) = false := beq_eq_false_iff_ne.2 h2
  have e3 : (k == 3) = false := beq_eq_false_iff_ne.2 h3
  have hw : sgWord k = [119, 97, 116, 99, 104] := by unfold sgWord; rw [if_neg h1, if_neg h2, if_neg h3]
  rw [hw]
  clear h1 h2 h3 hw
  go_enter Tryz.func77, Tryz.ntmps77
  go_wp2
  go_ret
  exact ⟨rfl, rfl⟩
/-- a row of two rows of words, just laid -/
theorem two_lit (W : World) (x y : NxT) (hx : RS 9 W x.A x.ids.length x.ids ∧ (x.A = none → x.c = 0)) (hy : RS 9 W y.A y.ids.length y.ids ∧ (y.A = none → y.c = 0)) : RNxT (W.alloc (.cells #[.slice x.A x.ids.length x.c, .slice y.A y.ids.length y.c] 96)) (some ⟨W.heap.size, 0, none⟩) 2 [x, y] := by
  refine ⟨RN.of_own nxtE_len (base := W.heap.size) (c := 2) ⟨rfl, .inr ⟨W.heap.size, 2, _, rfl, Nat.le_refl _, heap_alloc_new W _, Nat.le_refl _, by decide, rfl, rfl⟩⟩ rfl (by decide), fun z hz => ?_⟩
  · rcases List.mem_cons.1 hz with rfl | hz
    · exact ⟨hx.1.alloc _, hx.2⟩
    · rw [List.mem_singleton.1 hz]; exact ⟨hy.1.alloc _, hy.2⟩
theorem RS_dropT {w : World} {b o n k : Nat} {l : List ByteArray} (h : RS 9 w (some ⟨b, o, none⟩) n l) (hk : k ≤ n) : RS 9 w (some ⟨b, o + k, none⟩) (n - k) (l.drop k) := by
  refine ⟨by rw [List.length_drop, h.1], by have := h.2.1; omega, fun hp => ?_⟩
  obtain ⟨cs, fz, hb, hc⟩ := h.blk (by omega)
  exact ⟨b, o + k, cs, fz, rfl, hb, fun j x hx => by rw [List.getElem?_drop] at hx; rw [Nat.add_assoc]; exact hc (k + j) x hx⟩
/-- the kind that is found among the first ones -/
def kdF (W : List UInt8) (k : Int) : Int := if sgKind W < k then sgKind W else 0
theorem kdF_one (W : List UInt8) : kdF W 1 = 0 := by
  unfold kdF; have := sgKind_bd W; split <;> omega
theorem kdF_five (W : List UInt8) : kdF W 5 = sgKind W := by
  unfold kdF; have := sgKind_bd W; split <;> omega
theorem kdF_hit {W : List UInt8} {k : Int} (h1 : 1 ≤ k) (h2 : k ≤ 4) (h : sgWord k = W) : kdF W (k + 1) = k := by
  unfold kdF; have := (sgKind_iff h1 h2).1 h; split <;> omega
theorem kdF_miss {W : List UInt8} {k : Int} (h1 : 1 ≤ k) (h2 : k ≤ 4) (h : sgWord k ≠ W) : kdF W (k + 1) = kdF W k := by
  unfold kdF
  have h9 : sgKind W ≠ k := fun e => h ((sgKind_iff h1 h2).2 e)
  split <;> split <;> omega
theorem splT_len (c : UInt8) : ∀ l : List UInt8, (spl c l).length ≤ l.length + 1
  | [] => by simp [spl]
  | b :: r => by
    have ih := splT_len c r
    unfold spl
    split
    · simp only [List.length_cons]; omega
    · split
      · rename_i e; exact absurd e (spl_ne c r)
      · rename_i x xs e
        rw [e] at ih
        simp only [List.length_cons] at ih ⊢
        omega
set_option maxHeartbeats 6400000 in
set_option maxRecDepth 100000 in
theorem readSig_c (s : ByteArray) (w : World) (hs : s.size ≤ 900000) (hM : Mx w) : Calls Tryz.prog 88 #[.string s] w fun e w' => ∃ x : Sg, e = .returned (.tuple #[.agg (sgE x).toArray, .bool (sgParse s.data.toList).isSome]) ∧ ((sgParse s.data.toList).isSome = true → sgParse s.data.toList = some x) ∧ Below w.heap.size w w' := by
  have hSp := Lib.hid (fun W hM => wordsSplit_c s W (by omega) hM)
  have hE1 := Lib.hid (fun h => sg_emp (a := s.data.toList) h)
  have hE2 := Lib.hid (fun h => sg_len (a := s.data.toList) h)
  have hT := Lib.hid (fun d n k p q r h he => sg_five (a := s.data.toList) (d := d) (n := n) (k := k) (p := p) (q := q) (r := r) h he)
  have hSn := Lib.hid (show (spl 32 s.data.toList).length ≤ 900001 by have h9 := Lib.size_eq s; have := splT_len 32 s.data.toList; omega)
  obtain ⟨SP, hSP⟩ : ∃ SP, sgParse s.data.toList = SP := ⟨_, rfl⟩
  rw [hSP] at hE1 hE2 hT ⊢
  generalize hps : spl 32 s.data.toList = ps at *
  have hB0 := below_new w (.cells #[.string ⟨#[]⟩, .int .i64 0, .int .i64 0, .int .i64 0, .int .i64 0, .int .i64 0] 89)
  have hK0 := heap_alloc_new w (.cells #[.string ⟨#[]⟩, .int .i64 0, .int .i64 0, .int .i64 0, .int .i64 0, .int .i64 0] 89)
  have hM1 := hM.below hB0
  clear hSP hps hM
  unfold RetWs at hSp
  go_enter Tryz.func88, Tryz.ntmps88
  go_wp2_with fail
  generalize hw0 : w.alloc (.cells #[.string ⟨#[]⟩, .int .i64 0, .int .i64 0, .int .i64 0, .int .i64 0, .int .i64 0] 89) = w0 at *
  clear hw0
  refine (hSp.out _ hM1).mono ?_; rintro e w1 ⟨A, n, Lw, rfl, hR, hLw, B1⟩
  have hB1 := below_next hB0 B1
  have hK1 := blk_below hK0 B1
  clear hB0 hK0 B1 hSp
  by_cases hem : ([] : List UInt8) ∈ ps
  · have hd : decide (([] : List UInt8) ∉ ps) = false := decide_eq_false (not_not_intro hem)
    obtain rfl : SP = none := hE1.out hem
    rw [hd]
    clear hd hem hLw hE1 hE2 hT
    obtain ⟨zK, yK⟩ := blk_facts hK1
    have zK0 := zK 0
    have zK1 := zK 1
    have zK2 := zK 2
    have zK3 := zK 3
    have zK4 := zK 4
    have zK5 := zK 5
    have yK0 := yK 0
    have yK1 := yK 1
    have yK2 := yK 2
    have yK3 := yK 3
    have yK4 := yK 4
    have yK5 := yK 5
    go_wp2
    refine bodyPost_ret (v := .tuple #[.agg #[.string ⟨#[]⟩, .int .i64 0, .int .i64 0, .int .i64 0, .int .i64 0, .int .i64 0], .bool false]) (by simp [results, Tryz.results88, go_sem, zK]) rfl ⟨⟨⟨#[]⟩, 0, 0, 0, 0, 0⟩, rfl, (fun h => by cases h), ?_⟩
    repeat (with_reducible refine Below.setCell ?_ (by simp) _)
    exact hB1
  have hd : decide (([] : List UInt8) ∉ ps) = true := decide_eq_true hem
  rw [hd]
  have hLw' := hLw hem
  have hLn := hR.len
  have hnp : ps.length = n := by rw [← hLw', List.length_map, hLn]
  clear hLw hd
  by_cases h5 : n < 5
  · have hd5 : decide ((n : Int) < 5) = true := decide_eq_true (by omega)
    have hi5 : (n : Int) < 5 := by omega
    obtain rfl : SP = none := hE2.out (by omega)
    clear hem hLw' hE1 hE2 hT hLn hnp
    obtain ⟨zK, yK⟩ := blk_facts hK1
    have zK0 := zK 0
    have zK1 := zK 1
    have zK2 := zK 2
    have zK3 := zK 3
    have zK4 := zK 4
    have zK5 := zK 5
    have yK0 := yK 0
    have yK1 := yK 1
    have yK2 := yK 2
    have yK3 := yK 3
    have yK4 := yK 4
    have yK5 := yK 5
    go_wp2
    refine bodyPost_ret (v := .tuple #[.agg #[.string ⟨#[]⟩, .int .i64 0, .int .i64 0, .int .i64 0, .int .i64 0, .int .i64 0], .bool false]) (by simp [results, Tryz.results88, go_sem, zK]) rfl ⟨⟨⟨#[]⟩, 0, 0, 0, 0, 0⟩, rfl, (fun h => by cases h), ?_⟩
    repeat (with_reducible refine Below.setCell ?_ (by simp) _)
    exact hB1
  have hd5 : decide ((n : Int) < 5) = false := decide_eq_false (by omega)
  have hi5 : ¬ (n : Int) < 5 := by omega
  obtain ⟨bx, ox, x0, hA, hbl, hx0, c0⟩ := hR.at_ (k := 0) (by omega)
  subst hA
  obtain ⟨csx, fzx, hbk, hcz⟩ := hR.blk (by omega)
  obtain ⟨y0, y1, y2, y3, y4, yr, rfl⟩ : ∃ y0 y1 y2 y3 y4 yr, Lw = y0 :: y1 :: y2 :: y3 :: y4 :: yr := by
    match Lw, hLn with
    | a :: b :: c :: d :: e :: r, _ => exact ⟨a, b, c, d, e, r, rfl⟩
    | [], h => simp at h; omega
    | [_], h => simp at h; omega
    | [_, _], h => simp at h; omega
    | [_, _, _], h => simp at h; omega
    | [_, _, _, _], h => simp at h; omega
  have hps2 : ps = bL y0 :: bL y1 :: bL y2 :: bL y3 :: bL y4 :: yr.map bL := by rw [← hLw']; rfl
  have hpar := Lib.hid (hT.out _ _ _ _ _ _ hps2 hem)
  have hcz0 : csx[ox + 0]? = some (.string y0) := hcz 0 _ rfl
  have hcz2 : csx[ox + 2]? = some (.string y2) := hcz 2 _ rfl
  have e0 : w1.cell? ⟨bx, ox, none⟩ = some (.string y0) := by have := cell_of_row w1 bx (ox + 0) csx _ fzx hbk; rw [hcz0] at this; exact this
  have hn9 : n ≤ 900001 := by have := hSn.out; omega
  clear hem hLw' hT hE1 hE2 hx0 hnp hps2 hcz c0 hcz0 hSn
  have hNb := heap_alloc_new w1 (.cells #[.string y0, .int .i64 0, .int .i64 0, .int .i64 0, .int .i64 0, .int .i64 0] 89)
  have hBn := below_new w1 (.cells #[.string y0, .int .i64 0, .int .i64 0, .int .i64 0, .int .i64 0, .int .i64 0] 89)
  have hB2 := below_next hB1 hBn
  have hK2 := blk_below hK1 hBn
  have hbk2 := blk_below hbk hBn
  have hR2 := hR.below hBn
  have hne : bx < w1.heap.size := lt_of_heap hbk
  have hlK : w.heap.size < w1.heap.size := lt_of_heap hK1
  clear hBn hbk hR hK1 hB1
  go_wp2_with fail
  generalize hw2 : w1.alloc (.cells #[.string y0, .int .i64 0, .int .i64 0, .int .i64 0, .int .i64 0, .int .i64 0] 89) = w2 at *
  generalize w1.heap.size = b6 at *
  have hRS := Lib.hid (fun W (h : W.heap[bx]? = some (.cells csx 9 fzx)) => show RS 9 W (some ⟨bx, ox, none⟩) n (y0 :: y1 :: y2 :: y3 :: y4 :: yr) from ⟨hR2.1, hR2.2.1, fun hp => by
    obtain ⟨cs9, fz9, h9, hc9⟩ := hR2.blk hp
    rw [hbk2] at h9
    injection h9 with h9
    injection h9 with q1 q2 q3
    subst q1 q3
    exact ⟨bx, ox, _, _, rfl, h, hc9⟩⟩)
  have hK0 := Lib.hid (kdF_one (bL y2))
  have hK5 := Lib.hid (kdF_five (bL y2))
  have hKh := Lib.hid (fun k h1 h2 h => kdF_hit (W := bL y2) (k := k) h1 h2 h)
  have hKm := Lib.hid (fun k h1 h2 h => kdF_miss (W := bL y2) (k := k) h1 h2 h)
  clear hw2 hR2
  go_loopw [7] (fun u wr => ∃ k : Nat, 1 ≤ k ∧ k ≤ 5 ∧ u = .int .i64 k ∧ wr.heap[b6]? = some (.cells #[.string y0, .int .i64 0, .int .i64 (kdF (bL y2) k), .int .i64 0, .int .i64 0, .int .i64 0] 89 (0, 0)) ∧ wr.heap[w.heap.size]? = some (.cells #[.string ⟨#[]⟩, .int .i64 0, .int .i64 0, .int .i64 0, .int .i64 0, .int .i64 0] 89 (0, 0)) ∧ wr.heap[bx]? = some (.cells csx 9 fzx) ∧ Below w.heap.size w wr) (fun u _ => 5 - (intOf u).toNat)
  case atStart => exact ⟨1, by omega, by omega, rfl, by rw [show ((1 : Nat) : Int) = 1 from rfl, hK0.out]; exact hNb, hK2, hbk2, hB2⟩
  case round =>
    clear hNb hK2 hbk2 hB2 e0
    rename World => wr
    obtain ⟨k, hk1, hk5, rfl, hNb, hK, hbk, hB⟩ := hrel
    by_cases hlt : k ≤ 4
    · have e2 : wr.drew.cell? ⟨bx, ox + 2, none⟩ = some (.string y2) := by rw [cell_of_row wr.drew bx (ox + 2) csx _ fzx hbk]; exact hcz2
      have hlk : decide ((k : Int) ≤ 4) = true := decide_eq_true (by omega)
      have hlk2 : (k : Int) ≤ 4 := by omega
      have hi2 : (2 : Int) < (n : Int) := by omega
      by_cases hw : sgWord k = bL y2
      · skip
        have hs9 : ((⟨(sgWord k).toArray⟩ : ByteArray).toList == y2.toList) = true := by
          rw [show (⟨(sgWord k).toArray⟩ : ByteArray) = y2 from by rw [hw]; rfl]; exact beq_self_eq_true _
        have hn := Lib.hid (hKh.out k (by omega) (by omega) hw)
        have hwc := Lib.hid (fun W => word_c (k : Int) W)
        generalize (⟨(sgWord k).toArray⟩ : ByteArray) = WD at *
        clear hw hKh hKm hK0 hK5 hpar
        generalize kdF (bL y2) k = KD at *
        obtain ⟨zN, yN⟩ := blk_facts hNb
        have zN2 := zN 2
        have yN2 := yN 2
        clear zN yN
        go_wp2_with fail
        go_region_held3 (fun w' => w'.cell? ⟨bx, ox + 2, none⟩ = some (.string y2)) (first | go_keep | with_reducible exact e2)
          (first
            | (go_at_call 77; with_reducible refine (hwc.out _).mono ?_; rintro e w6 ⟨rfl, rfl⟩))
        go_wp2
        go_roundw
        case rel => exact ⟨k + 1, by omega, by omega, by go_num, by have h9 := blk_set hNb 2 (.int .i64 k); rw [show ((k + 1 : Nat) : Int) = (k : Int) + 1 from by omega, hn.out]; exact h9, blk_other hK (p := ⟨b6, 2, none⟩) (show w.heap.size ≠ b6 by omega) _, blk_other hbk (p := ⟨b6, 2, none⟩) (show bx ≠ b6 by omega) _, Below.setCell (below_drewN hB 1) (show w.heap.size ≤ b6 by omega) _⟩
        case measure => simp [intOf]; omega
      · skip
        have hs9 : ((⟨(sgWord k).toArray⟩ : ByteArray).toList == y2.toList) = false := by
          refine beq_eq_false_iff_ne.2 fun e => hw ?_
          exact baL e
        have hn := Lib.hid (hKm.out k (by omega) (by omega) hw)
        have hwc := Lib.hid (fun W => word_c (k : Int) W)
        generalize (⟨(sgWord k).toArray⟩ : ByteArray) = WD at *
        clear hw hKh hKm hK0 hK5 hpar
        generalize kdF (bL y2) k = KD at *
        obtain ⟨zN, yN⟩ := blk_facts hNb
        have zN2 := zN 2
        have yN2 := yN 2
        clear zN yN
        go_wp2_with fail
        go_region_held3 (fun w' => w'.cell? ⟨bx, ox + 2, none⟩ = some (.string y2)) (first | go_keep | with_reducible exact e2)
          (first
            | (go_at_call 77; with_reducible refine (hwc.out _).mono ?_; rintro e w6 ⟨rfl, rfl⟩))
        go_wp2
        go_roundw
        case rel => exact ⟨k + 1, by omega, by omega, by go_num, by rw [show ((k + 1 : Nat) : Int) = (k : Int) + 1 from by omega, hn.out]; exact hNb, hK, hbk, below_drewN hB 1⟩
        case measure => simp [intOf]; omega
    · obtain rfl : k = 5 := by omega
      rw [show ((5 : Nat) : Int) = 5 from rfl, hK5.out] at hNb
      have hlk : decide (((5 : Nat) : Int) ≤ 4) = false := by decide
      have hRw := hRS.out wr hbk
      have hlen : (y0 :: y1 :: y2 :: y3 :: y4 :: yr).length = (y3 :: y4 :: yr).length + 3 := rfl
      obtain ⟨m, hm⟩ : ∃ m, (y3 :: y4 :: yr).length = m := ⟨_, rfl⟩
      have hnm : n = m + 3 := by rw [← hLn, hlen, hm]
      have hm2 : 2 ≤ m := by omega
      have hq1 : RS 9 wr (some ⟨bx, ox + 1, none⟩) 1 [y1] := by
        have h9 := RS_takeT (k := 1) (RS_dropT (k := 1) hRw (by omega)) (by omega)
        exact h9
      have hq2 : RS 9 wr (some ⟨bx, ox + 3, none⟩) m (y3 :: y4 :: yr) := by
        have h9 := RS_dropT (k := 3) hRw (by omega)
        rw [show n - 3 = m from by omega] at h9
        exact h9
      have hCt := Lib.hid (concatT_c (some ⟨wr.heap.size, 0, none⟩) 2 2 [⟨some ⟨bx, ox + 1, none⟩, m + 2, [y1]⟩, ⟨some ⟨bx, ox + 3, none⟩, m, y3 :: y4 :: yr⟩] (wr.alloc (.cells #[.slice (some ⟨bx, ox + 1, none⟩) 1 (m + 2), .slice (some ⟨bx, ox + 3, none⟩) (y3 :: y4 :: yr).length m] 96)).drew (two_lit wr ⟨some ⟨bx, ox + 1, none⟩, m + 2, [y1]⟩ ⟨some ⟨bx, ox + 3, none⟩, m, y3 :: y4 :: yr⟩ ⟨hq1, fun h => by cases h⟩ ⟨by show RS _ _ _ (y3 :: y4 :: yr).length _; rw [hm]; exact hq2, fun h => by cases h⟩) (by decide) (by simp only [List.flatMap_cons, List.flatMap_nil, List.length_append, List.length_cons, List.length_nil] at hm ⊢; omega))
      rw [hm, show ([⟨some ⟨bx, ox + 1, none⟩, m + 2, [y1]⟩, ⟨some ⟨bx, ox + 3, none⟩, m, y3 :: y4 :: yr⟩] : List NxT).flatMap NxT.ids = y1 :: y3 :: y4 :: yr by simp] at hCt
      rw [show (y1 :: y3 :: y4 :: yr).length = m + 1 from by simp only [List.length_cons] at hm ⊢; omega] at hCt
      have hNu := Lib.hid (fun A c W h => numbers_c A (m + 1) c 12 (y1 :: y3 :: y4 :: yr) W h (by decide) (by omega))
      unfold RetNs at hNu
      rw [show ((12 : Nat) : Int) = 12 from rfl] at hNu
      rw [show (y1 :: y3 :: y4 :: yr).map bL = bL y1 :: bL y3 :: bL y4 :: yr.map bL from rfl] at hNu
      generalize numsP (bL y1 :: bL y3 :: bL y4 :: yr.map bL) 12 = NS at *
      clear hRw hq1 hq2 hRS hKh hKm hK0 hK5 hlen hm hcz2 hLn
      have hkb := sgKind_bd (bL y2)
      generalize sgKind (bL y2) = KN at *
      subst hnm
      clear hi5 hd5 h5
      have hi1 : (1 : Int) ≤ (m : Int) + 3 := by omega
      have hi2 : (2 : Int) ≤ (m : Int) + 3 := by omega
      have hi3 : (3 : Int) ≤ (m : Int) + 3 := by omega
      have hm0 : m ≠ 0 := by omega
      have hBa := below_drewN (hB.alloc hB.size (.cells #[.slice (some ⟨bx, ox + 1, none⟩) 1 (m + 2), .slice (some ⟨bx, ox + 3, none⟩) m m] 96)) 1
      have hNa := blk_alloc (w := wr) hNb (.cells #[.slice (some ⟨bx, ox + 1, none⟩) 1 (m + 2), .slice (some ⟨bx, ox + 3, none⟩) m m] 96)
      have hKa := blk_alloc (w := wr) hK (.cells #[.slice (some ⟨bx, ox + 1, none⟩) 1 (m + 2), .slice (some ⟨bx, ox + 3, none⟩) m m] 96)
      go_wp2_with fail
      go_region_held3 (fun w' => True) (trivial)
        (first
          | (go_at_call 119; with_reducible refine hCt.out.mono ?_; rintro e w5 ⟨A5, c5, rfl, hR5, B5⟩)
          | (go_at_call 118; with_reducible refine (hNu.out A5 c5 _ (by exact hR5)).mono ?_; rintro e w6 ⟨A6, n6, c6, rfl, ho6, hz6, B6⟩))
      have hB6 := below_next (below_next hBa B5) B6
      have hN6 := blk_below (blk_below (w := World.drew _) hNa B5) B6
      have hK6 := blk_below (blk_below (w := World.drew _) hKa B5) B6
      have hlK6 : w.heap.size < w6.heap.size := lt_of_heap hK6
      clear hBa hNa hKa hNb hK hbk hB hCt hNu hR5 B5 B6
      by_cases h4 : KN = 4
      · subst h4
        rcases NS with _ | l
        · obtain rfl : SP = none := hpar.out
          clear hpar ho6 hz6
          have zN2 := (blk_facts hN6).1 2
          obtain ⟨zK, yK⟩ := blk_facts hK6
          have zK0 := zK 0
          have zK1 := zK 1
          have zK2 := zK 2
          have zK3 := zK 3
          have zK4 := zK 4
          have zK5 := zK 5
          have yK0 := yK 0
          have yK1 := yK 1
          have yK2 := yK 2
          have yK3 := yK 3
          have yK4 := yK 4
          have yK5 := yK 5
          go_wp2
          refine bodyPost_ret (v := .tuple #[.agg #[.string ⟨#[]⟩, .int .i64 0, .int .i64 0, .int .i64 0, .int .i64 0, .int .i64 0], .bool false]) (by simp [results, Tryz.results88, go_sem, zK]) rfl ⟨⟨⟨#[]⟩, 0, 0, 0, 0, 0⟩, rfl, (fun h => by cases h), ?_⟩
          repeat (with_reducible refine Below.setCell ?_ (by simp) _)
          exact hB6
        by_cases hl : l.length = 4
        · skip
          obtain ⟨a9, b9, c9, t9, rfl⟩ : ∃ a9 b9 c9 t9, l = [a9, b9, c9, t9] := by
            match l, hl with
            | [p0, p1, p2, p3], _ => exact ⟨p0, p1, p2, p3, rfl⟩
          obtain rfl : n6 = 4 := by have h9 := ho6.1; simp only [Option.getD_some] at h9; rw [ints_len] at h9; simp at h9; omega
          obtain rfl : SP = some ⟨y0, a9, 4, b9, c9, t9⟩ := hpar.out.trans sgFin_four
          have hI6 : RI 3 w6 A6 4 [a9, b9, c9, t9] := R1.of_own ho6 (by omega)
          obtain ⟨by_, oy, m0', hA3, hbly, hm0', cy0⟩ := hI6.at_ (k := 0) (by omega)
          subst hA3
          obtain ⟨csy, fzy, hbky, hczy⟩ := hI6.blk (by omega)
          have x0 : w6.cell? ⟨by_, oy, none⟩ = some (.int .i64 a9) := by have h9 := hczy 0 _ rfl; have h8 := cell_of_row w6 by_ (oy + 0) csy _ fzy hbky; rw [h9] at h8; exact h8
          have x1 : w6.cell? ⟨by_, oy + 1, none⟩ = some (.int .i64 b9) := by have h9 := hczy 1 _ rfl; have h8 := cell_of_row w6 by_ (oy + 1) csy _ fzy hbky; rw [h9] at h8; exact h8
          have x2 : w6.cell? ⟨by_, oy + 2, none⟩ = some (.int .i64 c9) := by have h9 := hczy 2 _ rfl; have h8 := cell_of_row w6 by_ (oy + 2) csy _ fzy hbky; rw [h9] at h8; exact h8
          have x3 : w6.cell? ⟨by_, oy + 3, none⟩ = some (.int .i64 t9) := by have h9 := hczy 3 _ rfl; have h8 := cell_of_row w6 by_ (oy + 3) csy _ fzy hbky; rw [h9] at h8; exact h8
          have hny : by_ ≠ b6 := fun e => by subst e; rw [hN6] at hbky; injection hbky with hbky; injection hbky with _ hbky; exact absurd hbky (by decide)
          have hnk : by_ ≠ w.heap.size := fun e => by subst e; rw [hK6] at hbky; injection hbky with hbky; injection hbky with _ hbky; exact absurd hbky (by decide)
          have h93 : csy[oy + 3]? = some (.int .i64 t9) := hczy 3 _ rfl
          clear hpar ho6 hz6 hI6 hczy hm0' cy0 hl
          obtain ⟨zK, yK⟩ := blk_facts hK6
          obtain ⟨zN, yN⟩ := blk_facts hN6
          have zK0 := zK 0
          have yK0 := yK 0
          have zK1 := zK 1
          have yK1 := yK 1
          have zK2 := zK 2
          have yK2 := yK 2
          have zK3 := zK 3
          have yK3 := yK 3
          have zK4 := zK 4
          have yK4 := yK 4
          have zK5 := zK 5
          have yK5 := yK 5
          have zN0 := zN 0
          have yN0 := yN 0
          have zN1 := zN 1
          have yN1 := yN 1
          have zN2 := zN 2
          have yN2 := yN 2
          have zN3 := zN 3
          have yN3 := yN 3
          have zN4 := zN 4
          have yN4 := yN 4
          have zN5 := zN 5
          have yN5 := yN 5
          clear zK yK zN yN
          go_wp2_with fail
          have hne1 : b6 ≠ w.heap.size := by omega
          have hne2 : w.heap.size ≠ b6 := by omega
          go_region
          have hN7a : (((w6.setCell ⟨b6, 1, none⟩ (.int .i64 a9)).setCell ⟨b6, 3, none⟩ (.int .i64 b9)).setCell ⟨b6, 4, none⟩ (.int .i64 c9)).heap[b6]? = some (.cells #[.string y0, .int .i64 a9, .int .i64 4, .int .i64 b9, .int .i64 c9, .int .i64 0] 89 (0, 0)) := by
            have h9 := blk_set (blk_set (blk_set hN6 1 (.int .i64 a9)) 3 (.int .i64 b9)) 4 (.int .i64 c9)
            simpa using h9
          have hN7 : (((w6.setCell ⟨b6, 1, none⟩ (.int .i64 a9)).setCell ⟨b6, 3, none⟩ (.int .i64 b9)).setCell ⟨b6, 4, none⟩ (.int .i64 c9)).drew.heap[b6]? = some (.cells #[.string y0, .int .i64 a9, .int .i64 4, .int .i64 b9, .int .i64 c9, .int .i64 0] 89 (0, 0)) := hN7a
          clear hN7a
          have hK7 : (((w6.setCell ⟨b6, 1, none⟩ (.int .i64 a9)).setCell ⟨b6, 3, none⟩ (.int .i64 b9)).setCell ⟨b6, 4, none⟩ (.int .i64 c9)).drew.heap[w.heap.size]? = some (.cells #[.string ⟨#[]⟩, .int .i64 0, .int .i64 0, .int .i64 0, .int .i64 0, .int .i64 0] 89 (0, 0)) := blk_other (blk_other (blk_other hK6 (p := ⟨b6, 1, none⟩) hne2 (.int .i64 a9)) (p := ⟨b6, 3, none⟩) hne2 (.int .i64 b9)) (p := ⟨b6, 4, none⟩) hne2 (.int .i64 c9)
          have hB7 : Below w.heap.size w (((w6.setCell ⟨b6, 1, none⟩ (.int .i64 a9)).setCell ⟨b6, 3, none⟩ (.int .i64 b9)).setCell ⟨b6, 4, none⟩ (.int .i64 c9)).drew := below_drewN (Below.setCell (p := ⟨b6, 4, none⟩) (Below.setCell (p := ⟨b6, 3, none⟩) (Below.setCell (p := ⟨b6, 1, none⟩) hB6 (Nat.le_of_lt hlK) (.int .i64 a9)) (Nat.le_of_lt hlK) (.int .i64 b9)) (Nat.le_of_lt hlK) (.int .i64 c9)) 1
          have x7 : (((w6.setCell ⟨b6, 1, none⟩ (.int .i64 a9)).setCell ⟨b6, 3, none⟩ (.int .i64 b9)).setCell ⟨b6, 4, none⟩ (.int .i64 c9)).drew.cell? ⟨by_, oy + 3, none⟩ = some (.int .i64 t9) := by
            have h8 : (((w6.setCell ⟨b6, 1, none⟩ (.int .i64 a9)).setCell ⟨b6, 3, none⟩ (.int .i64 b9)).setCell ⟨b6, 4, none⟩ (.int .i64 c9)).drew.heap[by_]? = some (.cells csy 3 fzy) := blk_other (blk_other (blk_other hbky (p := ⟨b6, 1, none⟩) hny (.int .i64 a9)) (p := ⟨b6, 3, none⟩) hny (.int .i64 b9)) (p := ⟨b6, 4, none⟩) hny (.int .i64 c9)
            have h7 := cell_of_row _ by_ (oy + 3) csy _ fzy h8
            rw [h93] at h7; exact h7
          generalize (((w6.setCell ⟨b6, 1, none⟩ (.int .i64 a9)).setCell ⟨b6, 3, none⟩ (.int .i64 b9)).setCell ⟨b6, 4, none⟩ (.int .i64 c9)).drew = w7 at *
          clear zK0 yK0 zK1 yK1 zK2 yK2 zK3 yK3 zK4 yK4 zK5 yK5 zN0 yN0 zN1 yN1 zN2 yN2 zN3 yN3 zN4 yN4 zN5 yN5 x0 x1 x2 x3 hN6 hK6 hB6 hbky h93
          obtain ⟨zK, yK⟩ := blk_facts hK7
          obtain ⟨zN, yN⟩ := blk_facts hN7
          have zK0 := zK 0
          have yK0 := yK 0
          have zK1 := zK 1
          have yK1 := yK 1
          have zK2 := zK 2
          have yK2 := yK 2
          have zK3 := zK 3
          have yK3 := yK 3
          have zK4 := zK 4
          have yK4 := yK 4
          have zK5 := zK 5
          have yK5 := yK 5
          have zN0 := zN 0
          have yN0 := yN 0
          have zN1 := zN 1
          have yN1 := yN 1
          have zN2 := zN 2
          have yN2 := yN 2
          have zN3 := zN 3
          have yN3 := yN 3
          have zN4 := zN 4
          have yN4 := yN 4
          have zN5 := zN 5
          have yN5 := yN 5
          go_wp2
          refine bodyPost_ret (v := .tuple #[.agg #[.string y0, .int .i64 a9, .int .i64 4, .int .i64 b9, .int .i64 c9, .int .i64 t9], .bool true]) (by simp [results, Tryz.results88, go_sem, zK]) rfl ⟨⟨y0, a9, 4, b9, c9, t9⟩, rfl, (fun _ => rfl), ?_⟩
          repeat (with_reducible refine Below.setCell ?_ (by first | (simp; done) | (simp; omega)) _)
          exact hB7
        · have hl6 : n6 = l.length := by have h9 := ho6.1; simp only [Option.getD_some] at h9; rw [ints_len] at h9; omega
          obtain rfl : SP = none := hpar.out.trans (sgFin_len (by rw [if_pos rfl]; omega))
          have e6 : ((n6 : Int) != 4) = true := by rw [bne_iff_ne]; omega
          have e7 : ¬ (n6 : Int) = 4 := by omega
          clear hpar ho6 hz6
          have zN2 := (blk_facts hN6).1 2
          obtain ⟨zK, yK⟩ := blk_facts hK6
          have zK0 := zK 0
          have zK1 := zK 1
          have zK2 := zK 2
          have zK3 := zK 3
          have zK4 := zK 4
          have zK5 := zK 5
          have yK0 := yK 0
          have yK1 := yK 1
          have yK2 := yK 2
          have yK3 := yK 3
          have yK4 := yK 4
          have yK5 := yK 5
          go_wp2
          refine bodyPost_ret (v := .tuple #[.agg #[.string ⟨#[]⟩, .int .i64 0, .int .i64 0, .int .i64 0, .int .i64 0, .int .i64 0], .bool false]) (by simp [results, Tryz.results88, go_sem, zK]) rfl ⟨⟨⟨#[]⟩, 0, 0, 0, 0, 0⟩, rfl, (fun h => by cases h), ?_⟩
          repeat (with_reducible refine Below.setCell ?_ (by simp) _)
          exact hB6
      · have e4 : (KN == 4) = false := beq_eq_false_iff_ne.2 h4
        by_cases h0 : KN = 0
        · subst h0
          obtain rfl : SP = none := hpar.out.trans (sgFin_zero (by decide))
          clear hpar hz6 h4 e4
          cases hNS : NS.isSome
          · skip
            have zN2 := (blk_facts hN6).1 2
            obtain ⟨zK, yK⟩ := blk_facts hK6
            have zK0 := zK 0
            have zK1 := zK 1
            have zK2 := zK 2
            have zK3 := zK 3
            have zK4 := zK 4
            have zK5 := zK 5
            have yK0 := yK 0
            have yK1 := yK 1
            have yK2 := yK 2
            have yK3 := yK 3
            have yK4 := yK 4
            have yK5 := yK 5
            go_wp2
            refine bodyPost_ret (v := .tuple #[.agg #[.string ⟨#[]⟩, .int .i64 0, .int .i64 0, .int .i64 0, .int .i64 0, .int .i64 0], .bool false]) (by simp [results, Tryz.results88, go_sem, zK]) rfl ⟨⟨⟨#[]⟩, 0, 0, 0, 0, 0⟩, rfl, (fun h => by cases h), ?_⟩
            repeat (with_reducible refine Below.setCell ?_ (by simp) _)
            exact hB6
          · skip
            have zN2 := (blk_facts hN6).1 2
            obtain ⟨zK, yK⟩ := blk_facts hK6
            have zK0 := zK 0
            have zK1 := zK 1
            have zK2 := zK 2
            have zK3 := zK 3
            have zK4 := zK 4
            have zK5 := zK 5
            have yK0 := yK 0
            have yK1 := yK 1
            have yK2 := yK 2
            have yK3 := yK 3
            have yK4 := yK 4
            have yK5 := yK 5
            go_wp2
            refine bodyPost_ret (v := .tuple #[.agg #[.string ⟨#[]⟩, .int .i64 0, .int .i64 0, .int .i64 0, .int .i64 0, .int .i64 0], .bool false]) (by simp [results, Tryz.results88, go_sem, zK]) rfl ⟨⟨⟨#[]⟩, 0, 0, 0, 0, 0⟩, rfl, (fun h => by cases h), ?_⟩
            repeat (with_reducible refine Below.setCell ?_ (by simp) _)
            exact hB6
        have e0 : (KN == 0) = false := beq_eq_false_iff_ne.2 h0
        rcases NS with _ | l
        · obtain rfl : SP = none := hpar.out
          clear hpar ho6 hz6
          have zN2 := (blk_facts hN6).1 2
          obtain ⟨zK, yK⟩ := blk_facts hK6
          have zK0 := zK 0
          have zK1 := zK 1
          have zK2 := zK 2
          have zK3 := zK 3
          have zK4 := zK 4
          have zK5 := zK 5
          have yK0 := yK 0
          have yK1 := yK 1
          have yK2 := yK 2
          have yK3 := yK 3
          have yK4 := yK 4
          have yK5 := yK 5
          go_wp2
          refine bodyPost_ret (v := .tuple #[.agg #[.string ⟨#[]⟩, .int .i64 0, .int .i64 0, .int .i64 0, .int .i64 0, .int .i64 0], .bool false]) (by simp [results, Tryz.results88, go_sem, zK]) rfl ⟨⟨⟨#[]⟩, 0, 0, 0, 0, 0⟩, rfl, (fun h => by cases h), ?_⟩
          repeat (with_reducible refine Below.setCell ?_ (by simp) _)
          exact hB6
        by_cases hl : l.length = 3
        · skip
          obtain ⟨a9, b9, c9, rfl⟩ : ∃ a9 b9 c9, l = [a9, b9, c9] := by
            match l, hl with
            | [p0, p1, p2], _ => exact ⟨p0, p1, p2, rfl⟩
          obtain rfl : n6 = 3 := by have h9 := ho6.1; simp only [Option.getD_some] at h9; rw [ints_len] at h9; simp at h9; omega
          obtain rfl : SP = some ⟨y0, a9, KN, b9, c9, 0⟩ := hpar.out.trans (sgFin_three (by omega) h4)
          have hI6 : RI 3 w6 A6 3 [a9, b9, c9] := R1.of_own ho6 (by omega)
          obtain ⟨by_, oy, m0', hA3, hbly, hm0', cy0⟩ := hI6.at_ (k := 0) (by omega)
          subst hA3
          obtain ⟨csy, fzy, hbky, hczy⟩ := hI6.blk (by omega)
          have x0 : w6.cell? ⟨by_, oy, none⟩ = some (.int .i64 a9) := by have h9 := hczy 0 _ rfl; have h8 := cell_of_row w6 by_ (oy + 0) csy _ fzy hbky; rw [h9] at h8; exact h8
          have x1 : w6.cell? ⟨by_, oy + 1, none⟩ = some (.int .i64 b9) := by have h9 := hczy 1 _ rfl; have h8 := cell_of_row w6 by_ (oy + 1) csy _ fzy hbky; rw [h9] at h8; exact h8
          have x2 : w6.cell? ⟨by_, oy + 2, none⟩ = some (.int .i64 c9) := by have h9 := hczy 2 _ rfl; have h8 := cell_of_row w6 by_ (oy + 2) csy _ fzy hbky; rw [h9] at h8; exact h8
          have hny : by_ ≠ b6 := fun e => by subst e; rw [hN6] at hbky; injection hbky with hbky; injection hbky with _ hbky; exact absurd hbky (by decide)
          have hnk : by_ ≠ w.heap.size := fun e => by subst e; rw [hK6] at hbky; injection hbky with hbky; injection hbky with _ hbky; exact absurd hbky (by decide)
          clear hpar ho6 hz6 hI6 hczy hbky hm0' cy0 hl
          obtain ⟨zK, yK⟩ := blk_facts hK6
          obtain ⟨zN, yN⟩ := blk_facts hN6
          have zK0 := zK 0
          have yK0 := yK 0
          have zK1 := zK 1
          have yK1 := yK 1
          have zK2 := zK 2
          have yK2 := yK 2
          have zK3 := zK 3
          have yK3 := yK 3
          have zK4 := zK 4
          have yK4 := yK 4
          have zK5 := zK 5
          have yK5 := yK 5
          have zN0 := zN 0
          have yN0 := yN 0
          have zN1 := zN 1
          have yN1 := yN 1
          have zN2 := zN 2
          have yN2 := yN 2
          have zN3 := zN 3
          have yN3 := yN 3
          have zN4 := zN 4
          have yN4 := yN 4
          have zN5 := zN 5
          have yN5 := yN 5
          clear zK yK zN yN
          go_wp2_with fail
          have hne1 : b6 ≠ w.heap.size := by omega
          have hne2 : w.heap.size ≠ b6 := by omega
          go_region
          have hN7a : (((w6.setCell ⟨b6, 1, none⟩ (.int .i64 a9)).setCell ⟨b6, 3, none⟩ (.int .i64 b9)).setCell ⟨b6, 4, none⟩ (.int .i64 c9)).heap[b6]? = some (.cells #[.string y0, .int .i64 a9, .int .i64 KN, .int .i64 b9, .int .i64 c9, .int .i64 0] 89 (0, 0)) := by
            have h9 := blk_set (blk_set (blk_set hN6 1 (.int .i64 a9)) 3 (.int .i64 b9)) 4 (.int .i64 c9)
            simpa using h9
          have hN7 : (((w6.setCell ⟨b6, 1, none⟩ (.int .i64 a9)).setCell ⟨b6, 3, none⟩ (.int .i64 b9)).setCell ⟨b6, 4, none⟩ (.int .i64 c9)).drew.heap[b6]? = some (.cells #[.string y0, .int .i64 a9, .int .i64 KN, .int .i64 b9, .int .i64 c9, .int .i64 0] 89 (0, 0)) := hN7a
          clear hN7a
          have hK7 : (((w6.setCell ⟨b6, 1, none⟩ (.int .i64 a9)).setCell ⟨b6, 3, none⟩ (.int .i64 b9)).setCell ⟨b6, 4, none⟩ (.int .i64 c9)).drew.heap[w.heap.size]? = some (.cells #[.string ⟨#[]⟩, .int .i64 0, .int .i64 0, .int .i64 0, .int .i64 0, .int .i64 0] 89 (0, 0)) := blk_other (blk_other (blk_other hK6 (p := ⟨b6, 1, none⟩) hne2 (.int .i64 a9)) (p := ⟨b6, 3, none⟩) hne2 (.int .i64 b9)) (p := ⟨b6, 4, none⟩) hne2 (.int .i64 c9)
          have hB7 : Below w.heap.size w (((w6.setCell ⟨b6, 1, none⟩ (.int .i64 a9)).setCell ⟨b6, 3, none⟩ (.int .i64 b9)).setCell ⟨b6, 4, none⟩ (.int .i64 c9)).drew := below_drewN (Below.setCell (p := ⟨b6, 4, none⟩) (Below.setCell (p := ⟨b6, 3, none⟩) (Below.setCell (p := ⟨b6, 1, none⟩) hB6 (Nat.le_of_lt hlK) (.int .i64 a9)) (Nat.le_of_lt hlK) (.int .i64 b9)) (Nat.le_of_lt hlK) (.int .i64 c9)) 1
          generalize (((w6.setCell ⟨b6, 1, none⟩ (.int .i64 a9)).setCell ⟨b6, 3, none⟩ (.int .i64 b9)).setCell ⟨b6, 4, none⟩ (.int .i64 c9)).drew = w7 at *
          clear zK0 yK0 zK1 yK1 zK2 yK2 zK3 yK3 zK4 yK4 zK5 yK5 zN0 yN0 zN1 yN1 zN2 yN2 zN3 yN3 zN4 yN4 zN5 yN5 x0 x1 x2 hN6 hK6 hB6
          obtain ⟨zK, yK⟩ := blk_facts hK7
          obtain ⟨zN, yN⟩ := blk_facts hN7
          have zK0 := zK 0
          have yK0 := yK 0
          have zK1 := zK 1
          have yK1 := yK 1
          have zK2 := zK 2
          have yK2 := yK 2
          have zK3 := zK 3
          have yK3 := yK 3
          have zK4 := zK 4
          have yK4 := yK 4
          have zK5 := zK 5
          have yK5 := yK 5
          have zN0 := zN 0
          have yN0 := yN 0
          have zN1 := zN 1
          have yN1 := yN 1
          have zN2 := zN 2
          have yN2 := yN 2
          have zN3 := zN 3
          have yN3 := yN 3
          have zN4 := zN 4
          have yN4 := yN 4
          have zN5 := zN 5
          have yN5 := yN 5
          go_wp2
          refine bodyPost_ret (v := .tuple #[.agg #[.string y0, .int .i64 a9, .int .i64 KN, .int .i64 b9, .int .i64 c9, .int .i64 0], .bool true]) (by simp [results, Tryz.results88, go_sem, zK]) rfl ⟨⟨y0, a9, KN, b9, c9, 0⟩, rfl, (fun _ => rfl), ?_⟩
          repeat (with_reducible refine Below.setCell ?_ (by first | (simp; done) | (simp; omega)) _)
          exact hB7
        · have hl6 : n6 = l.length := by have h9 := ho6.1; simp only [Option.getD_some] at h9; rw [ints_len] at h9; omega
          obtain rfl : SP = none := hpar.out.trans (sgFin_len (by rw [if_neg h4]; omega))
          have e6 : ((n6 : Int) != 3) = true := by rw [bne_iff_ne]; omega
          have e7 : ¬ (n6 : Int) = 3 := by omega
          clear hpar ho6 hz6
          have zN2 := (blk_facts hN6).1 2
          obtain ⟨zK, yK⟩ := blk_facts hK6
          have zK0 := zK 0
          have zK1 := zK 1
          have zK2 := zK 2
          have zK3 := zK 3
          have zK4 := zK 4
          have zK5 := zK 5
          have yK0 := yK 0
          have yK1 := yK 1
          have yK2 := yK 2
          have yK3 := yK 3
          have yK4 := yK 4
          have yK5 := yK 5
          go_wp2
          refine bodyPost_ret (v := .tuple #[.agg #[.string ⟨#[]⟩, .int .i64 0, .int .i64 0, .int .i64 0, .int .i64 0, .int .i64 0], .bool false]) (by simp [results, Tryz.results88, go_sem, zK]) rfl ⟨⟨⟨#[]⟩, 0, 0, 0, 0, 0⟩, rfl, (fun h => by cases h), ?_⟩
          repeat (with_reducible refine Below.setCell ?_ (by simp) _)
          exact hB6
set_option maxHeartbeats 6400000 in
set_option maxRecDepth 100000 in
theorem sgRead_cl (w : World) (b N : Nat) (hN : N ≤ 900000) (hb : w.heap.size ≤ b) (hM : Mx w) : TakeL N 87 #[.pointer (some ⟨b, 0, none⟩)] (fun a => (sgParse a).isSome) (SgI w b) := by
  refine ⟨enters_of Tryz.func87 (by kernel_rfl) rfl, fun L s W hI hL hs => ?_, fun L W q h => h.below (below_drewN (Below.refl _ _) q), fun L W h => h.mx⟩
  have hIb := Lib.hid (fun W' (B : Below W.heap.size W W') => hI.below B)
  have hMxx := Lib.hid (fun W' (B : Below b w W') => hM.below (B.mono hb))
  have hRs := Lib.hid (readSig_c s W (by omega) hI.mx)
  have hGd := Lib.hid (fun (W' : World) (u : Value) (acc : List Sg) (x : Sg) h1 h2 h4 h5 h6 hm hB => TkI.good (T := 78) (Te := 89) (sz := 6) (enc := sgE) (parse := sgParse) (w := w) (b := b) (L := L) (a := s.data.toList) (W := W') (u := u) (acc := acc) (x := x) h1 h2 h4 h5 h6 hm hB)
  show Calls Tryz.prog 87 #[.string s, .pointer (some ⟨b, 0, none⟩)] W fun e w' => e = .returned (.bool (sgParse s.data.toList).isSome) ∧ SgI w b (L ++ [s.data.toList]) w'
  obtain ⟨SP, hSP⟩ : ∃ SP, sgParse s.data.toList = SP := ⟨_, rfl⟩
  rw [hSP] at hRs hGd ⊢
  clear hI hSP
  go_enter Tryz.func87, Tryz.ntmps87
  go_wp2_with fail
  refine hRs.out.mono ?_; rintro e w1 ⟨x, rfl, hx, B1⟩
  have I1 := hIb.out _ B1
  have hbel := I1.bel
  obtain ⟨u, acc, hbx, hoA, haL, hfA⟩ := I1.ex
  have hfA' := Lib.hid hfA
  have hx' := Lib.hid hx
  have haN : acc.length ≤ 1000000 := by omega
  clear hfA hx I1 hRs hIb
  obtain ⟨dev, no, kd, tm, ln, ti⟩ := x
  dsimp only [sgE] at *
  have lb := lt_of_heap hbx
  have hbx2 := blk_alloc hbx (.cells #[.string dev, .int .i64 no, .int .i64 kd, .int .i64 tm, .int .i64 ln, .int .i64 ti] 89)
  have hoA2 := hoA.alloc (.cells #[.string dev, .int .i64 no, .int .i64 kd, .int .i64 tm, .int .i64 ln, .int .i64 ti] 89)
  have hB2 := hbel.alloc (Nat.le_of_lt lb) (.cells #[.string dev, .int .i64 no, .int .i64 kd, .int .i64 tm, .int .i64 ln, .int .i64 ti] 89)
  have hn2 := heap_alloc_new w1 (.cells #[.string dev, .int .i64 no, .int .i64 kd, .int .i64 tm, .int .i64 ln, .int .i64 ti] 89)
  have hz2 : b + 1 ≤ (w1.alloc (.cells #[.string dev, .int .i64 no, .int .i64 kd, .int .i64 tm, .int .i64 ln, .int .i64 ti] 89)).heap.size := lt_of_heap hbx2
  have cb := (blk_facts hbx2).1 0
  clear hbx hoA hbel
  go_wp2_with (at_builtin; refine wpList_app rfl (.tmp 11) (.tmp 13) 78 rfl Tryz.underlying78 info_signal rfl (by omega) (by omega) hoA2 rfl rfl (by first | rfl | (simp; done)) rfl (by simp [Value.oneCell']) (by omega) hz2 ?_; intro v4 w4 ho4 hg4; obtain ⟨A4, cp4, rfl⟩ := own_shape ho4; have hb4 := blk_grown hbx2 hg4 (fun e => by have := own_row_lt hoA2 b e.symm; omega); have c4 := (blk_facts hb4).1 0; have f4 := (blk_facts hb4).2 0)
  have hB4 := hB2.grown hg4 (Nat.le_of_lt (Nat.lt_of_succ_le hz2)) (fun k hk => by have := own_row_lt hoA2 k hk; omega)
  have hB5 := hB4.setCell (p := ⟨b, 0, none⟩) (Nat.le_refl _) (.slice A4 (acc.length + 1) cp4)
  have hFin := Lib.hid (hGd.out _ (.slice A4 (acc.length + 1) cp4) acc ⟨dev, no, kd, tm, ln, ti⟩ (by have h9 := blk_set hb4 0 (.slice A4 (acc.length + 1) cp4); simpa using h9) (own_setT (o := 0) ho4 (Nat.lt_succ_self b) (.slice A4 (acc.length + 1) cp4)) haL hfA'.out hx'.out (hMxx.out _ hB5) hB5)
  clear hGd hB4 hB5 hb4 ho4 hg4 c4 f4 cb
  generalize w4.setCell ⟨b, 0, none⟩ (.slice A4 (acc.length + 1) cp4) = w8 at *
  go_wp2
  go_ret
  exact ⟨rfl, hFin.out⟩
set_option maxHeartbeats 6400000 in
set_option maxRecDepth 100000 in
theorem readSg_c (s : ByteArray) (w : World) (hs : s.size ≤ 200000) (hM : Mx w) : Calls Tryz.prog 39 #[.string s] w (RetRf RSg sigErr sgParse s.data.toList w) := by
  have hCF := Lib.hid (fun A n c l W h => checkSignals_c A n c l W h)
  have hL1 := Lib.hid (wordsLines_c (sgRead_cl w w.heap.size 900000 (by omega) (Nat.le_refl _) hM) s (w.alloc (.cells #[.slice none 0 0] 78)) (TkI.start hM) (by omega) (by omega))
  have hAll := Lib.hid (lnR_all (fun a => (sgParse a).isSome) s.data.toList.length s.data.toList (Nat.le_refl _))
  have hIx := Lib.hid (lnR_idx (fun a => (sgParse a).isSome) s.data.toList.length s.data.toList (Nat.le_refl _)).2
  have hzs := Lib.hid (Lib.size_eq s)
  have hR2 := Lib.hid (fun e w' (B : Below w.heap.size w w') (h2 : (lnR (fun a => (sgParse a).isSome) s.data.toList).2.2 = false) (he : e = .returned (.tuple #[.slice none 0 0, .int .i64 (lnR (fun a => (sgParse a).isSome) s.data.toList).2.1, .int .i64 9])) => show RetRf RSg sigErr sgParse s.data.toList w e w' from ⟨B, .inl ⟨h2, he⟩⟩)
  have hR3 := Lib.hid (fun e w' (B : Below w.heap.size w w') (h2 : (lnR (fun a => (sgParse a).isSome) s.data.toList).2.2 = true) (h4 : sigErr ((lnR (fun a => (sgParse a).isSome) s.data.toList).1.filterMap sgParse) ≠ 0) (he : e = .returned (.tuple #[.slice none 0 0, .int .i64 0, .int .i64 (sigErr ((lnR (fun a => (sgParse a).isSome) s.data.toList).1.filterMap sgParse))])) => show RetRf RSg sigErr sgParse s.data.toList w e w' from ⟨B, .inr ⟨h2, .inl ⟨h4, he⟩⟩⟩)
  have hR4 := Lib.hid (fun e w' (A : Option Addr) (n c : Nat) (B : Below w.heap.size w w') (h2 : (lnR (fun a => (sgParse a).isSome) s.data.toList).2.2 = true) (h4 : sigErr ((lnR (fun a => (sgParse a).isSome) s.data.toList).1.filterMap sgParse) = 0) (he : e = .returned (.tuple #[.slice A n c, .int .i64 0, .int .i64 0])) (h5 : RSg w' A n ((lnR (fun a => (sgParse a).isSome) s.data.toList).1.filterMap sgParse)) => show RetRf RSg sigErr sgParse s.data.toList w e w' from ⟨B, .inr ⟨h2, .inr ⟨h4, A, n, c, he, h5⟩⟩⟩)
  generalize RetRf RSg sigErr sgParse s.data.toList w = RD at *
  unfold RetLn at hL1
  generalize lnR (fun a => (sgParse a).isSome) s.data.toList = LN at *
  generalize sigErr = FE at *
  have hs3 : ¬ (200000 : Int) < s.size := by omega
  go_enter Tryz.func39, Tryz.ntmps39
  go_wp2_with fail
  refine hL1.out.mono ?_; rintro e w3 ⟨rfl, hI⟩
  have hB3' := hI.bel
  clear hL1
  cases hok : LN.2.2
  · have hR2' := Lib.hid (fun e he => hR2.out e w3 hB3' hok he)
    clear hok hR2 hR3 hR4 hI
    generalize LN.2.1 = IX at *
    go_wp2
    go_ret3
    exact hR2'.out _ rfl
  · have hcnt : LN.1.length ≤ 1000000 := by have := hIx.out; have := hzs.out; omega
    obtain ⟨A, n, c, acc, hbx, hrs, hdat⟩ := hI.out sgE_len hcnt
    obtain rfl := hdat (fun a ha => ((hAll.out hok).2 a ha).1)
    have hR3' := Lib.hid (fun e w' B h4 he => hR3.out e w' B hok h4 he)
    have hR4' := Lib.hid (fun e w' B h4 he h5 => hR4.out e w' A n c B hok h4 he h5)
    have y0 := (blk_facts hbx).1 0
    have hCf := Lib.hid (hCF.out A n c _ w3 hrs)
    have hbx' := Lib.hid (fun W (B : Below w3.heap.size w3 W) => show W.cell? ⟨w.heap.size, 0, none⟩ = some (.slice A n c) from (blk_facts (blk_below hbx B)).1 0)
    have hrs' := Lib.hid (fun W (B : Below w3.heap.size w3 W) => hrs.below B)
    generalize LN.1.filterMap sgParse = acc at *
    obtain ⟨E, hE⟩ : ∃ E, FE acc = E := ⟨_, rfl⟩
    rw [hE] at hCf hR3' hR4'
    clear hok hR2 hR3 hR4 hI hAll hIx hcnt hdat hbx hrs hE hCF
    go_wp2_with fail
    refine hCf.out.mono ?_; rintro e w4 ⟨rfl, B4⟩
    have hB4 := below_next hB3' B4
    have y0' := hbx'.out _ B4
    have hrs4 := hrs'.out _ B4
    clear hCf y0 hbx' hrs' B4
    by_cases h4 : E = 0
    · subst h4
      have hFin := Lib.hid (fun e he => hR4'.out e w4 hB4 (by first | rfl | trivial) he hrs4)
      clear hR3' hR4' hrs4
      go_wp2
      go_ret3
      exact hFin.out _ rfl
    · have hd : (E != 0) = true := by simpa using h4
      have hFin := Lib.hid (fun e he => hR3'.out e w4 hB4 h4 he)
      clear hR3' hR4' h4 hrs4
      go_wp2
      go_ret3
      exact hFin.out _ rfl
end Go.Proofs.YtnkhdofcmanipaaGreatDoor
