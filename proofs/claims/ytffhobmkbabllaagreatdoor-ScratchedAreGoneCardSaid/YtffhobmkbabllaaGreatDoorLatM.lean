import Derived.Test.YtffhobmkbabllaaGreatDoorSetSp
import Derived.BigRegion
import Derived.Test.YtffhobmkbabllaaGreatDoorDrwP
/- heat.Late. -/
namespace Go.Proofs.YtffhobmkbabllaaGreatDoor
open Go.RowKit Go.Shelf Go.Lib Go.Sort
set_option linter.unusedVariables false

def lateErr (p : Pl) (l : List Sp) (x : Sd) : Int := if startsErr p l ≠ 0 then startsErr p l else if seedErr [x] ≠ 0 then seedErr [x] else if Lib.containsS (l.map Sp.who) x.who = true then 6 else if 300 ≤ l.length then 2 else 0
def lateF (EL : List Sp) (who : ByteArray) (h : Int) (LV : List Int) : List Sp := match LV.find? (fun ln => decide ((⟨⟨#[]⟩, h, ln⟩ : Sp) ∈ EL)) with
  | some ln => [⟨who, h, ln⟩]
  | none => []
theorem lateF_at (EL : List Sp) (who : ByteArray) (h : Int) {LV : List Int} {k : Nat} {ln : Int} (hx : LV[k]? = some ln) : lateF EL who h (LV.drop k) = if decide ((⟨⟨#[]⟩, h, ln⟩ : Sp) ∈ EL) = true then [⟨who, h, ln⟩] else lateF EL who h (LV.drop (k + 1)) := by
  rw [drop_at hx]
  unfold lateF
  rw [List.find?_cons]
  by_cases hc : decide ((⟨⟨#[]⟩, h, ln⟩ : Sp) ∈ EL) = true
  · rw [if_pos hc, hc]
  · rw [if_neg hc, Bool.eq_false_iff.2 hc]
theorem sameLt_c (x : Sp) (sd : Sd) (b2 : Nat) (W : World) (hb : W.heap[b2]? = some (.cells #[.string sd.who, .int .i64 sd.time] 40 (0, 0))) :
    Calls Tryz.prog 114 (#[.agg (spE x).toArray] ++ #[.pointer (some ⟨b2, 0, none⟩)]) W fun e w' => e = .returned (.bool (decide (x.who = sd.who))) ∧ Below W.heap.size W w' := by
  obtain ⟨who, heat, lane⟩ := x
  obtain ⟨s, tm⟩ := sd
  dsimp only [spE] at *
  have z0 := (blk_facts (heap_alloc_new W (.cells #[.string who, .int .i64 heat, .int .i64 lane] 90))).1 0
  have zs := (blk_facts (blk_alloc hb (.cells #[.string who, .int .i64 heat, .int .i64 lane] 90))).1 0
  have hB := below_new W (.cells #[.string who, .int .i64 heat, .int .i64 lane] 90)
  have lb := lt_of_heap hb
  clear hb
  by_cases h : who = s
  · subst h
    go_enter Tryz.func114, Tryz.ntmps114
    go_wp2
    go_ret
    exact ⟨by simp, hB⟩
  · have hn := str_ne h
    have h' := Lib.hid h
    clear h
    go_enter Tryz.func114, Tryz.ntmps114
    go_wp2
    go_ret
    exact ⟨by simp [hn, h'.out], hB⟩
theorem sortStartsF_c (l : List Sp) (w : World) (base n : Nat) (u : Value) (hown : w.ownsRow base 90 3 u n (l.flatMap spE)) (hn : n ≤ 1000) :
    Calls Tryz.prog 116 #[u] w fun e w' => e = .returned (.tuple #[]) ∧ ∃ l', w'.ownsRow base 90 3 u n (l'.flatMap spE) ∧ SpSortF l l' ∧ w.grownBy w' u.ownBlock := by
  have hSF := Lib.hid (sortFSp_c 186 (enters_of Tryz.func186 (by kernel_rfl) rfl) (fun x y W => compareStarts_c x y W) l w base n u hown hn)
  obtain ⟨A, c, rfl⟩ := own_shape hown
  clear hown
  go_enter Tryz.func116, Tryz.ntmps116
  go_wp2_with fail
  refine hSF.out.mono ?_; rintro e w' ⟨rfl, l', h1, h2, h3⟩
  go_wp2
  go_end0
  exact ⟨rfl, l', h1, h2, h3⟩
/-- the row of a seed alone -/
theorem oneSeed (w : World) (sd : Sd) : RSd (w.alloc (.cells #[.string sd.who, .int .i64 sd.time] 40)) (some ⟨w.heap.size, 0, none⟩) 1 [sd] := by
  refine ⟨rfl, by omega, fun _ => ⟨w.heap.size, 0, _, _, rfl, heap_alloc_new w _, fun k x hx q v hv => ?_⟩⟩
  cases k with
  | zero =>
    obtain rfl : sd = x := by simpa using hx
    simp only [sdE] at hv
    rcases q with _ | _ | q
    · simpa using hv
    · simpa using hv
    · simp at hv
  | succ k => simp at hx
def LateQ (p : Pl) (l : List Sp) (sd : Sd) (L : List Sp) (b : Bool) : Prop := if lateErr p l sd ≠ 0 then L = [] ∧ b = false else match emptyL p l with
  | [] => L = l ∧ b = false
  | f :: _ => b = true ∧ SpSortF (l ++ lateF (emptyL p l) sd.who f.heat (laneV p.lo p.hi)) L
structure LtK (w : World) (sd : Sd) (p : Pl) (base : Nat) (u : Value) (L EL : List Sp) (Af : Option Addr) (nf : Nat) (wx : World) : Prop where
  o : wx.ownsRow base 90 3 u L.length (L.flatMap spE)
  xb : wx.heap[w.heap.size + 1]? = some (.cells #[.string sd.who, .int .i64 sd.time] 40 (0, 0))
  pb : PoolB w.heap.size p wx
  f : RSp wx Af nf EL
  bel : Below w.heap.size w wx
  l1 : w.heap.size + 2 ≤ base
  z : base ≤ wx.heap.size
theorem LtK.below {w wx w' : World} {sd : Sd} {p : Pl} {base : Nat} {u : Value} {L EL : List Sp} {Af : Option Addr} {nf : Nat} (h : LtK w sd p base u L EL Af nf wx) (B : Below wx.heap.size wx w') : LtK w sd p base u L EL Af nf w' :=
  ⟨own_below h.o B, blk_below h.xb B, h.pb.keep _ _ B, h.f.below B, below_next h.bel B, h.l1, Nat.le_trans h.z B.size⟩
set_option maxHeartbeats 6400000 in
set_option maxRecDepth 100000 in
theorem late_c (p : Pl) (hpb : PlBd p) (A : Option Addr) (n c : Nat) (l : List Sp) (sd : Sd) (w : World) (h : RSp w A n l) (hn : n ≤ 400) :
    Calls Tryz.prog 47 #[p.val, .slice A n c, .agg #[.string sd.who, .int .i64 sd.time]] w fun e w' => ∃ A' n' c' b L, e = .returned (.tuple #[.slice A' n' c', .bool b, .int .i64 (lateErr p l sd)]) ∧ RSp w' A' n' L ∧ LateQ p l sd L b ∧ n' ≤ 1000 ∧ Below w.heap.size w w' := by
  have hR := Lib.hid (fun W B => h.below (w' := W) B)
  have hl := Lib.hid h.len
  have hB1 : Below w.heap.size w ((w.alloc (.cells p.cells 72)).alloc (.cells #[.string sd.who, .int .i64 sd.time] 40)) := below_next (below_new w (.cells p.cells 72)) (below_new _ (.cells #[.string sd.who, .int .i64 sd.time] 40))
  have hx0 := heap_alloc_new (w.alloc (.cells p.cells 72)) (.cells #[.string sd.who, .int .i64 sd.time] 40)
  rw [alloc_size] at hx0
  have hp0 : PoolB w.heap.size p ((w.alloc (.cells p.cells 72)).alloc (.cells #[.string sd.who, .int .i64 sd.time] 40)) := blk_alloc (heap_alloc_new w _) _
  have hz1 : w.heap.size + 2 ≤ ((w.alloc (.cells p.cells 72)).alloc (.cells #[.string sd.who, .int .i64 sd.time] 40)).heap.size := by simp
  have hCS := Lib.hid (checkStarts_c p hpb A n c l _ (h.below hB1))
  have hCd := Lib.hid (fun W => checkSeeds_c (some ⟨W.heap.size, 0, none⟩) 1 1 [sd] (W.alloc (.cells #[.string sd.who, .int .i64 sd.time] 40)) (oneSeed W sd))
  have hHs := Lib.hid (fun W B (hb : W.heap[w.heap.size + 1]? = some (.cells #[.string sd.who, .int .i64 sd.time] 40 (0, 0))) => hasSp_c 114 (enters_of Tryz.func114 (by kernel_rfl) rfl) #[.pointer (some ⟨w.heap.size + 1, 0, none⟩)] (fun x => decide (x.who = sd.who)) A n c l W (h.below (w' := W) B) (fun x _ W2 B2 => sameLt_c x sd (w.heap.size + 1) W2 (blk_below hb B2)))
  rw [any_who] at hHs
  have hEm := Lib.hid (fun W B => empty_c p hpb A n c l W (h.below (w' := W) B))
  have hCl := Lib.hid (fun W B => cloneSp_c A n c l W (h.below (w' := W) B) (by omega))
  have hE : lateErr p l sd = (if startsErr p l ≠ 0 then startsErr p l else if seedErr [sd] ≠ 0 then seedErr [sd] else if Lib.containsS (l.map Sp.who) sd.who = true then 6 else if 300 ≤ n then 2 else 0) := by unfold lateErr; rw [h.len]
  have hQ0 := Lib.hid (fun (h0 : lateErr p l sd ≠ 0) => show LateQ p l sd [] false by unfold LateQ; rw [if_pos h0]; exact ⟨rfl, rfl⟩)
  have hQ1 := Lib.hid (fun (h0 : lateErr p l sd = 0) (h1 : emptyL p l = []) => show LateQ p l sd l false by unfold LateQ; rw [if_neg (by simpa using h0), h1]; exact ⟨rfl, rfl⟩)
  have hQ2 := Lib.hid (fun (h0 : lateErr p l sd = 0) (f : Sp) r (h1 : emptyL p l = f :: r) L (hL : SpSortF (l ++ lateF (emptyL p l) sd.who f.heat (laneV p.lo p.hi)) L) => show LateQ p l sd L true by unfold LateQ; rw [if_neg (by simpa using h0), h1]; rw [h1] at hL; exact ⟨rfl, hL⟩)
  have hLn := Lib.hid (fun (h0 : startsErr p l = 0) W => lanesOfP_c p (startsErr_ok h0).pool W)
  have hPl0 := Lib.hid (fun (h0 : startsErr p l = 0) => show 1 ≤ p.lo ∧ p.lo ≤ p.hi ∧ p.hi ≤ 10 from ⟨(startsErr_ok h0).pool.1.1, (startsErr_ok h0).pool.1.2, (startsErr_ok h0).pool.2.1⟩)
  have hFa := Lib.hid (fun who hh k ln (hx : (laneV p.lo p.hi)[k]? = some ln) => lateF_at (emptyL p l) who hh hx)
  have hCt := Lib.hid (fun Af nf cf W (y : Sp) (hf : RSp W Af nf (emptyL p l)) (hnf : nf ≤ 1000) => containsSp_c Af nf cf (emptyL p l) y W hf hnf)
  generalize startsErr p l = SE at *
  generalize seedErr [sd] = DE at *
  generalize Lib.containsS (l.map Sp.who) sd.who = CE at *
  generalize lateErr p l sd = E at *
  have hE' := Lib.hid hE
  obtain ⟨z0, z1, z2, z3⟩ := hp0.at_
  have hx1 := (blk_facts hx0).1 0
  have hx2 := (blk_facts hx0).1 1
  clear hE h hpb
  generalize hLQ : LateQ p l sd = LQ at *
  clear hLQ
  obtain ⟨who, tm⟩ := sd
  obtain ⟨lo, hi, le, ci⟩ := p
  dsimp only [Pl.val, Pl.cells] at *
  go_enter Tryz.func47, Tryz.ntmps47
  go_wp2_with fail
  refine hCS.out.mono ?_; rintro e w1 ⟨rfl, B1⟩
  have hB2 := below_next hB1 B1
  have hx3 := blk_below hx0 B1
  have hp3 := PoolB.keep _ _ hp0 B1
  have hz2 := Nat.le_trans hz1 B1.size
  clear hB1 hx0 hCS B1 hz1 hp0 z0 z1 z2 z3 hx1 hx2
  by_cases h0 : SE = 0
  rotate_left
  · obtain rfl : SE = E := by rw [hE'.out, if_pos h0]
    have hd : (SE != 0) = true := by simpa using h0
    have hq := hQ0.out h0
    clear h0 hE' hQ0 hQ1 hQ2 hLn hFa hCt hEm hHs hCd hCl
    go_wp2
    go_ret3
    exact ⟨none, 0, 0, false, [], rfl, RN.nil_ _ _ _ _ _, hq, Nat.zero_le _, hB2⟩
  subst h0
  have y0 := (blk_facts hx3).1 0
  have y1 := (blk_facts hx3).1 1
  have hlx := lt_of_heap hx3
  go_wp2_with fail
  refine (hCd.out w1).mono ?_; rintro e w2 ⟨rfl, B2⟩
  have hB3 := below_next (below_next hB2 (below_new w1 _)) B2
  have hx4 := blk_below (blk_alloc hx3 _) B2
  have hp4 := PoolB.keep _ _ (PoolB.keep _ _ hp3 (below_new w1 _)) B2
  have hz3 := Nat.le_trans (Nat.le_trans hz2 (below_new w1 _).size) B2.size
  clear hCd hB2 hx3 hp3 hz2 B2 y0 y1 hlx
  by_cases h1 : DE = 0
  rotate_left
  · obtain rfl : DE = E := by rw [hE'.out, if_neg (by simp), if_pos h1]
    have hd : (DE != 0) = true := by simpa using h1
    have hq := hQ0.out h1
    clear h1 hE' hQ0 hQ1 hQ2 hLn hFa hCt hEm hHs hCl
    go_wp2
    go_ret3
    exact ⟨none, 0, 0, false, [], rfl, RN.nil_ _ _ _ _ _, hq, Nat.zero_le _, hB3⟩
  subst h1
  have hH := Lib.hid (hHs.out w2 hB3 hx4)
  clear hHs
  go_wp2_with fail
  refine hH.out.mono ?_; rintro e w3 ⟨rfl, B3⟩
  have hB4 := below_next hB3 B3
  have hx5 := blk_below hx4 B3
  have hp5 := PoolB.keep _ _ hp4 B3
  have hz4 := Nat.le_trans hz3 B3.size
  clear hH hB3 hx4 hp4 hz3 B3
  cases CE
  rotate_left
  · obtain rfl : E = 6 := by rw [hE'.out, if_neg (by simp), if_neg (by simp), if_pos rfl]
    have hq := hQ0.out (by decide)
    clear hE' hQ0 hQ1 hQ2 hLn hFa hCt hEm hCl
    go_wp2
    go_ret3
    exact ⟨none, 0, 0, false, [], rfl, RN.nil_ _ _ _ _ _, hq, Nat.zero_le _, hB4⟩
  by_cases h3 : 300 ≤ n
  · obtain rfl : E = 2 := by rw [hE'.out, if_neg (by simp), if_neg (by simp), if_neg (by simp), if_pos h3]
    have hq := hQ0.out (by decide)
    have h3' : (300 : Int) ≤ (n : Int) := by omega
    clear hE' hQ0 hQ1 hQ2 hLn hFa hCt hEm hCl
    go_wp2
    go_ret3
    exact ⟨none, 0, 0, false, [], rfl, RN.nil_ _ _ _ _ _, hq, Nat.zero_le _, hB4⟩
  obtain rfl : E = 0 := by rw [hE'.out, if_neg (by simp), if_neg (by simp), if_neg (by simp), if_neg h3]
  have h3' : ¬ (300 : Int) ≤ (n : Int) := by omega
  have hQ1' := Lib.hid (hQ1.out rfl)
  have hQ2' := Lib.hid (hQ2.out rfl)
  have hLn' := Lib.hid (hLn.out (by first | trivial | rfl))
  have hPl := Lib.hid (hPl0.out (by first | trivial | rfl))
  have hEm' := Lib.hid (hEm.out w3 hB4)
  clear hE' hQ0 hQ1 hQ2 hLn hEm
  obtain ⟨z0, z1, z2, z3⟩ := hp5.at_
  have hl0 := lt_of_heap hp5
  go_wp2_with fail
  refine hEm'.out.mono ?_; rintro e w4 ⟨Af, nf, cf, rfl, rf4, hnf, hcf, B4⟩
  rw [if_pos trivial] at rf4
  have hB5 := below_next hB4 B4
  have hx6 := blk_below hx5 B4
  have hp6 := PoolB.keep _ _ hp5 B4
  have hz5 := Nat.le_trans hz4 B4.size
  have hCl4 := Lib.hid (hCl.out w4 hB5)
  clear hEm' hB4 hx5 hp5 hz4 B4 z0 z1 z2 z3 hl0 hCl
  go_wp2_with fail
  refine hCl4.out.mono ?_; rintro e w5 ⟨A5, c5, rfl, ho5, B5⟩
  have K5 : LtK w ⟨who, tm⟩ ⟨lo, hi, le, ci⟩ w4.heap.size (.slice A5 n c5) l (emptyL ⟨lo, hi, le, ci⟩ l) Af nf w5 := ⟨by rw [hl.out]; exact ho5, blk_below hx6 B5, PoolB.keep _ _ hp6 B5, rf4.below B5, below_next hB5 B5, hz5, B5.size⟩
  have hR5 : RSp w5 A5 n l := RN.of_own spE_len ho5 hl.out (by omega)
  clear hCl4 rf4 hx6 hp6 hB5 hz5 B5 ho5
  by_cases hf0 : nf = 0
  · subst hf0
    have he : emptyL ⟨lo, hi, le, ci⟩ l = [] := List.eq_nil_of_length_eq_zero K5.f.len
    have hq := hQ1'.out he
    have hbel := K5.bel
    clear hQ1' hQ2' hLn' he K5 hFa hCt
    go_wp2
    go_ret3
    exact ⟨_, _, _, false, l, rfl, hR5, hq, by omega, hbel⟩
  · have hf1 : ((nf : Int) == 0) = false := beq_eq_false_iff_ne.2 (by omega)
    obtain ⟨z0, z1, z2, z3⟩ := K5.pb.at_
    have hl0 := lt_of_heap K5.pb
    have hL5 := Lib.hid (hLn'.out w5)
    clear hQ1' hLn' hR5
    go_wp2_with fail
    refine hL5.out.mono ?_; rintro e w6 ⟨A6, m6, c6, rfl, ho6, hlv, B6⟩
    have K6 := K5.below B6
    have hm6 : m6 ≤ 1000 := by
      have h1 := laneV_len (lo := lo) (hi := hi) (by have := hPl.out; omega)
      have h2 := hPl.out
      omega
    obtain ⟨A7, c7, h7e, _, hri⟩ := own_ints ho6 (by omega)
    injection h7e with e1 e2 e3
    subst e1 e3
    obtain ⟨f, r, hfe⟩ : ∃ f r, emptyL ⟨lo, hi, le, ci⟩ l = f :: r := by
      cases he : emptyL ⟨lo, hi, le, ci⟩ l with
      | nil => exact absurd (by have := K6.f.len; rw [he] at this; exact this.symm) hf0
      | cons f r => exact ⟨f, r, rfl⟩
    have hq2 := Lib.hid (hQ2'.out f r hfe)
    have hf0e := Lib.hid (show (emptyL ⟨lo, hi, le, ci⟩ l)[0]? = some f by rw [hfe]; rfl)
    obtain ⟨fb, rfl, hfc⟩ : ∃ fb, Af = some ⟨fb, 0, none⟩ ∧ nf ≤ cf := by
      rcases hcf with ⟨_, h0, _⟩ | ⟨b, h1, h2⟩
      · exact absurd h0 hf0
      · exact ⟨b, h1, h2⟩
    have hnp : 0 < nf := by omega
    have hFa' := Lib.hid (fun k ln hx => hFa.out who f.heat k ln hx)
    have hF0 := Lib.hid (fun EL => show lateF EL who f.heat [] = [] from rfl)
    clear hQ2' hfe hcf K5 B6 ho6 z0 z1 z2 z3 hl0 hL5 hFa hf0 hf1
    generalize hw4 : w4.heap.size = base at *
    clear hw4
    generalize emptyL ⟨lo, hi, le, ci⟩ l = EL at *
    generalize laneV lo hi = LV at *
    go_wp2_with fail
    go_loopw [13, 15, 50] (fun u _ i wx => ∃ k : Nat, k ≤ m6 ∧ i = .int .i64 k ∧ u = .slice A5 n c5 ∧ LtK w ⟨who, tm⟩ ⟨lo, hi, le, ci⟩ base (.slice A5 n c5) l EL (some ⟨fb, 0, none⟩) nf wx ∧ RI 3 wx A6 m6 LV ∧ Hid (lateF EL who f.heat (LV.drop k) = lateF EL who f.heat LV)) (fun _ _ i _ => m6 - (intOf i).toNat)
    case atStart => exact ⟨0, Nat.zero_le _, rfl, rfl, K6, hri, Lib.hid rfl⟩
    case round =>
      clear K6 hri
      rename World => wx
      obtain ⟨k, hk, rfl, rfl, K, hri, hG⟩ := hrel
      by_cases hlt : k < m6
      · obtain ⟨lb, loff, ln, rfl, hlb, hx, hc⟩ := hri.at_ hlt
        have hst := Lib.hid (hFa'.out k ln hx)
        obtain ⟨b', off', f', hA, hbf, hf', d0, d1, d2⟩ := RSp_at3 K.f (k := 0) hnp
        injection hA with hA
        injection hA with q1 q2
        subst q1 q2
        rw [hf0e.out] at hf'
        obtain rfl := Option.some.inj hf'
        rw [Nat.zero_mul, Nat.zero_add] at d1
        have d1' : wx.cell? ⟨fb, 1, none⟩ = some (.int .i64 f.heat) := by simpa using d1
        have hbn := below_new wx (.cells #[.string ⟨#[]⟩, .int .i64 f.heat, .int .i64 ln] 90)
        have hnw := heap_alloc_new wx (.cells #[.string ⟨#[]⟩, .int .i64 f.heat, .int .i64 ln] 90)
        have K7 := K.below hbn
        have hri7 := hri.below hbn
        have hC7 := Lib.hid (hCt.out _ _ cf _ (⟨⟨#[]⟩, f.heat, ln⟩ : Sp) K7.f hnf)
        have x0 := (blk_facts hnw).1 0
        have x1 := (blk_facts hnw).1 1
        have x2 := (blk_facts hnw).1 2
        have hb7 : base ≤ wx.heap.size := K.z
        have hne7 : ∀ i, (Value.slice A5 n c5).ownBlock = some i → i ≠ wx.heap.size := fun i hi => by have := (K.o.lt i hi).2; omega
        clear hx d0 d2 d1 hbn K hri
        dsimp only at *
        go_wp2_with fail
        refine hC7.out.mono ?_; rintro e w8 ⟨rfl, B8⟩
        have K8 := K7.below B8
        have hri8 := hri7.below B8
        have hb8 := blk_below hnw B8
        clear hC7 K7 hri7 hnw x0 x1 x2 B8 d1'
        generalize wx.heap.size = b7 at *
        obtain ⟨cc, hcc⟩ : ∃ cc, decide ((⟨⟨#[]⟩, f.heat, ln⟩ : Sp) ∈ EL) = cc := ⟨_, rfl⟩
        rw [hcc] at hst ⊢
        clear hcc
        cases cc
        · have hG2 := Lib.hid (show lateF EL who f.heat (LV.drop (k + 1)) = lateF EL who f.heat LV by rw [← hG.out, hst.out, if_neg (by simp)])
          clear hG hst
          go_wp2
          go_roundw
          case rel => exact ⟨k + 1, by omega, by go_num, rfl, K8, hri8, hG2⟩
          case measure => simp [intOf]; omega
        · have hG2 := Lib.hid (show lateF EL who f.heat LV = [⟨who, f.heat, ln⟩] by rw [← hG.out, hst.out, if_pos rfl])
          have x80 := (blk_facts hb8).1 0
          have f80 := (blk_facts hb8).2 0
          have xs0 := (blk_facts K8.xb).1 0
          have lxb := lt_of_heap K8.xb
          have lb8 := lt_of_heap hb8
          have hgs : w8.grownBy (w8.setCell ⟨b7, 0, none⟩ (.string who)) (some b7) := grown_setCell (grown_refl _ _) (.inl rfl) _
          have ho9 := K8.o.kept hgs (by by_cases e : (Value.slice A5 n c5).ownBlock = some b7; exact absurd rfl (hne7 b7 e); exact .inr e)
          have hl1 := K8.l1
          have hz8 := K8.z
          have hBs : Below w.heap.size w (w8.setCell ⟨b7, 0, none⟩ (.string who)) := Below.setCell K8.bel (by show w.heap.size ≤ b7; omega) _
          have hz9 : base ≤ (w8.setCell ⟨b7, 0, none⟩ (.string who)).heap.size := Nat.le_trans K8.z hgs.size
          have hx9 := blk_set hb8 0 (.string who)
          have x90 := (blk_facts hx9).1 0
          have x91 := (blk_facts hx9).1 1
          have x92 := (blk_facts hx9).1 2
          rw [hl.out] at ho9
          clear hG hst K8 hri8 hb8 hgs hx9 hFa' hF0
          go_wp2_with (at_builtin; refine wpList_app rfl (.tmp 66) (.tmp 68) 74 rfl Tryz.underlying74 info_start rfl (by omega) (by omega) ho9 rfl rfl (by first | rfl | (simp; done)) rfl (by simp [Value.oneCell']) (by omega) hz9 ?_; intro v9 w9 hoA hgA)
          have hoB : w9.ownsRow base 90 3 v9 (n + 1) ((l ++ [(⟨who, f.heat, ln⟩ : Sp)]).flatMap spE) := by rw [← flat_snoc]; exact hoA
          have hBA := below_own hBs ho9 hgA hBs.size (by omega)
          have hzA := Nat.le_trans hz9 hgA.size
          obtain ⟨A9, c9, rfl⟩ := own_shape hoB
          have hSo := Lib.hid (sortStartsF_c _ w9 base (n + 1) _ hoB (by omega))
          clear hoA hgA hBs ho9
          go_wp2_with fail
          refine hSo.out.mono ?_; rintro e wz ⟨rfl, l', hoz, hsz, hgz⟩
          have hBz := below_own hBA hoB hgz hBA.size (by omega)
          have hlz := own_len spE_len (by decide) hoz
          have hrz : RSp wz A9 (n + 1) l' := RN.of_own spE_len hoz hlz (by omega)
          have hq := hq2.out l' (by rw [hG2.out]; exact hsz)
          clear hSo hoz hsz hgz hBA hoB hG2 hq2
          go_wp2
          go_ret3
          exact ⟨_, _, _, true, l', rfl, hrz, hq, by omega, hBz⟩
      · obtain rfl : k = m6 := by omega
        have hG2 := Lib.hid (show lateF EL who f.heat LV = [] by rw [← hG.out, drop_end (by rw [hlv]; exact Nat.le_refl _), hF0.out EL])
        have ho9 := K.o
        rw [hl.out] at ho9
        have hbel := K.bel
        have hl1 := K.l1
        have hSo := Lib.hid (sortStartsF_c l wx base n (.slice A5 n c5) ho9 (by omega))
        clear hG hFa' hF0 K hri
        go_wp2_with fail
        refine hSo.out.mono ?_; rintro e wz ⟨rfl, l', hoz, hsz, hgz⟩
        have hBz := below_own hbel ho9 hgz hbel.size (by omega)
        have hlz := own_len spE_len (by decide) hoz
        have hrz : RSp wz A5 n l' := RN.of_own spE_len hoz hlz (by omega)
        have hq := hq2.out l' (by rw [hG2.out, List.append_nil]; exact hsz)
        clear hSo hoz hsz hgz hbel ho9 hG2 hq2
        go_wp2
        go_ret3
        exact ⟨_, _, _, true, l', rfl, hrz, hq, by omega, hBz⟩
end Go.Proofs.YtffhobmkbabllaaGreatDoor

/- tumbref1.LateOf. -/
namespace Go.Proofs.YtffhobmkbabllaaGreatDoor
open Go.RowKit Go.Shelf Go.Lib Go.Sort
set_option linter.unusedVariables false

def LateO (p : Pl) (l : List Sp) (sd : Sd) (L : List Sp) (b : Bool) : Prop := match emptyL p l with
  | [] => L = l ∧ b = false
  | f :: _ => if lateF (emptyL p l) sd.who f.heat (laneV p.lo p.hi) = [] then L = [] ∧ b = false else b = true ∧ SpSortF (l ++ lateF (emptyL p l) sd.who f.heat (laneV p.lo p.hi)) L
set_option maxRecDepth 100000 in
theorem appSp_run (w0 W : World) (base n : Nat) (v : Value) (L : List Sp) (y : Sp) (zb : Nat) (hown : W.ownsRow base 90 3 v n (L.flatMap spE)) (hz : W.heap[zb]? = some (.cells (spE y).toArray 90 (0, 0))) (hn : n ≤ 1000) (hb : base ≤ W.heap.size) (hB : Below w0.heap.size w0 W) (h0 : w0.heap.size ≤ base) : ∃ v' w', (Builtin.append_ #[74, 74] 74 #[v, .slice (some ⟨zb, 0, none⟩) 1 1]).run Tryz.prog W = .ok v' w' ∧ w'.ownsRow base 90 3 v' (n + 1) ((L ++ [y]).flatMap spE) ∧ Below w0.heap.size w0 w' ∧ base ≤ w'.heap.size := by
  obtain ⟨i, hi, hz0, hz1, hz2⟩ := info_parts info_start
  obtain ⟨v', w', hr, ho, hg, _⟩ := run_append_own W base 74 74 90 i _ 3 32 Tryz.underlying74 hi hz0 hz1 hz2 rfl (by omega) v n _ hown ⟨zb, 0, none⟩ 1 1 (spE y) rfl (fun j u hj => by rw [add_flat, Nat.zero_add, (blk_facts hz).1 j, List.getElem?_toArray]; exact hj) (fun u hu => by simp only [spE, List.mem_cons, List.not_mem_nil, or_false] at hu; rcases hu with rfl | rfl | rfl <;> rfl) (by unfold maxLen; omega) (by omega) hb
  exact ⟨v', w', hr, by rw [← flat_snoc]; exact ho, below_own hB hown hg hB.size h0, Nat.le_trans hb hg.size⟩
set_option maxHeartbeats 6400000 in
set_option maxRecDepth 100000 in
theorem lateOf_c (p : Pl) (A : Option Addr) (n c : Nat) (l : List Sp) (hs : StsOk p l) (sd : Sd) (w : World) (h : RSp w A n l) :
    Calls Tryz.prog 55 #[p.val, .slice A n c, .agg #[.string sd.who, .int .i64 sd.time]] w fun e w' => ∃ A' n' c' b L, e = .returned (.tuple #[.slice A' n' c', .bool b]) ∧ RSp w' A' n' L ∧ LateO p l sd L b ∧ n' ≤ 1000 ∧ Below w.heap.size w w' := by
  have hR := Lib.hid (fun W B => h.below (w' := W) B)
  have hl := Lib.hid h.len
  have hn : n ≤ 300 := by have := hs.len; rw [h.len] at this; exact this
  have hB1 : Below w.heap.size w ((w.alloc (.cells p.cells 72)).alloc (.cells #[.string sd.who, .int .i64 sd.time] 40)) := below_next (below_new w (.cells p.cells 72)) (below_new _ (.cells #[.string sd.who, .int .i64 sd.time] 40))
  have hx0 := heap_alloc_new (w.alloc (.cells p.cells 72)) (.cells #[.string sd.who, .int .i64 sd.time] 40)
  rw [alloc_size] at hx0
  have hp0 : PoolB w.heap.size p ((w.alloc (.cells p.cells 72)).alloc (.cells #[.string sd.who, .int .i64 sd.time] 40)) := blk_alloc (heap_alloc_new w _) _
  have hz1 : w.heap.size + 2 ≤ ((w.alloc (.cells p.cells 72)).alloc (.cells #[.string sd.who, .int .i64 sd.time] 40)).heap.size := by simp
  have hEm := Lib.hid (emptyOf_c p A n c l hs _ (h.below hB1))
  have hCl := Lib.hid (fun W B => cloneSp_c A n c l W (h.below (w' := W) B) (by omega))
  have hQ1 := Lib.hid (fun (h1 : emptyL p l = []) => show LateO p l sd l false by unfold LateO; rw [h1]; exact ⟨rfl, rfl⟩)
  have hQ2 := Lib.hid (fun (f : Sp) r (h1 : emptyL p l = f :: r) (h2 : lateF (emptyL p l) sd.who f.heat (laneV p.lo p.hi) ≠ []) L (hL : SpSortF (l ++ lateF (emptyL p l) sd.who f.heat (laneV p.lo p.hi)) L) => show LateO p l sd L true by unfold LateO; rw [h1]; rw [h1] at hL h2; dsimp only; rw [if_neg h2]; exact ⟨rfl, hL⟩)
  have hQ3 := Lib.hid (fun (f : Sp) r (h1 : emptyL p l = f :: r) (h2 : lateF (emptyL p l) sd.who f.heat (laneV p.lo p.hi) = []) => show LateO p l sd [] false by unfold LateO; rw [h1]; rw [h1] at h2; dsimp only; rw [if_pos h2]; exact ⟨rfl, rfl⟩)
  have hLn' := Lib.hid (fun W => lanesRef_c p hs.pool W)
  have hPl := Lib.hid (show 1 ≤ p.lo ∧ p.lo ≤ p.hi ∧ p.hi ≤ 10 from ⟨hs.pool.1.1, hs.pool.1.2, hs.pool.2.1⟩)
  have hFa := Lib.hid (fun who hh k ln (hx : (laneV p.lo p.hi)[k]? = some ln) => lateF_at (emptyL p l) who hh hx)
  have hCt := Lib.hid (fun Af nf cf W (y : Sp) (hf : RSp W Af nf (emptyL p l)) (hnf : nf ≤ 1000) => containsSp_c Af nf cf (emptyL p l) y W hf hnf)
  obtain ⟨z0, z1, z2, z3⟩ := hp0.at_
  clear h hs
  generalize hLQ : LateO p l sd = LQ at *
  clear hLQ
  obtain ⟨who, tm⟩ := sd
  obtain ⟨lo, hi, le, ci⟩ := p
  dsimp only [Pl.val, Pl.cells] at *
  go_enter Tryz.func55, Tryz.ntmps55
  go_wp2_with fail
  refine hEm.out.mono ?_; rintro e w5 ⟨Af, nf, cf, rfl, rf4, hnf, hcf, B5⟩
  have hB5 := below_next hB1 B5
  have hx6 := blk_below hx0 B5
  have hp6 := PoolB.keep _ _ hp0 B5
  have hz5 := Nat.le_trans hz1 B5.size
  have K5 : LtK w ⟨who, tm⟩ ⟨lo, hi, le, ci⟩ w5.heap.size (.slice none 0 0) [] (emptyL ⟨lo, hi, le, ci⟩ l) (Af) nf w5 := ⟨World.ownsRow_nil _ _ _ _, hx6, hp6, rf4, hB5, hz5, Nat.le_refl _⟩
  have hCl5 := Lib.hid (hCl.out w5 hB5)
  clear hEm hB1 hx0 hp0 hz1 B5 hx6 hp6 z0 z1 z2 z3 rf4
  by_cases hf0 : nf = 0
  · subst hf0
    have he : emptyL ⟨lo, hi, le, ci⟩ l = [] := List.eq_nil_of_length_eq_zero K5.f.len
    have hq := hQ1.out he
    clear hQ1 hQ2 hQ3 hLn' he K5 hFa hCt hCl
    go_wp2_with fail
    refine hCl5.out.mono ?_; rintro e w6 ⟨A5, c5, rfl, ho5, B6⟩
    have hR6 : RSp w6 A5 n l := RN.of_own spE_len ho5 hl.out (by omega)
    have hbel := below_next hB5 B6
    go_wp2
    go_ret2
    exact ⟨_, _, _, false, l, rfl, hR6, hq, by omega, hbel⟩
  · have hf1 : ((nf : Int) == 0) = false := beq_eq_false_iff_ne.2 (by omega)
    obtain ⟨z0, z1, z2, z3⟩ := K5.pb.at_
    have hl0 := lt_of_heap K5.pb
    have hL5 := Lib.hid (hLn'.out w5)
    clear hQ1 hLn' hCl5
    go_wp2_with fail
    refine hL5.out.mono ?_; rintro e w6 ⟨A6, m6, c6, rfl, ho6, hlv, B6⟩
    have K6 := K5.below B6
    have hm6 : m6 ≤ 1000 := by
      have h1 := laneV_len (lo := lo) (hi := hi) (by have := hPl.out; omega)
      have h2 := hPl.out
      omega
    obtain ⟨A7, c7, h7e, _, hri⟩ := own_ints ho6 (by omega)
    injection h7e with e1 e2 e3
    subst e1 e3
    obtain ⟨f, r, hfe⟩ : ∃ f r, emptyL ⟨lo, hi, le, ci⟩ l = f :: r := by
      cases he : emptyL ⟨lo, hi, le, ci⟩ l with
      | nil => exact absurd (by have := K6.f.len; rw [he] at this; exact this.symm) hf0
      | cons f r => exact ⟨f, r, rfl⟩
    have hq2 := Lib.hid (hQ2.out f r hfe)
    have hq3 := Lib.hid (hQ3.out f r hfe)
    have hf0e := Lib.hid (show (emptyL ⟨lo, hi, le, ci⟩ l)[0]? = some f by rw [hfe]; rfl)
    obtain ⟨fb, rfl, hfc⟩ : ∃ fb, Af = some ⟨fb, 0, none⟩ ∧ nf ≤ cf := by
      rcases hcf with ⟨_, h0, _⟩ | ⟨b, h1, h2⟩
      · exact absurd h0 hf0
      · exact ⟨b, h1, h2⟩
    have hnp : 0 < nf := by omega
    have hFa' := Lib.hid (fun k ln hx => hFa.out who f.heat k ln hx)
    have hF0 := Lib.hid (fun EL => show lateF EL who f.heat [] = [] from rfl)
    clear hQ2 hQ3 hfe hcf K5 B6 ho6 z0 z1 z2 z3 hl0 hL5 hFa hf0 hf1
    generalize hw4 : w5.heap.size = base at *
    clear hw4
    generalize emptyL ⟨lo, hi, le, ci⟩ l = EL at *
    generalize laneV lo hi = LV at *
    go_wp2_with fail
    go_loopw [10, 24] (fun _ i wx => ∃ k : Nat, k ≤ m6 ∧ i = .int .i64 k ∧ LtK w ⟨who, tm⟩ ⟨lo, hi, le, ci⟩ base (.slice none 0 0) [] EL (some ⟨fb, 0, none⟩) nf wx ∧ RI 3 wx A6 m6 LV ∧ Hid (lateF EL who f.heat (LV.drop k) = lateF EL who f.heat LV)) (fun _ i _ => m6 - (intOf i).toNat)
    case atStart => exact ⟨0, Nat.zero_le _, rfl, K6, hri, Lib.hid rfl⟩
    case round =>
      clear K6 hri
      rename World => wx
      obtain ⟨k, hk, rfl, K, hri, hG⟩ := hrel
      by_cases hlt : k < m6
      · obtain ⟨lb, loff, ln, rfl, hlb, hx, hc⟩ := hri.at_ hlt
        have hst := Lib.hid (hFa'.out k ln hx)
        obtain ⟨b', off', f', hA, hbf, hf', d0, d1, d2⟩ := RSp_at3 K.f (k := 0) hnp
        injection hA with hA
        injection hA with q1 q2
        subst q1 q2
        rw [hf0e.out] at hf'
        obtain rfl := Option.some.inj hf'
        rw [Nat.zero_mul, Nat.zero_add] at d1
        have d1' : wx.cell? ⟨fb, 1, none⟩ = some (.int .i64 f.heat) := by simpa using d1
        have hbn := below_new wx (.cells #[.string ⟨#[]⟩, .int .i64 f.heat, .int .i64 ln] 90)
        have hnw := heap_alloc_new wx (.cells #[.string ⟨#[]⟩, .int .i64 f.heat, .int .i64 ln] 90)
        have K7 := K.below hbn
        have hri7 := hri.below hbn
        have hC7 := Lib.hid (hCt.out _ _ cf _ (⟨⟨#[]⟩, f.heat, ln⟩ : Sp) K7.f hnf)
        have x0 := (blk_facts hnw).1 0
        have x1 := (blk_facts hnw).1 1
        have x2 := (blk_facts hnw).1 2
        have hb7 : base ≤ wx.heap.size := K.z
        clear hx d0 d2 d1 hbn K hri
        dsimp only at *
        go_wp2_with fail
        refine hC7.out.mono ?_; rintro e w8 ⟨rfl, B8⟩
        have K8 := K7.below B8
        have hri8 := hri7.below B8
        have hb8 := blk_below hnw B8
        clear hC7 K7 hri7 hnw x0 x1 x2 B8 d1'
        generalize wx.heap.size = b7 at *
        obtain ⟨cc, hcc⟩ : ∃ cc, decide ((⟨⟨#[]⟩, f.heat, ln⟩ : Sp) ∈ EL) = cc := ⟨_, rfl⟩
        rw [hcc] at hst ⊢
        clear hcc
        cases cc
        · have hG2 := Lib.hid (show lateF EL who f.heat (LV.drop (k + 1)) = lateF EL who f.heat LV by rw [← hG.out, hst.out, if_neg (by simp)])
          clear hG hst
          go_wp2
          go_roundw
          case rel => exact ⟨k + 1, by omega, by go_num, K8, hri8, hG2⟩
          case measure => simp [intOf]; omega
        · have hG2 := Lib.hid (show lateF EL who f.heat LV = [⟨who, f.heat, ln⟩] by rw [← hG.out, hst.out, if_pos rfl])
          have x80 := (blk_facts hb8).1 0
          have f80 := (blk_facts hb8).2 0
          have xs0 := (blk_facts K8.xb).1 0
          have lxb := lt_of_heap K8.xb
          have lb8 := lt_of_heap hb8
          have hl1 := K8.l1
          have hz8 := K8.z
          have hBs : Below w.heap.size w (w8.setCell ⟨b7, 0, none⟩ (.string who)) := Below.setCell K8.bel (by show w.heap.size ≤ b7; omega) _
          have hx9 := blk_set hb8 0 (.string who)
          have x90 := (blk_facts hx9).1 0
          have x91 := (blk_facts hx9).1 1
          have x92 := (blk_facts hx9).1 2
          clear hG hst K8 hri8 hb8 hFa' hF0
          go_wp2_with fail
          generalize w8.setCell ⟨b7, 0, none⟩ (.string who) = w9 at *
          have hBd := below_drewN hBs 1
          have hBe := hBd.alloc hBd.size (.cells #[.string who, .int .i64 f.heat, .int .i64 ln] 90)
          have hxd : w9.drew.heap[b7]? = some (.cells #[.string who, .int .i64 f.heat, .int .i64 ln] 90 (0, 0)) := hx9
          have hxe := blk_alloc hxd (.cells #[.string who, .int .i64 f.heat, .int .i64 ln] 90)
          have hse := heap_alloc_new w9.drew (.cells #[.string who, .int .i64 f.heat, .int .i64 ln] 90)
          have hz91 := hBd.size
          have hz92 := hBe.size
          have lb9 : b7 < w9.drew.heap.size := lt_of_heap hxd
          obtain ⟨i0, hi0, hz0, hz1, hz2⟩ := info_parts info_start
          go_wp2
          refine wp_region_inv (by kernel_rfl) (fun listed a w' => ∃ xs : Nat → Value, a = { tmps := #[.agg #[.int .i64 lo, .int .i64 hi, .int .i64 le, .int .i64 ci], .slice A n c, .agg #[.string who, .int .i64 tm], .pointer (some ⟨w.heap.size, 0, none⟩), undef, .pointer (some ⟨w.heap.size + 1, 0, none⟩), u6, u7, .slice (some ⟨fb, 0, none⟩) nf cf, undef, .int .i64 ln, .pointer (some ⟨b7, 0, none⟩), xs 5, .agg #[.int .i64 lo, .int .i64 hi, .int .i64 le, .int .i64 ci], .slice A n c, .slice (some ⟨fb, 0, none⟩) nf cf, .slice (some ⟨fb, 0, none⟩) nf cf, .int .i64 ↑nf, .bool false, undef, undef, .agg #[.int .i64 lo, .int .i64 hi, .int .i64 le, .int .i64 ci], .slice (some ⟨lb, loff, none⟩) m6 c6, .int .i64 ↑m6, .int .i64 ↑k, .bool true, .pointer (some ⟨lb, loff + k, none⟩), .int .i64 ln, .slice (some ⟨fb, 0, none⟩) nf cf, .pointer (some ⟨fb, 0, none⟩), .pointer (some ⟨fb, 1, none⟩), .int .i64 f.heat, .int .i64 ln, .agg #[.string { data := #[] }, .int .i64 f.heat, .int .i64 ln], .slice (some ⟨fb, 0, none⟩) nf cf, .agg #[.string { data := #[] }, .int .i64 f.heat, .int .i64 ln], .bool true, .pointer (some ⟨w.heap.size + 1, 0, none⟩), .string who, .pointer (some ⟨b7, 0, none⟩), xs 0, xs 1, xs 2, xs 3, xs 4, u45, u46, u47, u48], defers := [] } ∧ (∀ j, listed.getD j false = true → CV [some (.slice A n c), none, some (.agg #[.string who, .int .i64 f.heat, .int .i64 ln]), none, none, none] j w' (xs j)) ∧ ApSt (w9.drew.heap.size) 90 3 (n) (l.flatMap spE) ([.string who, .int .i64 f.heat, .int .i64 ln]) (w9.drew) 1 3 4 1000 ⟨b7 + 1, 0, none⟩ listed xs w' ∧ (listed.getD 5 false = true → listed.getD 4 false = true ∧ xs 5 = xs 4)) ?h0 (AllOps.of ?hs) ?he
          case h0 => exact ⟨fun j => match j with | 0 => u40 | 1 => u41 | 2 => u42 | 3 => u43 | 4 => u44 | 5 => u12 | _ => undef, rfl, (fun j hj => by rw [rep_falseA] at hj; cases hj), ApSt.start, fun h => (by rw [rep_falseA] at h; (cases h))⟩
          case hs =>
            refine ⟨?_, ?_, ?_, ?_, ?_, ?_, trivial⟩
            · intro listed a w' hs hI h0 hd K2 hK
              obtain ⟨xs, rfl, hC, hW, hX⟩ := hI
              have hK2 := Lib.hid hK
              have hC2 := Lib.hid hC
              clear hd hK hC h0
              go_simp
              exact hK2.out _ _ ⟨updV xs 0 (.slice A n c), by simp [updV], cond_set hC2.out (fun _ _ h => h) (CV.of rfl rfl), hW.keep (by decide) (by decide) (by decide) (by decide), fun h5 => (by rw [getD_set_other _ (by decide)] at h5 ⊢; exact hX h5)⟩
            · intro listed a w' hs hI h0 hd K2 hK
              obtain ⟨xs, rfl, hC, hW, hX⟩ := hI
              have e0 : xs 0 = .slice A n c := (hC 0 (hd ⟨0, .data⟩ (by simp) rfl)) _ rfl
              have hK2 := Lib.hid hK
              have hC2 := Lib.hid hC
              have B9 := hW.below h0
              have hrow9 := Lib.hid (fun w1 v B1 ho => hW.row h0 (w1 := w1) (v := v) B1 ho (by decide) (by decide) (by decide))
              have hCl9 := Lib.hid (hCl.out w' (below_next hBd B9))
              clear hd hK hC h0
              go_simp
              refine hCl9.out.mono ?_; rintro e w1 ⟨A1, c1, rfl, ho1, B1⟩
              exact hK2.out _ _ ⟨updV xs 1 (.slice A1 n c1), by simp [updV, e0], cond_set hC2.out (fun _ _ h => h) (CV.free rfl), hrow9.out _ _ B1 (own_mono ho1 B9.size), fun h5 => (by rw [getD_set_other _ (by decide)] at h5 ⊢; exact hX h5)⟩
            · intro listed a w' hs hI h0 hd K2 hK
              obtain ⟨xs, rfl, hC, hW, hX⟩ := hI
              have hK2 := Lib.hid hK
              have hC2 := Lib.hid hC
              have z9 : w'.heap[b7]? = some (.cells #[.string who, .int .i64 f.heat, .int .i64 ln] 90 (0, 0)) := (hW.low b7 lb9 lb9 (by simp)).trans hxd
              have c90 := (blk_facts z9).1 0
              have c91 := (blk_facts z9).1 1
              have c92 := (blk_facts z9).1 2
              clear hd hK hC h0
              go_simp
              exact hK2.out _ _ ⟨updV xs 2 (.agg #[.string who, .int .i64 f.heat, .int .i64 ln]), by simp [updV], cond_set hC2.out (fun _ _ h => h) (CV.of rfl rfl), hW.keep (by decide) (by decide) (by decide) (by decide), fun h5 => (by rw [getD_set_other _ (by decide)] at h5 ⊢; exact hX h5)⟩
            · intro listed a w' hs hI h0 hd K2 hK
              obtain ⟨xs, rfl, hC, hW, hX⟩ := hI
              have e2 : xs 2 = .agg #[.string who, .int .i64 f.heat, .int .i64 ln] := (hC 2 (hd ⟨2, .data⟩ (by simp) rfl)) _ rfl
              have hK2 := Lib.hid hK
              have hC2 := Lib.hid hC
              have hL9 := Lib.hid (hW.lay h0 (by decide) (by decide) (by decide))
              clear hd hK hC h0
              go_simp
              exact hK2.out _ _ ⟨updV xs 3 (.slice (some ⟨w'.heap.size, 0, none⟩) 1 1), by simp [updV, e2], cond_set hC2.out (fun _ _ h => h) (CV.free rfl), hL9.out, fun h5 => (by rw [getD_set_other _ (by decide)] at h5 ⊢; exact hX h5)⟩
            · intro listed a w' hs hI h0 hd K2 hK
              obtain ⟨xs, rfl, hC, hW, hX⟩ := hI
              have hK2 := Lib.hid hK
              have hC2 := Lib.hid hC
              obtain ⟨o9, B9, z9, q9, hz9, hnx⟩ := hW.app h0 (hd ⟨1, .data⟩ (by simp) rfl) (hd ⟨3, .data⟩ (by simp) rfl) (by decide) (by decide) (by decide)
              have hnx' := Lib.hid hnx
              clear hd hK hC hnx
              refine step_append_lies _ rfl (.tmp 41) (.tmp 43) 74 (by rfl) _ 90 i0 _ 3 32 Tryz.underlying74 hi0 hz0 hz1 hz2 (by rfl) (by omega) _ _ _ (by rfl) o9 _ 1 1 ([.string who, .int .i64 f.heat, .int .i64 ln]) (by show xs 3 = _; exact q9) rfl (World.news_of_block hz9) (fun u hu => by simp only [List.mem_cons, List.not_mem_nil, or_false] at hu; rcases hu with rfl | rfl | rfl <;> rfl) (by omega) (by unfold maxLen; omega) (by omega) (B9.size) _ rfl ?_
              intro g cap w2 ho hg hat hlt
              exact hK2.out _ _ ⟨updV xs 4 (.slice (some ⟨g, 0, none⟩) ((n) + 1) cap), by first | rfl | simp [updV, Act.put], cond_set hC2.out (fun _ _ h => h) (CV.free rfl), hnx'.out g cap w2 ho hg hat, fun h5 => (by rw [getD_set_other _ (by decide)] at h5; have h6 := (hX h5).1; rw [getD_tf h0] at h6; (cases h6))⟩
            · intro listed a w' hs hI h0 hd K2 hK
              obtain ⟨xs, rfl, hC, hW, hX⟩ := hI
              have hK2 := Lib.hid hK
              have hC2 := Lib.hid hC
              have hA9 := Lib.hid (show listed.getD 4 false = true from hd ⟨4, .data⟩ (by simp) rfl)
              clear hd hK hC h0
              go_simp
              exact hK2.out _ _ ⟨updV xs 5 (xs 4), by simp [updV], cond_set hC2.out (fun _ _ h => h) (CV.free rfl), hW.keep (by decide) (by decide) (by decide) (by decide), fun _ => ⟨by rw [getD_set_other _ (by decide)]; exact hA9.out, rfl⟩⟩
          case he =>
            intro listed a w' hs hI hr
            obtain ⟨xs, rfl, hC, hW, hX⟩ := hI
            have hal := all_listed hs hr ⟨rfl, rfl, rfl, rfl, rfl, rfl, trivial⟩
            have e0 : xs 0 = .slice A n c := (hC 0 (hal 0 (by simp))) _ rfl
            have e2 : xs 2 = .agg #[.string who, .int .i64 f.heat, .int .i64 ln] := (hC 2 (hal 2 (by simp))) _ rfl
            obtain ⟨w1, g, cap, b1, b2, b3, b4, b5, b6⟩ := hW.done0 (hal 4 (by simp)) (getD_out (by rw [hs]; simp))
            have hZ := (hX (hal 5 (by simp))).2
            clear hC hs hr hal hW hX
            have hBw := below_own (below_next hBd b1) b2 b5 (below_next hBd b1).size (Nat.le_trans hz91 (Nat.le_refl _))
            rw [hZ, b3]
            have ho9 : w'.ownsRow w9.drew.heap.size 90 3 (.slice (some ⟨g, 0, none⟩) (n + 1) cap) (n + 1) ((l ++ [(⟨who, f.heat, ln⟩ : Sp)]).flatMap spE) := by rw [List.flatMap_append]; exact b4
            have hS9 := Lib.hid (sortFSp_c 109 (enters_of Tryz.func109 (by kernel_rfl) rfl) (fun x y W => byStart_c x y W) _ _ _ _ _ ho9 (by omega))
            have hq9 := Lib.hid (fun L (hL : SpSortF (l ++ [(⟨who, f.heat, ln⟩ : Sp)]) L) => hq2.out (by rw [hG2.out]; simp) L (by rw [hG2.out]; exact hL))
            have hBo := Lib.hid (fun wz (hg : w'.grownBy wz (Value.slice (some ⟨g, 0, none⟩) (n + 1) cap).ownBlock) => below_own hBw ho9 hg hBw.size hz91)
            have hl9 : (l ++ [(⟨who, f.heat, ln⟩ : Sp)]).length = n + 1 := by rw [List.length_append, hl.out]; rfl
            have hl9' := Lib.hid hl9
            clear b1 b2 b3 b4 b5 b6 ho9 hBw hZ hl9 e0 e2 hq2 hq3 hG2
            go_wp2_with fail
            refine hS9.out.mono ?_; rintro e w10 ⟨rfl, L9, ho10, hs10, hg10⟩
            have hB10 := hBo.out _ hg10
            have hfin := hq9.out L9 hs10
            have hL9 := RN.of_own spE_len ho10 (own_len spE_len (by decide) ho10) (by omega)
            clear hS9 hBo hq9 ho10 hs10 hg10
            go_wp2
            go_ret2
            exact ⟨_, n + 1, cap, true, L9, rfl, hL9, hfin, by omega, hB10⟩
      · obtain rfl : k = m6 := by omega
        have hG2 := Lib.hid (show lateF EL who f.heat LV = [] by rw [← hG.out, drop_end (by rw [hlv]; exact Nat.le_refl _), hF0.out EL])
        have hbel := K.bel
        have hq := hq3.out hG2.out
        clear hG hFa' hF0 K hri hq2 hq3
        go_wp2
        go_ret2
        exact ⟨none, 0, 0, false, [], rfl, RN.nil_ _ _ _ _ _, hq, Nat.zero_le _, hbel⟩
end Go.Proofs.YtffhobmkbabllaaGreatDoor

/- PLAIN: the program's Late is the document's. -/
namespace Go.Proofs.YtffhobmkbabllaaGreatDoor
open Go.RowKit Go.Shelf Go.Lib Go.Sort
set_option linter.unusedVariables false

def spB (x y : Sp) : Prop := x.heat < y.heat ∨ (x.heat = y.heat ∧ x.lane < y.lane)
theorem spB_trans {x y z : Sp} (h : spB x y) (h2 : spB y z) : spB x z := by unfold spB at *; omega
theorem stErr_lt {p : Pl} {y x : Sp} (h : stErr p (some y) x = 0) : spB y x := by
  unfold stErr at h
  split at h
  · cases h
  · split at h
    · cases h
    · dsimp only at h
      split at h
      · cases h
      · rename_i h3
        exact (spLtF_iff y x).1 (by show decide (spCf y x < 0) = true; exact decide_eq_true (by omega))
theorem startsGo_ord {p : Pl} : ∀ (l : List Sp) (seen : List ByteArray) (tw gap : Bool) (last : Int) (prev : Option Sp), startsGo p seen tw gap last prev l = 0 → (∀ y, prev = some y → ∀ x ∈ l, spB y x) ∧ l.Pairwise spB
  | [], _, _, _, _, _, _ => ⟨fun y _ x hx => (by cases hx), List.Pairwise.nil⟩
  | x :: l, seen, tw, gap, last, prev, h => by
    rw [startsGo] at h
    split at h
    · rename_i h3; exact absurd h h3
    · rename_i h3
      have h4 : stErr p prev x = 0 := Decidable.not_not.1 h3
      obtain ⟨i1, i2⟩ := startsGo_ord l _ _ _ _ (some x) h
      refine ⟨fun y hy z hz => ?_, List.pairwise_cons.2 ⟨fun z hz => i1 x rfl z hz, i2⟩⟩
      subst hy
      rcases List.mem_cons.1 hz with rfl | hz
      · exact stErr_lt h4
      · exact spB_trans (stErr_lt h4) (i1 x rfl z hz)
theorem starts_ord {p : Pl} {l : List Sp} (h : startsErr p l = 0) : l.Pairwise spB := by
  unfold startsErr at h
  split at h
  · rename_i h1; exact absurd h h1
  · split at h
    · cases h
    · exact (startsGo_ord l _ _ _ _ none h).2
theorem emL_mem {l : List Sp} {h : Int} {x : Sp} : ∀ (m : Nat) (ln : Int), x ∈ emL l h ln m → x.who = ⟨#[]⟩ ∧ x.heat = h ∧ (ln ≤ x.lane ∧ x.lane < ln + m) ∧ tkn l h x.lane = false
  | 0, ln, hx => by cases hx
  | m + 1, ln, hx => by
    rw [emL] at hx
    rcases List.mem_append.1 hx with hx | hx
    · split at hx
      · cases hx
      · rename_i h1
        obtain rfl := List.mem_singleton.1 hx
        exact ⟨rfl, rfl, by dsimp only; omega, by simpa using h1⟩
    · obtain ⟨a1, a2, a3, a4⟩ := emL_mem m (ln + 1) hx
      exact ⟨a1, a2, by omega, a4⟩
theorem emH_mem {p : Pl} {l : List Sp} {x : Sp} : ∀ (m : Nat) (h : Int), x ∈ emH p l h m → x.who = ⟨#[]⟩ ∧ (p.lo ≤ x.lane ∧ x.lane ≤ p.hi) ∧ tkn l x.heat x.lane = false
  | 0, h, hx => by cases hx
  | m + 1, h, hx => by
    rw [emH] at hx
    rcases List.mem_append.1 hx with hx | hx
    · obtain ⟨a1, a2, a3, a4⟩ := emL_mem _ _ hx
      exact ⟨a1, by omega, by rw [a2]; exact a4⟩
    · exact emH_mem m (h + 1) hx
theorem empty_mem {p : Pl} {l : List Sp} {x : Sp} (hx : x ∈ emptyL p l) : x.who = ⟨#[]⟩ ∧ (p.lo ≤ x.lane ∧ x.lane ≤ p.hi) ∧ tkn l x.heat x.lane = false := emH_mem _ _ hx
set_option maxRecDepth 100000 in
theorem lanes_all : ∀ lo hi : Fin 11, 1 ≤ lo.val → lo.val ≤ hi.val → ∀ x : Fin 11, lo.val ≤ x.val → x.val ≤ hi.val → (x.val : Int) ∈ laneV lo.val hi.val := by decide
theorem lanes_mem {p : Pl} (hp : PlOk p) {x : Int} (h1 : p.lo ≤ x) (h2 : x ≤ p.hi) : x ∈ laneV p.lo p.hi := by
  obtain ⟨⟨p0, p1⟩, p2, _, _⟩ := hp
  have h := lanes_all ⟨p.lo.toNat, by omega⟩ ⟨p.hi.toNat, by omega⟩ (by show 1 ≤ p.lo.toNat; omega) (by show p.lo.toNat ≤ p.hi.toNat; omega) ⟨x.toNat, by omega⟩ (by show p.lo.toNat ≤ x.toNat; omega) (by show x.toNat ≤ p.hi.toNat; omega)
  simp only [Int.toNat_of_nonneg (show 0 ≤ p.lo by omega), Int.toNat_of_nonneg (show 0 ≤ p.hi by omega), Int.toNat_of_nonneg (show 0 ≤ x by omega)] at h
  exact h
theorem lateF_some {p : Pl} (hp : PlOk p) {l : List Sp} {who : ByteArray} {f : Sp} (hf : f ∈ emptyL p l) : ∃ ln, lateF (emptyL p l) who f.heat (laneV p.lo p.hi) = [⟨who, f.heat, ln⟩] ∧ tkn l f.heat ln = false := by
  obtain ⟨a1, ⟨a2, a3⟩, a4⟩ := empty_mem hf
  unfold lateF
  cases hc : (laneV p.lo p.hi).find? (fun ln => decide ((⟨⟨#[]⟩, f.heat, ln⟩ : Sp) ∈ emptyL p l)) with
  | none =>
    have h1 := List.find?_eq_none.1 hc f.lane (lanes_mem hp a2 a3)
    obtain ⟨fw, fh, fl⟩ := f
    dsimp only at *
    subst a1
    exact absurd (decide_eq_true hf) h1
  | some ln =>
    have h9 := List.find?_some hc
    have h1 : (⟨⟨#[]⟩, f.heat, ln⟩ : Sp) ∈ emptyL p l := of_decide_eq_true h9
    exact ⟨ln, rfl, (empty_mem h1).2.2⟩
theorem spSort_uniq {M L1 L2 : List Sp} (hd : M.Pairwise fun x y => ¬ (x.heat = y.heat ∧ x.lane = y.lane)) (h1 : SpSortF M L1) (h2 : SpSortF M L2) : L1 = L2 := by
  refine List.Perm.eq_of_pairwise (le := fun x y => ltOf spCf y x = false) (fun a b ha hb h3 h4 => ?_) h1.2 h2.2 (h1.1.trans h2.1.symm)
  rw [spLtF_no] at h3 h4
  have ha' := h1.1.mem_iff.1 ha
  have hb' := h2.1.mem_iff.1 hb
  by_cases e : a = b
  · exact e
  · have h5 : a.heat = b.heat ∧ a.lane = b.lane := by omega
    obtain ⟨i, hi, ei⟩ := List.getElem_of_mem ha'
    obtain ⟨j, hj, ej⟩ := List.getElem_of_mem hb'
    have hp := List.pairwise_iff_getElem.1 hd
    rcases Nat.lt_trichotomy i j with h6 | h6 | h6
    · have := hp i j hi hj h6
      rw [ei, ej] at this
      exact absurd h5 this
    · subst h6
      exact absurd (ei.symm.trans ej) e
    · have := hp j i hj hi h6
      rw [ei, ej] at this
      exact absurd ⟨h5.1.symm, h5.2.symm⟩ this
theorem late_det {p : Pl} {l : List Sp} {sd : Sd} {L1 L2 : List Sp} {b1 b2 : Bool} (h0 : lateErr p l sd = 0) (hs : startsErr p l = 0) (h1 : LateQ p l sd L1 b1) (h2 : LateO p l sd L2 b2) : L1 = L2 ∧ b1 = b2 := by
  unfold LateQ at h1
  rw [if_neg (by simpa using h0)] at h1
  unfold LateO at h2
  cases he : emptyL p l with
  | nil =>
    rw [he] at h1 h2
    exact ⟨h1.1.trans h2.1.symm, h1.2.trans h2.2.symm⟩
  | cons f r =>
    obtain ⟨ln, e1, e2⟩ := lateF_some (who := sd.who) (startsErr_ok hs).pool (l := l) (f := f) (by rw [he]; exact List.mem_cons_self)
    rw [he] at h1 h2 e1
    dsimp only at h1 h2
    rw [e1] at h1 h2
    rw [if_neg (by simp)] at h2
    refine ⟨spSort_uniq ?_ h1.2 h2.2, h1.1.trans h2.1.symm⟩
    refine List.pairwise_append.2 ⟨(starts_ord hs).imp (fun h => by unfold spB at h; omega), by simp, fun x hx y hy => ?_⟩
    obtain rfl := List.mem_singleton.1 hy
    dsimp only
    intro h9
    have h8 := List.any_eq_false.1 (show (l.any fun x => decide (x.heat = f.heat ∧ x.lane = ln)) = false from e2) x hx
    exact h8 (decide_eq_true h9)
end Go.Proofs.YtffhobmkbabllaaGreatDoor
