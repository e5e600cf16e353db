import Derived.Test.YtdbfcneeiiialaaGreatDoorSetSp
import Derived.BigRegion
import Derived.Test.YtdbfcneeiiialaaGreatDoorDrawP
import Derived.Test.YtdbfcneeiiialaaGreatDoorScrP
import Derived.Test.YtdbfcneeiiialaaGreatDoorSymB
import Derived.Test.YtdbfcneeiiialaaGreatDoorSeedC
/- heat.Late. -/
namespace Go.Proofs.YtdbfcneeiiialaaGreatDoor
open Go.RowKit Go.Shelf Go.Lib Go.Sort
set_option linter.unusedVariables false

def lateErr (p : Pl) (l : List Sp) (x : Sd) : Int := if startsErr p l ≠ 0 then startsErr p l else if seedErr [x] ≠ 0 then seedErr [x] else if Lib.containsS (l.map Sp.who) x.who = true then 6 else if 300 ≤ l.length then 2 else 0
def lateF (EL : List Sp) (who : ByteArray) (h : Int) (LV : List Int) : List Sp := match LV.find? (fun ln => decide ((⟨⟨#[]⟩, h, ln⟩ : Sp) ∈ EL)) with
  | some ln => [⟨who, h, ln⟩]
  | none => []
theorem lateF_at (EL : List Sp) (who : ByteArray) (h : Int) {LV : List Int} {k : Nat} {ln : Int} (hx : LV[k]? = some ln) : lateF EL who h (LV.drop k) = if decide ((⟨⟨#[]⟩, h, ln⟩ : Sp) ∈ EL) = true then [⟨who, h, ln⟩] else lateF EL who h (LV.drop (k + 1)) := by
  rw [drop_at hx]
  unfold lateF
  rw [List.find?_cons]
  by_cases hc : decide ((⟨⟨#[]⟩, h, ln⟩ : Sp) ∈ EL) = true
  · rw [if_pos hc, hc]
  · rw [if_neg hc, Bool.eq_false_iff.2 hc]
theorem sameLt_c (x : Sp) (sd : Sd) (b2 : Nat) (W : World) (hb : W.heap[b2]? = some (.cells #[.string sd.who, .int .i64 sd.time] 40 (0, 0))) :
    Calls Tryz.prog 151 (#[.agg (spE x).toArray] ++ #[.pointer (some ⟨b2, 0, none⟩)]) W fun e w' => e = .returned (.bool (decide (x.who = sd.who))) ∧ Below W.heap.size W w' := by
  obtain ⟨who, heat, lane⟩ := x
  obtain ⟨s, tm⟩ := sd
  dsimp only [spE] at *
  have z0 := (blk_facts (heap_alloc_new W (.cells #[.string who, .int .i64 heat, .int .i64 lane] 111))).1 0
  have zs := (blk_facts (blk_alloc hb (.cells #[.string who, .int .i64 heat, .int .i64 lane] 111))).1 0
  have hB := below_new W (.cells #[.string who, .int .i64 heat, .int .i64 lane] 111)
  have lb := lt_of_heap hb
  clear hb
  by_cases h : who = s
  · subst h
    go_enter Tryz.func151, Tryz.ntmps151
    go_wp2
    go_ret
    exact ⟨by simp, hB⟩
  · have hn := str_ne h
    have h' := Lib.hid h
    clear h
    go_enter Tryz.func151, Tryz.ntmps151
    go_wp2
    go_ret
    exact ⟨by simp [h'.out], hB⟩
theorem sortStartsF_c (l : List Sp) (w : World) (base n : Nat) (u : Value) (hown : w.ownsRow base 111 3 u n (l.flatMap spE)) (hn : n ≤ 1000) :
    Calls Tryz.prog 154 #[u] w fun e w' => e = .returned (.tuple #[]) ∧ ∃ l', w'.ownsRow base 111 3 u n (l'.flatMap spE) ∧ SpSortF l l' ∧ w.grownBy w' u.ownBlock := by
  have hSF := Lib.hid (sortFSp_c 223 (enters_of Tryz.func223 (by kernel_rfl) rfl) (fun x y W => compareStarts_c x y W) l w base n u hown hn)
  obtain ⟨A, c, rfl⟩ := own_shape hown
  clear hown
  go_enter Tryz.func154, Tryz.ntmps154
  go_wp2_with fail
  refine hSF.out.mono ?_; rintro e w' ⟨rfl, l', h1, h2, h3⟩
  go_wp2
  go_end0
  exact ⟨rfl, l', h1, h2, h3⟩
/-- the row of a seed alone -/
theorem oneSeed (w : World) (sd : Sd) : RSd (w.alloc (.cells #[.string sd.who, .int .i64 sd.time] 40)) (some ⟨w.heap.size, 0, none⟩) 1 [sd] := by
  refine ⟨rfl, by omega, fun _ => ⟨w.heap.size, 0, _, _, rfl, heap_alloc_new w _, fun k x hx q v hv => ?_⟩⟩
  cases k with
  | zero =>
    obtain rfl : sd = x := by simpa using hx
    simp only [sdE] at hv
    rcases q with _ | _ | q
    · simpa using hv
    · simpa using hv
    · simp at hv
  | succ k => simp at hx
def LateQ (p : Pl) (l : List Sp) (sd : Sd) (L : List Sp) (b : Bool) : Prop := if lateErr p l sd ≠ 0 then L = [] ∧ b = false else match emptyL p l with
  | [] => L = l ∧ b = false
  | f :: _ => b = true ∧ SpSortF (l ++ lateF (emptyL p l) sd.who f.heat (laneV p.lo p.hi)) L
structure LtK (w : World) (sd : Sd) (p : Pl) (base : Nat) (u : Value) (L EL : List Sp) (Af : Option Addr) (nf : Nat) (wx : World) : Prop where
  o : wx.ownsRow base 111 3 u L.length (L.flatMap spE)
  xb : wx.heap[w.heap.size + 1]? = some (.cells #[.string sd.who, .int .i64 sd.time] 40 (0, 0))
  pb : PoolB w.heap.size p wx
  f : RSp wx Af nf EL
  bel : Below w.heap.size w wx
  l1 : w.heap.size + 2 ≤ base
  z : base ≤ wx.heap.size
theorem LtK.below {w wx w' : World} {sd : Sd} {p : Pl} {base : Nat} {u : Value} {L EL : List Sp} {Af : Option Addr} {nf : Nat} (h : LtK w sd p base u L EL Af nf wx) (B : Below wx.heap.size wx w') : LtK w sd p base u L EL Af nf w' :=
  ⟨own_below h.o B, blk_below h.xb B, h.pb.keep _ _ B, h.f.below B, below_next h.bel B, h.l1, Nat.le_trans h.z B.size⟩
set_option maxHeartbeats 6400000 in
set_option maxRecDepth 100000 in
theorem late_c (p : Pl) (hpb : PlBd p) (A : Option Addr) (n c : Nat) (l : List Sp) (sd : Sd) (w : World) (h : RSp w A n l) (hn : n ≤ 400) :
    Calls Tryz.prog 68 #[p.val, .slice A n c, .agg #[.string sd.who, .int .i64 sd.time]] w fun e w' => ∃ A' n' c' b L, e = .returned (.tuple #[.slice A' n' c', .bool b, .int .i64 (lateErr p l sd)]) ∧ RSp w' A' n' L ∧ LateQ p l sd L b ∧ n' ≤ 1000 ∧ Below w.heap.size w w' := by
  have hR := Lib.hid (fun W B => h.below (w' := W) B)
  have hl := Lib.hid h.len
  have hB1 : Below w.heap.size w ((w.alloc (.cells p.cells 97)).alloc (.cells #[.string sd.who, .int .i64 sd.time] 40)) := below_next (below_new w (.cells p.cells 97)) (below_new _ (.cells #[.string sd.who, .int .i64 sd.time] 40))
  have hx0 := heap_alloc_new (w.alloc (.cells p.cells 97)) (.cells #[.string sd.who, .int .i64 sd.time] 40)
  rw [alloc_size] at hx0
  have hp0 : PoolB w.heap.size p ((w.alloc (.cells p.cells 97)).alloc (.cells #[.string sd.who, .int .i64 sd.time] 40)) := blk_alloc (heap_alloc_new w _) _
  have hz1 : w.heap.size + 2 ≤ ((w.alloc (.cells p.cells 97)).alloc (.cells #[.string sd.who, .int .i64 sd.time] 40)).heap.size := by simp
  have hCS := Lib.hid (checkStarts_c p hpb A n c l _ (h.below hB1))
  have hCd := Lib.hid (fun W => checkSeeds_c (some ⟨W.heap.size, 0, none⟩) 1 1 [sd] (W.alloc (.cells #[.string sd.who, .int .i64 sd.time] 40)) (oneSeed W sd))
  have hHs := Lib.hid (fun W B (hb : W.heap[w.heap.size + 1]? = some (.cells #[.string sd.who, .int .i64 sd.time] 40 (0, 0))) => hasSp_c 151 (enters_of Tryz.func151 (by kernel_rfl) rfl) #[.pointer (some ⟨w.heap.size + 1, 0, none⟩)] (fun x => decide (x.who = sd.who)) A n c l W (h.below (w' := W) B) (fun x _ W2 B2 => sameLt_c x sd (w.heap.size + 1) W2 (blk_below hb B2)))
  rw [any_who] at hHs
  have hEm := Lib.hid (fun W B => empty_c p hpb A n c l W (h.below (w' := W) B))
  have hCl := Lib.hid (fun W B => cloneSp_c A n c l W (h.below (w' := W) B) (by omega))
  have hE : lateErr p l sd = (if startsErr p l ≠ 0 then startsErr p l else if seedErr [sd] ≠ 0 then seedErr [sd] else if Lib.containsS (l.map Sp.who) sd.who = true then 6 else if 300 ≤ n then 2 else 0) := by unfold lateErr; rw [h.len]
  have hQ0 := Lib.hid (fun (h0 : lateErr p l sd ≠ 0) => show LateQ p l sd [] false by unfold LateQ; rw [if_pos h0]; exact ⟨rfl, rfl⟩)
  have hQ1 := Lib.hid (fun (h0 : lateErr p l sd = 0) (h1 : emptyL p l = []) => show LateQ p l sd l false by unfold LateQ; rw [if_neg (by simpa using h0), h1]; exact ⟨rfl, rfl⟩)
  have hQ2 := Lib.hid (fun (h0 : lateErr p l sd = 0) (f : Sp) r (h1 : emptyL p l = f :: r) L (hL : SpSortF (l ++ lateF (emptyL p l) sd.who f.heat (laneV p.lo p.hi)) L) => show LateQ p l sd L true by unfold LateQ; rw [if_neg (by simpa using h0), h1]; rw [h1] at hL; exact ⟨rfl, hL⟩)
  have hLn := Lib.hid (fun (h0 : startsErr p l = 0) W => lanesOfP_c p (startsErr_ok h0).pool W)
  have hPl0 := Lib.hid (fun (h0 : startsErr p l = 0) => show 1 ≤ p.lo ∧ p.lo ≤ p.hi ∧ p.hi ≤ 10 from ⟨(startsErr_ok h0).pool.1.1, (startsErr_ok h0).pool.1.2, (startsErr_ok h0).pool.2.1⟩)
  have hFa := Lib.hid (fun who hh k ln (hx : (laneV p.lo p.hi)[k]? = some ln) => lateF_at (emptyL p l) who hh hx)
  have hCt := Lib.hid (fun Af nf cf W (y : Sp) (hf : RSp W Af nf (emptyL p l)) (hnf : nf ≤ 1000) => containsSp_c Af nf cf (emptyL p l) y W hf hnf)
  generalize startsErr p l = SE at *
  generalize seedErr [sd] = DE at *
  generalize Lib.containsS (l.map Sp.who) sd.who = CE at *
  generalize lateErr p l sd = E at *
  have hE' := Lib.hid hE
  obtain ⟨z0, z1, z2, z3⟩ := hp0.at_
  have hx1 := (blk_facts hx0).1 0
  have hx2 := (blk_facts hx0).1 1
  clear hE h hpb
  generalize hLQ : LateQ p l sd = LQ at *
  clear hLQ
  obtain ⟨who, tm⟩ := sd
  obtain ⟨lo, hi, le, ci⟩ := p
  dsimp only [Pl.val, Pl.cells] at *
  go_enter Tryz.func68, Tryz.ntmps68
  go_wp2_with fail
  refine hCS.out.mono ?_; rintro e w1 ⟨rfl, B1⟩
  have hB2 := below_next hB1 B1
  have hx3 := blk_below hx0 B1
  have hp3 := PoolB.keep _ _ hp0 B1
  have hz2 := Nat.le_trans hz1 B1.size
  clear hB1 hx0 hCS B1 hz1 hp0 z0 z1 z2 z3 hx1 hx2
  by_cases h0 : SE = 0
  rotate_left
  · obtain rfl : SE = E := by rw [hE'.out, if_pos h0]
    have hd : (SE != 0) = true := by simpa using h0
    have hq := hQ0.out h0
    clear h0 hE' hQ0 hQ1 hQ2 hLn hFa hCt hEm hHs hCd hCl
    go_wp2
    go_ret3
    exact ⟨none, 0, 0, false, [], rfl, RN.nil_ _ _ _ _ _, hq, Nat.zero_le _, hB2⟩
  subst h0
  have y0 := (blk_facts hx3).1 0
  have y1 := (blk_facts hx3).1 1
  have hlx := lt_of_heap hx3
  go_wp2_with fail
  refine (hCd.out w1).mono ?_; rintro e w2 ⟨rfl, B2⟩
  have hB3 := below_next (below_next hB2 (below_new w1 _)) B2
  have hx4 := blk_below (blk_alloc hx3 _) B2
  have hp4 := PoolB.keep _ _ (PoolB.keep _ _ hp3 (below_new w1 _)) B2
  have hz3 := Nat.le_trans (Nat.le_trans hz2 (below_new w1 _).size) B2.size
  clear hCd hB2 hx3 hp3 hz2 B2 y0 y1 hlx
  by_cases h1 : DE = 0
  rotate_left
  · obtain rfl : DE = E := by rw [hE'.out, if_neg (by simp), if_pos h1]
    have hd : (DE != 0) = true := by simpa using h1
    have hq := hQ0.out h1
    clear h1 hE' hQ0 hQ1 hQ2 hLn hFa hCt hEm hHs hCl
    go_wp2
    go_ret3
    exact ⟨none, 0, 0, false, [], rfl, RN.nil_ _ _ _ _ _, hq, Nat.zero_le _, hB3⟩
  subst h1
  have hH := Lib.hid (hHs.out w2 hB3 hx4)
  clear hHs
  go_wp2_with fail
  refine hH.out.mono ?_; rintro e w3 ⟨rfl, B3⟩
  have hB4 := below_next hB3 B3
  have hx5 := blk_below hx4 B3
  have hp5 := PoolB.keep _ _ hp4 B3
  have hz4 := Nat.le_trans hz3 B3.size
  clear hH hB3 hx4 hp4 hz3 B3
  cases CE
  rotate_left
  · obtain rfl : E = 6 := by rw [hE'.out, if_neg (by simp), if_neg (by simp), if_pos rfl]
    have hq := hQ0.out (by decide)
    clear hE' hQ0 hQ1 hQ2 hLn hFa hCt hEm hCl
    go_wp2
    go_ret3
    exact ⟨none, 0, 0, false, [], rfl, RN.nil_ _ _ _ _ _, hq, Nat.zero_le _, hB4⟩
  by_cases h3 : 300 ≤ n
  · obtain rfl : E = 2 := by rw [hE'.out, if_neg (by simp), if_neg (by simp), if_neg (by simp), if_pos h3]
    have hq := hQ0.out (by decide)
    have h3' : (300 : Int) ≤ (n : Int) := by omega
    clear hE' hQ0 hQ1 hQ2 hLn hFa hCt hEm hCl
    go_wp2
    go_ret3
    exact ⟨none, 0, 0, false, [], rfl, RN.nil_ _ _ _ _ _, hq, Nat.zero_le _, hB4⟩
  obtain rfl : E = 0 := by rw [hE'.out, if_neg (by simp), if_neg (by simp), if_neg (by simp), if_neg h3]
  have h3' : ¬ (300 : Int) ≤ (n : Int) := by omega
  have hQ1' := Lib.hid (hQ1.out rfl)
  have hQ2' := Lib.hid (hQ2.out rfl)
  have hLn' := Lib.hid (hLn.out (by first | trivial | rfl))
  have hPl := Lib.hid (hPl0.out (by first | trivial | rfl))
  have hEm' := Lib.hid (hEm.out w3 hB4)
  clear hE' hQ0 hQ1 hQ2 hLn hEm
  obtain ⟨z0, z1, z2, z3⟩ := hp5.at_
  have hl0 := lt_of_heap hp5
  go_wp2_with fail
  refine hEm'.out.mono ?_; rintro e w4 ⟨Af, nf, cf, rfl, rf4, hnf, hcf, B4⟩
  rw [if_pos trivial] at rf4
  have hB5 := below_next hB4 B4
  have hx6 := blk_below hx5 B4
  have hp6 := PoolB.keep _ _ hp5 B4
  have hz5 := Nat.le_trans hz4 B4.size
  have hCl4 := Lib.hid (hCl.out w4 hB5)
  clear hEm' hB4 hx5 hp5 hz4 B4 z0 z1 z2 z3 hl0 hCl
  go_wp2_with fail
  refine hCl4.out.mono ?_; rintro e w5 ⟨A5, c5, rfl, ho5, B5⟩
  have K5 : LtK w ⟨who, tm⟩ ⟨lo, hi, le, ci⟩ w4.heap.size (.slice A5 n c5) l (emptyL ⟨lo, hi, le, ci⟩ l) Af nf w5 := ⟨by rw [hl.out]; exact ho5, blk_below hx6 B5, PoolB.keep _ _ hp6 B5, rf4.below B5, below_next hB5 B5, hz5, B5.size⟩
  have hR5 : RSp w5 A5 n l := RN.of_own spE_len ho5 hl.out (by omega)
  clear hCl4 rf4 hx6 hp6 hB5 hz5 B5 ho5
  by_cases hf0 : nf = 0
  · subst hf0
    have he : emptyL ⟨lo, hi, le, ci⟩ l = [] := List.eq_nil_of_length_eq_zero K5.f.len
    have hq := hQ1'.out he
    have hbel := K5.bel
    clear hQ1' hQ2' hLn' he K5 hFa hCt
    go_wp2
    go_ret3
    exact ⟨_, _, _, false, l, rfl, hR5, hq, by omega, hbel⟩
  · have hf1 : ((nf : Int) == 0) = false := beq_eq_false_iff_ne.2 (by omega)
    obtain ⟨z0, z1, z2, z3⟩ := K5.pb.at_
    have hl0 := lt_of_heap K5.pb
    have hL5 := Lib.hid (hLn'.out w5)
    clear hQ1' hLn' hR5
    go_wp2_with fail
    refine hL5.out.mono ?_; rintro e w6 ⟨A6, m6, c6, rfl, ho6, hlv, B6⟩
    have K6 := K5.below B6
    have hm6 : m6 ≤ 1000 := by
      have h1 := laneV_len (lo := lo) (hi := hi) (by have := hPl.out; omega)
      have h2 := hPl.out
      omega
    obtain ⟨A7, c7, h7e, _, hri⟩ := own_ints ho6 (by omega)
    injection h7e with e1 e2 e3
    subst e1 e3
    obtain ⟨f, r, hfe⟩ : ∃ f r, emptyL ⟨lo, hi, le, ci⟩ l = f :: r := by
      cases he : emptyL ⟨lo, hi, le, ci⟩ l with
      | nil => exact absurd (by have := K6.f.len; rw [he] at this; exact this.symm) hf0
      | cons f r => exact ⟨f, r, rfl⟩
    have hq2 := Lib.hid (hQ2'.out f r hfe)
    have hf0e := Lib.hid (show (emptyL ⟨lo, hi, le, ci⟩ l)[0]? = some f by rw [hfe]; rfl)
    obtain ⟨fb, rfl, hfc⟩ : ∃ fb, Af = some ⟨fb, 0, none⟩ ∧ nf ≤ cf := by
      rcases hcf with ⟨_, h0, _⟩ | ⟨b, h1, h2⟩
      · exact absurd h0 hf0
      · exact ⟨b, h1, h2⟩
    have hnp : 0 < nf := by omega
    have hFa' := Lib.hid (fun k ln hx => hFa.out who f.heat k ln hx)
    have hF0 := Lib.hid (fun EL => show lateF EL who f.heat [] = [] from rfl)
    clear hQ2' hfe hcf K5 B6 ho6 z0 z1 z2 z3 hl0 hL5 hFa hf0 hf1
    generalize hw4 : w4.heap.size = base at *
    clear hw4
    generalize emptyL ⟨lo, hi, le, ci⟩ l = EL at *
    generalize laneV lo hi = LV at *
    go_wp2_with fail
    go_loopw [13, 15, 50] (fun u _ i wx => ∃ k : Nat, k ≤ m6 ∧ i = .int .i64 k ∧ u = .slice A5 n c5 ∧ LtK w ⟨who, tm⟩ ⟨lo, hi, le, ci⟩ base (.slice A5 n c5) l EL (some ⟨fb, 0, none⟩) nf wx ∧ RI 3 wx A6 m6 LV ∧ Hid (lateF EL who f.heat (LV.drop k) = lateF EL who f.heat LV)) (fun _ _ i _ => m6 - (intOf i).toNat)
    case atStart => exact ⟨0, Nat.zero_le _, rfl, rfl, K6, hri, Lib.hid rfl⟩
    case round =>
      clear K6 hri
      rename World => wx
      obtain ⟨k, hk, rfl, rfl, K, hri, hG⟩ := hrel
      by_cases hlt : k < m6
      · obtain ⟨lb, loff, ln, rfl, hlb, hx, hc⟩ := hri.at_ hlt
        have hst := Lib.hid (hFa'.out k ln hx)
        obtain ⟨b', off', f', hA, hbf, hf', d0, d1, d2⟩ := RSp_at3 K.f (k := 0) hnp
        injection hA with hA
        injection hA with q1 q2
        subst q1 q2
        rw [hf0e.out] at hf'
        obtain rfl := Option.some.inj hf'
        rw [Nat.zero_mul, Nat.zero_add] at d1
        have d1' : wx.cell? ⟨fb, 1, none⟩ = some (.int .i64 f.heat) := by simpa using d1
        have hbn := below_new wx (.cells #[.string ⟨#[]⟩, .int .i64 f.heat, .int .i64 ln] 111)
        have hnw := heap_alloc_new wx (.cells #[.string ⟨#[]⟩, .int .i64 f.heat, .int .i64 ln] 111)
        have K7 := K.below hbn
        have hri7 := hri.below hbn
        have hC7 := Lib.hid (hCt.out _ _ cf _ (⟨⟨#[]⟩, f.heat, ln⟩ : Sp) K7.f hnf)
        have x0 := (blk_facts hnw).1 0
        have x1 := (blk_facts hnw).1 1
        have x2 := (blk_facts hnw).1 2
        have hb7 : base ≤ wx.heap.size := K.z
        have hne7 : ∀ i, (Value.slice A5 n c5).ownBlock = some i → i ≠ wx.heap.size := fun i hi => by have := (K.o.lt i hi).2; omega
        clear hx d0 d2 d1 hbn K hri
        dsimp only at *
        go_wp2_with fail
        refine hC7.out.mono ?_; rintro e w8 ⟨rfl, B8⟩
        have K8 := K7.below B8
        have hri8 := hri7.below B8
        have hb8 := blk_below hnw B8
        clear hC7 K7 hri7 hnw x0 x1 x2 B8 d1'
        generalize wx.heap.size = b7 at *
        obtain ⟨cc, hcc⟩ : ∃ cc, decide ((⟨⟨#[]⟩, f.heat, ln⟩ : Sp) ∈ EL) = cc := ⟨_, rfl⟩
        rw [hcc] at hst ⊢
        clear hcc
        cases cc
        · have hG2 := Lib.hid (show lateF EL who f.heat (LV.drop (k + 1)) = lateF EL who f.heat LV by rw [← hG.out, hst.out, if_neg (by simp)])
          clear hG hst
          go_wp2
          go_roundw
          case rel => exact ⟨k + 1, by omega, by go_num, rfl, K8, hri8, hG2⟩
          case measure => simp [intOf]; omega
        · have hG2 := Lib.hid (show lateF EL who f.heat LV = [⟨who, f.heat, ln⟩] by rw [← hG.out, hst.out, if_pos rfl])
          have x80 := (blk_facts hb8).1 0
          have f80 := (blk_facts hb8).2 0
          have xs0 := (blk_facts K8.xb).1 0
          have lxb := lt_of_heap K8.xb
          have lb8 := lt_of_heap hb8
          have hgs : w8.grownBy (w8.setCell ⟨b7, 0, none⟩ (.string who)) (some b7) := grown_setCell (grown_refl _ _) (.inl rfl) _
          have ho9 := K8.o.kept hgs (by by_cases e : (Value.slice A5 n c5).ownBlock = some b7; exact absurd rfl (hne7 b7 e); exact .inr e)
          have hl1 := K8.l1
          have hz8 := K8.z
          have hBs : Below w.heap.size w (w8.setCell ⟨b7, 0, none⟩ (.string who)) := Below.setCell K8.bel (by show w.heap.size ≤ b7; omega) _
          have hz9 : base ≤ (w8.setCell ⟨b7, 0, none⟩ (.string who)).heap.size := Nat.le_trans K8.z hgs.size
          have hx9 := blk_set hb8 0 (.string who)
          have x90 := (blk_facts hx9).1 0
          have x91 := (blk_facts hx9).1 1
          have x92 := (blk_facts hx9).1 2
          rw [hl.out] at ho9
          clear hG hst K8 hri8 hb8 hgs hx9 hFa' hF0
          go_wp2_with (at_builtin; refine wpList_app rfl (.tmp 66) (.tmp 68) 103 rfl Tryz.underlying103 info_start rfl (by omega) (by omega) ho9 rfl rfl (by first | rfl | (simp; done)) rfl (by simp [Value.oneCell']) (by omega) hz9 ?_; intro v9 w9 hoA hgA)
          have hoB : w9.ownsRow base 111 3 v9 (n + 1) ((l ++ [(⟨who, f.heat, ln⟩ : Sp)]).flatMap spE) := by rw [← flat_snoc]; exact hoA
          have hBA := below_own hBs ho9 hgA hBs.size (by omega)
          have hzA := Nat.le_trans hz9 hgA.size
          obtain ⟨A9, c9, rfl⟩ := own_shape hoB
          have hSo := Lib.hid (sortStartsF_c _ w9 base (n + 1) _ hoB (by omega))
          clear hoA hgA hBs ho9
          go_wp2_with fail
          refine hSo.out.mono ?_; rintro e wz ⟨rfl, l', hoz, hsz, hgz⟩
          have hBz := below_own hBA hoB hgz hBA.size (by omega)
          have hlz := own_len spE_len (by decide) hoz
          have hrz : RSp wz A9 (n + 1) l' := RN.of_own spE_len hoz hlz (by omega)
          have hq := hq2.out l' (by rw [hG2.out]; exact hsz)
          clear hSo hoz hsz hgz hBA hoB hG2 hq2
          go_wp2
          go_ret3
          exact ⟨_, _, _, true, l', rfl, hrz, hq, by omega, hBz⟩
      · obtain rfl : k = m6 := by omega
        have hG2 := Lib.hid (show lateF EL who f.heat LV = [] by rw [← hG.out, drop_end (by rw [hlv]; exact Nat.le_refl _), hF0.out EL])
        have ho9 := K.o
        rw [hl.out] at ho9
        have hbel := K.bel
        have hl1 := K.l1
        have hSo := Lib.hid (sortStartsF_c l wx base n (.slice A5 n c5) ho9 (by omega))
        clear hG hFa' hF0 K hri
        go_wp2_with fail
        refine hSo.out.mono ?_; rintro e wz ⟨rfl, l', hoz, hsz, hgz⟩
        have hBz := below_own hbel ho9 hgz hbel.size (by omega)
        have hlz := own_len spE_len (by decide) hoz
        have hrz : RSp wz A5 n l' := RN.of_own spE_len hoz hlz (by omega)
        have hq := hq2.out l' (by rw [hG2.out, List.append_nil]; exact hsz)
        clear hSo hoz hsz hgz hbel ho9 hG2 hq2
        go_wp2
        go_ret3
        exact ⟨_, _, _, true, l', rfl, hrz, hq, by omega, hBz⟩
end Go.Proofs.YtdbfcneeiiialaaGreatDoor

/- tumbref1.LateOf. -/
namespace Go.Proofs.YtdbfcneeiiialaaGreatDoor
open Go.RowKit Go.Shelf Go.Lib Go.Sort
set_option linter.unusedVariables false

def LateO (p : Pl) (l : List Sp) (sd : Sd) (L : List Sp) (b : Bool) : Prop := match emptyL p l with
  | [] => L = l ∧ b = false
  | f :: _ => if lateF (emptyL p l) sd.who f.heat (laneV p.lo p.hi) = [] then L = [] ∧ b = false else b = true ∧ SpSortF (l ++ lateF (emptyL p l) sd.who f.heat (laneV p.lo p.hi)) L
set_option maxRecDepth 100000 in
theorem appSp_run (w0 W : World) (base n : Nat) (v : Value) (L : List Sp) (y : Sp) (zb : Nat) (hown : W.ownsRow base 111 3 v n (L.flatMap spE)) (hz : W.heap[zb]? = some (.cells (spE y).toArray 111 (0, 0))) (hn : n ≤ 1000) (hb : base ≤ W.heap.size) (hB : Below w0.heap.size w0 W) (h0 : w0.heap.size ≤ base) : ∃ v' w', (Builtin.append_ #[103, 103] 103 #[v, .slice (some ⟨zb, 0, none⟩) 1 1]).run Tryz.prog W = .ok v' w' ∧ w'.ownsRow base 111 3 v' (n + 1) ((L ++ [y]).flatMap spE) ∧ Below w0.heap.size w0 w' ∧ base ≤ w'.heap.size := by
  obtain ⟨i, hi, hz0, hz1, hz2⟩ := info_parts info_start
  obtain ⟨v', w', hr, ho, hg, _⟩ := run_append_own W base 103 103 111 i _ 3 32 Tryz.underlying103 hi hz0 hz1 hz2 rfl (by omega) v n _ hown ⟨zb, 0, none⟩ 1 1 (spE y) rfl (fun j u hj => by rw [add_flat, Nat.zero_add, (blk_facts hz).1 j, List.getElem?_toArray]; exact hj) (fun u hu => by simp only [spE, List.mem_cons, List.not_mem_nil, or_false] at hu; rcases hu with rfl | rfl | rfl <;> rfl) (by unfold maxLen; omega) (by omega) hb
  exact ⟨v', w', hr, by rw [← flat_snoc]; exact ho, below_own hB hown hg hB.size h0, Nat.le_trans hb hg.size⟩
end Go.Proofs.YtdbfcneeiiialaaGreatDoor

/- PLAIN: the program's Late is the document's. -/
namespace Go.Proofs.YtdbfcneeiiialaaGreatDoor
open Go.RowKit Go.Shelf Go.Lib Go.Sort
set_option linter.unusedVariables false

def spB (x y : Sp) : Prop := x.heat < y.heat ∨ (x.heat = y.heat ∧ x.lane < y.lane)
theorem spB_trans {x y z : Sp} (h : spB x y) (h2 : spB y z) : spB x z := by unfold spB at *; omega
theorem stErr_lt {p : Pl} {y x : Sp} (h : stErr p (some y) x = 0) : spB y x := by
  unfold stErr at h
  split at h
  · cases h
  · split at h
    · cases h
    · dsimp only at h
      split at h
      · cases h
      · rename_i h3
        exact (spLtF_iff y x).1 (by show decide (spCf y x < 0) = true; exact decide_eq_true (by omega))
theorem startsGo_ord {p : Pl} : ∀ (l : List Sp) (seen : List ByteArray) (tw gap : Bool) (last : Int) (prev : Option Sp), startsGo p seen tw gap last prev l = 0 → (∀ y, prev = some y → ∀ x ∈ l, spB y x) ∧ l.Pairwise spB
  | [], _, _, _, _, _, _ => ⟨fun y _ x hx => (by cases hx), List.Pairwise.nil⟩
  | x :: l, seen, tw, gap, last, prev, h => by
    rw [startsGo] at h
    split at h
    · rename_i h3; exact absurd h h3
    · rename_i h3
      have h4 : stErr p prev x = 0 := Decidable.not_not.1 h3
      obtain ⟨i1, i2⟩ := startsGo_ord l _ _ _ _ (some x) h
      refine ⟨fun y hy z hz => ?_, List.pairwise_cons.2 ⟨fun z hz => i1 x rfl z hz, i2⟩⟩
      subst hy
      rcases List.mem_cons.1 hz with rfl | hz
      · exact stErr_lt h4
      · exact spB_trans (stErr_lt h4) (i1 x rfl z hz)
theorem starts_ord {p : Pl} {l : List Sp} (h : startsErr p l = 0) : l.Pairwise spB := by
  unfold startsErr at h
  split at h
  · rename_i h1; exact absurd h h1
  · split at h
    · cases h
    · exact (startsGo_ord l _ _ _ _ none h).2
theorem emL_mem {l : List Sp} {h : Int} {x : Sp} : ∀ (m : Nat) (ln : Int), x ∈ emL l h ln m → x.who = ⟨#[]⟩ ∧ x.heat = h ∧ (ln ≤ x.lane ∧ x.lane < ln + m) ∧ tkn l h x.lane = false
  | 0, ln, hx => by cases hx
  | m + 1, ln, hx => by
    rw [emL] at hx
    rcases List.mem_append.1 hx with hx | hx
    · split at hx
      · cases hx
      · rename_i h1
        obtain rfl := List.mem_singleton.1 hx
        exact ⟨rfl, rfl, by dsimp only; omega, by simpa using h1⟩
    · obtain ⟨a1, a2, a3, a4⟩ := emL_mem m (ln + 1) hx
      exact ⟨a1, a2, by omega, a4⟩
theorem emH_mem {p : Pl} {l : List Sp} {x : Sp} : ∀ (m : Nat) (h : Int), x ∈ emH p l h m → x.who = ⟨#[]⟩ ∧ (p.lo ≤ x.lane ∧ x.lane ≤ p.hi) ∧ tkn l x.heat x.lane = false
  | 0, h, hx => by cases hx
  | m + 1, h, hx => by
    rw [emH] at hx
    rcases List.mem_append.1 hx with hx | hx
    · obtain ⟨a1, a2, a3, a4⟩ := emL_mem _ _ hx
      exact ⟨a1, by omega, by rw [a2]; exact a4⟩
    · exact emH_mem m (h + 1) hx
theorem empty_mem {p : Pl} {l : List Sp} {x : Sp} (hx : x ∈ emptyL p l) : x.who = ⟨#[]⟩ ∧ (p.lo ≤ x.lane ∧ x.lane ≤ p.hi) ∧ tkn l x.heat x.lane = false := emH_mem _ _ hx
set_option maxRecDepth 100000 in
theorem lanes_all : ∀ lo hi : Fin 11, 1 ≤ lo.val → lo.val ≤ hi.val → ∀ x : Fin 11, lo.val ≤ x.val → x.val ≤ hi.val → (x.val : Int) ∈ laneV lo.val hi.val := by decide
theorem lanes_mem {p : Pl} (hp : PlOk p) {x : Int} (h1 : p.lo ≤ x) (h2 : x ≤ p.hi) : x ∈ laneV p.lo p.hi := by
  obtain ⟨⟨p0, p1⟩, p2, _, _⟩ := hp
  have h := lanes_all ⟨p.lo.toNat, by omega⟩ ⟨p.hi.toNat, by omega⟩ (by show 1 ≤ p.lo.toNat; omega) (by show p.lo.toNat ≤ p.hi.toNat; omega) ⟨x.toNat, by omega⟩ (by show p.lo.toNat ≤ x.toNat; omega) (by show x.toNat ≤ p.hi.toNat; omega)
  simp only [Int.toNat_of_nonneg (show 0 ≤ p.lo by omega), Int.toNat_of_nonneg (show 0 ≤ p.hi by omega), Int.toNat_of_nonneg (show 0 ≤ x by omega)] at h
  exact h
theorem lateF_some {p : Pl} (hp : PlOk p) {l : List Sp} {who : ByteArray} {f : Sp} (hf : f ∈ emptyL p l) : ∃ ln, lateF (emptyL p l) who f.heat (laneV p.lo p.hi) = [⟨who, f.heat, ln⟩] ∧ tkn l f.heat ln = false := by
  obtain ⟨a1, ⟨a2, a3⟩, a4⟩ := empty_mem hf
  unfold lateF
  cases hc : (laneV p.lo p.hi).find? (fun ln => decide ((⟨⟨#[]⟩, f.heat, ln⟩ : Sp) ∈ emptyL p l)) with
  | none =>
    have h1 := List.find?_eq_none.1 hc f.lane (lanes_mem hp a2 a3)
    obtain ⟨fw, fh, fl⟩ := f
    dsimp only at *
    subst a1
    exact absurd (decide_eq_true hf) h1
  | some ln =>
    have h9 := List.find?_some hc
    have h1 : (⟨⟨#[]⟩, f.heat, ln⟩ : Sp) ∈ emptyL p l := of_decide_eq_true h9
    exact ⟨ln, rfl, (empty_mem h1).2.2⟩
theorem spSort_uniq {M L1 L2 : List Sp} (hd : M.Pairwise fun x y => ¬ (x.heat = y.heat ∧ x.lane = y.lane)) (h1 : SpSortF M L1) (h2 : SpSortF M L2) : L1 = L2 := by
  refine List.Perm.eq_of_pairwise (le := fun x y => ltOf spCf y x = false) (fun a b ha hb h3 h4 => ?_) h1.2 h2.2 (h1.1.trans h2.1.symm)
  rw [spLtF_no] at h3 h4
  have ha' := h1.1.mem_iff.1 ha
  have hb' := h2.1.mem_iff.1 hb
  by_cases e : a = b
  · exact e
  · have h5 : a.heat = b.heat ∧ a.lane = b.lane := by omega
    obtain ⟨i, hi, ei⟩ := List.getElem_of_mem ha'
    obtain ⟨j, hj, ej⟩ := List.getElem_of_mem hb'
    have hp := List.pairwise_iff_getElem.1 hd
    rcases Nat.lt_trichotomy i j with h6 | h6 | h6
    · have := hp i j hi hj h6
      rw [ei, ej] at this
      exact absurd h5 this
    · subst h6
      exact absurd (ei.symm.trans ej) e
    · have := hp j i hj hi h6
      rw [ei, ej] at this
      exact absurd ⟨h5.1.symm, h5.2.symm⟩ this
theorem late_det {p : Pl} {l : List Sp} {sd : Sd} {L1 L2 : List Sp} {b1 b2 : Bool} (h0 : lateErr p l sd = 0) (hs : startsErr p l = 0) (h1 : LateQ p l sd L1 b1) (h2 : LateO p l sd L2 b2) : L1 = L2 ∧ b1 = b2 := by
  unfold LateQ at h1
  rw [if_neg (by simpa using h0)] at h1
  unfold LateO at h2
  cases he : emptyL p l with
  | nil =>
    rw [he] at h1 h2
    exact ⟨h1.1.trans h2.1.symm, h1.2.trans h2.2.symm⟩
  | cons f r =>
    obtain ⟨ln, e1, e2⟩ := lateF_some (who := sd.who) (startsErr_ok hs).pool (l := l) (f := f) (by rw [he]; exact List.mem_cons_self)
    rw [he] at h1 h2 e1
    dsimp only at h1 h2
    rw [e1] at h1 h2
    rw [if_neg (by simp)] at h2
    refine ⟨spSort_uniq ?_ h1.2 h2.2, h1.1.trans h2.1.symm⟩
    refine List.pairwise_append.2 ⟨(starts_ord hs).imp (fun h => by unfold spB at h; omega), by simp, fun x hx y hy => ?_⟩
    obtain rfl := List.mem_singleton.1 hy
    dsimp only
    intro h9
    have h8 := List.any_eq_false.1 (show (l.any fun x => decide (x.heat = f.heat ∧ x.lane = ln)) = false from e2) x hx
    exact h8 (decide_eq_true h9)
end Go.Proofs.YtdbfcneeiiialaaGreatDoor

/- PLAIN: right starts told as a property; who is taken out is gone; a lane that is given is no longer empty. -/
namespace Go.Proofs.YtdbfcneeiiialaaGreatDoor
open Go.RowKit Go.Shelf Go.Lib Go.Sort
set_option linter.unusedVariables false

def stAll (p : Pl) (x : Sp) : Prop := keyB x.who = true ∧ (1 ≤ x.heat ∧ x.heat ≤ 60) ∧ (p.lo ≤ x.lane ∧ x.lane ≤ p.hi)
theorem stErr_iff (p : Pl) (o : Option Sp) (x : Sp) : stErr p o x = 0 ↔ stAll p x ∧ ∀ y, o = some y → spB y x := by
  constructor
  · intro h
    refine ⟨stErr_ok h, fun y hy => ?_⟩
    subst hy
    exact stErr_lt h
  · intro ⟨⟨h1, h2, h3⟩, h4⟩
    unfold stErr
    rw [if_neg (by rw [h1]; simp), if_neg (not_not_intro ⟨h2, h3⟩)]
    cases o with
    | none => rfl
    | some y =>
      have h5 : decide (spCf y x < 0) = true := (spLtF_iff y x).2 (h4 y rfl)
      have h6 := of_decide_eq_true h5
      dsimp only
      rw [if_neg (by omega)]
def ChainH : Int → List Sp → Prop
  | _, [] => True
  | last, x :: r => x.heat ≤ last + 1 ∧ ChainH x.heat r
theorem seenB_iff (s : ByteArray) (seen : List ByteArray) : seenB s seen = true ↔ s ∈ seen := by
  unfold seenB
  rw [List.any_eq_true]
  constructor
  · rintro ⟨x, h1, h2⟩
    rw [← of_decide_eq_true h2]; exact h1
  · intro h; exact ⟨s, h, decide_eq_true rfl⟩
theorem startsGo_iff (p : Pl) : ∀ (l : List Sp) (seen : List ByteArray) (tw gap : Bool) (last : Int) (prev : Option Sp), startsGo p seen tw gap last prev l = 0 ↔ tw = false ∧ gap = false ∧ (∀ x ∈ l, stAll p x) ∧ l.Pairwise spB ∧ (∀ y, prev = some y → ∀ x ∈ l, spB y x) ∧ (l.map Sp.who).Nodup ∧ (∀ x ∈ l, x.who ∉ seen) ∧ ChainH last l
  | [], seen, tw, gap, last, prev => by
    rw [startsGo]
    cases tw <;> cases gap <;> simp [ChainH]
  | x :: l, seen, tw, gap, last, prev => by
    rw [startsGo]
    by_cases h : stErr p prev x = 0
    · rw [if_neg (not_not_intro h), startsGo_iff p l]
      have h2 := (stErr_iff p prev x).1 h
      constructor
      · rintro ⟨a1, a2, a3, a4, a5, a6, a7, a8⟩
        simp only [Bool.or_eq_false_iff, decide_eq_false_iff_not] at a1 a2
        have hns : x.who ∉ seen := fun h9 => by
          have := (seenB_iff x.who seen).2 h9
          rw [this] at a1; exact absurd a1.2 (by decide)
        refine ⟨a1.1, a2.1, fun z hz => ?_, List.pairwise_cons.2 ⟨a5 x rfl, a4⟩, fun y hy z hz => ?_, ?_, fun z hz => ?_, by omega, a8⟩
        · rcases List.mem_cons.1 hz with rfl | hz
          · exact h2.1
          · exact a3 z hz
        · rcases List.mem_cons.1 hz with rfl | hz
          · exact h2.2 y hy
          · exact spB_trans (h2.2 y hy) (a5 x rfl z hz)
        · rw [List.map_cons, List.nodup_cons]
          refine ⟨fun h9 => ?_, a6⟩
          obtain ⟨z, hz, e⟩ := List.mem_map.1 h9
          exact a7 z hz (by rw [e]; exact List.mem_cons_self ..)
        · rcases List.mem_cons.1 hz with rfl | hz
          · exact hns
          · exact fun h9 => a7 z hz (List.mem_cons_of_mem _ h9)
      · rintro ⟨a1, a2, a3, a4, a5, a6, a7, a8, a9⟩
        rw [List.map_cons, List.nodup_cons] at a6
        rw [List.pairwise_cons] at a4
        have hns : seenB x.who seen = false := by
          cases h9 : seenB x.who seen with
          | false => rfl
          | true => exact absurd ((seenB_iff _ _).1 h9) (a7 x (List.mem_cons_self ..))
        refine ⟨by rw [a1, hns]; rfl, by rw [a2]; simp only [Bool.false_or, decide_eq_false_iff_not]; omega, fun z hz => a3 z (List.mem_cons_of_mem _ hz), a4.2, fun y hy z hz => ?_, a6.2, fun z hz h9 => ?_, a9⟩
        · injection hy with hy; subst hy; exact a4.1 z hz
        · rcases List.mem_cons.1 h9 with h9 | h9
          · exact a6.1 (by rw [← h9]; exact List.mem_map_of_mem hz)
          · exact a7 z (List.mem_cons_of_mem _ hz) h9
    · rw [if_pos h]
      constructor
      · intro h9; exact absurd h9 h
      · rintro ⟨a1, a2, a3, a4, a5, a6, a7, a8⟩
        exact absurd ((stErr_iff p prev x).2 ⟨a3 x (List.mem_cons_self ..), fun y hy => a5 y hy x (List.mem_cons_self ..)⟩) h
structure SOk (p : Pl) (l : List Sp) : Prop where
  pool : poolErr p = 0
  len : l.length ≤ 300
  all : ∀ x ∈ l, stAll p x
  ord : l.Pairwise spB
  nd : (l.map Sp.who).Nodup
  ch : ChainH 0 l
theorem SOk.iff (p : Pl) (l : List Sp) : startsErr p l = 0 ↔ SOk p l := by
  unfold startsErr
  constructor
  · intro h
    split at h
    · rename_i h1; exact absurd h h1
    · rename_i h1
      split at h
      · cases h
      · rename_i h2
        obtain ⟨_, _, a3, a4, _, a6, _, a8⟩ := (startsGo_iff p l _ _ _ _ _).1 h
        exact ⟨Decidable.not_not.1 h1, by omega, a3, a4, a6, a8⟩
  · intro h
    rw [if_neg (not_not_intro h.pool), if_neg (by have := h.len; omega)]
    exact (startsGo_iff p l _ _ _ _ _).2 ⟨rfl, rfl, h.all, h.ord, fun y hy => (by cases hy), h.nd, fun x _ => (by simp), h.ch⟩
theorem spB_heat {x y : Sp} (h : spB x y) : x.heat ≤ y.heat := by unfold spB at h; omega
theorem scrG_facts : ∀ (l : List Sp) (old hh : Int), l.Pairwise spB → (∀ x ∈ l, old ≤ x.heat) → ChainH hh (scrG old hh l) ∧ (scrG old hh l).Pairwise spB ∧ ∀ z ∈ scrG old hh l, ∃ y ∈ l, y.who = z.who ∧ y.lane = z.lane ∧ hh ≤ z.heat ∧ z.heat ≤ hh + (y.heat - old) ∧ (y.heat = old → z.heat = hh) ∧ (old < y.heat → hh < z.heat)
  | [], _, _, _, _ => ⟨trivial, List.Pairwise.nil, fun z hz => (by cases hz)⟩
  | x :: l, old, hh, hp, hm => by
    rw [List.pairwise_cons] at hp
    have hx := hm x (List.mem_cons_self ..)
    obtain ⟨i1, i2, i3⟩ := scrG_facts l x.heat (if x.heat ≠ old then hh + 1 else hh) hp.2 (fun y hy => spB_heat (hp.1 y hy))
    unfold scrG
    generalize hh' : (if x.heat ≠ old then hh + 1 else hh) = h1 at *
    have hd : (x.heat = old ∧ h1 = hh) ∨ (old < x.heat ∧ h1 = hh + 1) := by
      by_cases e : x.heat = old
      · rw [if_neg (not_not_intro e)] at hh'; exact .inl ⟨e, hh'.symm⟩
      · rw [if_pos e] at hh'; exact .inr ⟨by omega, hh'.symm⟩
    refine ⟨⟨by dsimp only; omega, i1⟩, List.pairwise_cons.2 ⟨fun z hz => ?_, i2⟩, fun z hz => ?_⟩
    · obtain ⟨y, y1, y2, y3, y4, y5, y6, y7⟩ := i3 z hz
      have h8 := hp.1 y y1
      unfold spB at *
      dsimp only
      rcases h8 with h8 | h8
      · exact .inl (y7 h8)
      · exact .inr ⟨(y6 h8.1.symm).symm, by omega⟩
    · rcases List.mem_cons.1 hz with rfl | hz
      · exact ⟨x, List.mem_cons_self .., rfl, rfl, by dsimp only; omega, by dsimp only; omega, by dsimp only; omega, by dsimp only; omega⟩
      · obtain ⟨y, y1, y2, y3, y4, y5, y6, y7⟩ := i3 z hz
        have h8 := spB_heat (hp.1 y y1)
        exact ⟨y, List.mem_cons_of_mem _ y1, y2, y3, by omega, by omega, by omega, by omega⟩
theorem scrG_who : ∀ (l : List Sp) (old hh : Int), (scrG old hh l).map Sp.who = l.map Sp.who
  | [], _, _ => rfl
  | x :: l, old, hh => by unfold scrG; rw [List.map_cons, List.map_cons, scrG_who l]
theorem scr_ok {p : Pl} {l : List Sp} (h : SOk p l) (a : List ByteArray) : SOk p (scrL a l) ∧ (∀ z ∈ scrL a l, ∃ y ∈ l, y.who = z.who ∧ y.lane = z.lane ∧ z.heat ≤ y.heat) := by
  have hs := List.filter_sublist (p := fun y : Sp => !Lib.containsS a y.who) (l := l)
  obtain ⟨f1, f2, f3⟩ := scrG_facts (l.filter fun y => !Lib.containsS a y.who) 0 0 (h.ord.sublist hs) (fun x hx => by have := (h.all x (hs.subset hx)).2.1; omega)
  refine ⟨⟨h.pool, ?_, fun z hz => ?_, f2, ?_, f1⟩, fun z hz => ?_⟩
  · unfold scrL; rw [scrG_len]; exact Nat.le_trans hs.length_le h.len
  · obtain ⟨y, y1, y2, y3, y4, y5, y6, y7⟩ := f3 z hz
    obtain ⟨q1, q2, q3⟩ := h.all y (hs.subset y1)
    exact ⟨by rw [← y2]; exact q1, by omega, by rw [← y3]; exact q3⟩
  · unfold scrL; rw [scrG_who]; exact h.nd.sublist (hs.map _)
  · obtain ⟨y, y1, y2, y3, y4, y5, y6, y7⟩ := f3 z hz
    exact ⟨y, hs.subset y1, y2, y3, by omega⟩
theorem len_filters {α : Type} (f : α → Bool) : ∀ l : List α, (l.filter f).length + (l.filter fun x => !f x).length = l.length
  | [] => rfl
  | x :: l => by
    have := len_filters f l
    cases h : f x <;> simp [h] <;> omega
theorem scr_len {l : List Sp} {a : List ByteArray} (hn : (l.map Sp.who).Nodup) (ha : goneErr (l.map Sp.who) a = 0) : (scrL a l).length + a.length = l.length := by
  obtain ⟨_, g2, g3⟩ := goneErr_ok ha
  unfold scrL
  rw [scrG_len]
  have h1 := len_filters (fun y : Sp => Lib.containsS a y.who) l
  have h2 : ((l.filter fun y : Sp => Lib.containsS a y.who).map Sp.who).Perm a := by
    refine (List.perm_ext_iff_of_nodup (hn.sublist (List.filter_sublist.map _)) g3).2 fun s => ⟨fun hs => ?_, fun hs => ?_⟩
    · obtain ⟨x, hx, rfl⟩ := List.mem_map.1 hs
      exact (Lib.containsS_iff _ _).1 (List.mem_filter.1 hx).2
    · obtain ⟨x, hx, rfl⟩ := List.mem_map.1 (g2 s hs)
      exact List.mem_map.2 ⟨x, List.mem_filter.2 ⟨hx, (Lib.containsS_iff _ _).2 hs⟩, rfl⟩
  have h3 := h2.length_eq
  rw [List.length_map] at h3
  omega
/- the greatest heat -/
theorem maxG_spec : ∀ (l : List Sp) (m : Int), m ≤ maxG m l ∧ (∀ x ∈ l, x.heat ≤ maxG m l) ∧ (maxG m l = m ∨ ∃ x ∈ l, x.heat = maxG m l)
  | [], m => ⟨Int.le_refl _, fun x hx => (by cases hx), .inl rfl⟩
  | x :: l, m => by
    unfold maxG
    obtain ⟨h1, h2, h3⟩ := maxG_spec l (max m x.heat)
    refine ⟨by omega, fun y hy => ?_, ?_⟩
    · rcases List.mem_cons.1 hy with rfl | hy
      · omega
      · exact h2 y hy
    · rcases h3 with h3 | ⟨y, y1, y2⟩
      · by_cases e : m ≤ x.heat
        · exact .inr ⟨x, List.mem_cons_self .., by omega⟩
        · exact .inl (by omega)
      · exact .inr ⟨y, List.mem_cons_of_mem _ y1, y2⟩
theorem emH_heat {p : Pl} {l : List Sp} {x : Sp} : ∀ (m : Nat) (h : Int), x ∈ emH p l h m → h ≤ x.heat ∧ x.heat < h + m
  | 0, h, hx => by cases hx
  | m + 1, h, hx => by
    rw [emH] at hx
    rcases List.mem_append.1 hx with hx | hx
    · have := (emL_mem _ _ hx).2.1; omega
    · have := emH_heat m (h + 1) hx; omega
theorem ifC {a b : Prop} [Decidable a] [Decidable b] (h : a ↔ b) : (if a then 1 else 0 : Nat) = if b then 1 else 0 := by
  by_cases hb : b
  · rw [if_pos hb, if_pos (h.2 hb)]
  · rw [if_neg hb, if_neg (fun ha => hb (h.1 ha))]
theorem emL_count {l L : List Sp} {fh l0 : Int} (h0 : tkn l fh l0 = false) (hL : ∀ h ln, tkn L h ln = (tkn l h ln || decide (h = fh ∧ ln = l0))) (h : Int) : ∀ (m : Nat) (a : Int), (emL L h a m).length + (if h = fh ∧ a ≤ l0 ∧ l0 < a + m then 1 else 0) = (emL l h a m).length
  | 0, a => by
    rw [if_neg (by omega)]; rfl
  | m + 1, a => by
    have ih := emL_count h0 hL h m (a + 1)
    rw [emL, emL, List.length_append, List.length_append, hL]
    by_cases e : h = fh ∧ a = l0
    · obtain ⟨rfl, rfl⟩ := e
      have hq : h = h ∧ a ≤ a ∧ a < a + ((m + 1 : Nat) : Int) := ⟨rfl, by omega, by omega⟩
      have hq2 : ¬ (h = h ∧ a + 1 ≤ a ∧ a < a + 1 + (m : Int)) := by omega
      have hq3 : (false || decide (h = h ∧ a = a)) = true := by simp
      rw [h0, if_pos hq, if_pos hq3, if_neg (show ¬ (false = true) by decide)]
      rw [if_neg hq2] at ih
      simp only [List.length_nil, List.length_cons]
      omega
    · rw [decide_eq_false e, Bool.or_false]
      have e2 : (h = fh ∧ a ≤ l0 ∧ l0 < a + ((m + 1 : Nat) : Int)) ↔ (h = fh ∧ a + 1 ≤ l0 ∧ l0 < a + 1 + (m : Int)) := by omega
      rw [ifC e2]
      omega
theorem emH_count {p : Pl} {l L : List Sp} {fh l0 : Int} (h0 : tkn l fh l0 = false) (hL : ∀ h ln, tkn L h ln = (tkn l h ln || decide (h = fh ∧ ln = l0))) (hl : p.lo ≤ l0 ∧ l0 ≤ p.hi) : ∀ (m : Nat) (h : Int), (emH p L h m).length + (if h ≤ fh ∧ fh < h + m then 1 else 0) = (emH p l h m).length
  | 0, h => by rw [if_neg (by omega)]; rfl
  | m + 1, h => by
    have ih := emH_count h0 hL hl m (h + 1)
    have h1 := emL_count h0 hL h (p.hi + 1 - p.lo).toNat p.lo
    rw [emH, emH, List.length_append, List.length_append]
    by_cases e : h = fh
    · rw [if_pos (by omega)] at h1
      rw [if_neg (by omega)] at ih
      rw [if_pos (by omega)]
      omega
    · rw [if_neg (by omega)] at h1
      have e2 : (h ≤ fh ∧ fh < h + ((m + 1 : Nat) : Int)) ↔ (h + 1 ≤ fh ∧ fh < h + 1 + (m : Int)) := by omega
      rw [ifC e2]
      omega
/- heats without a gap -/
theorem ch_iff : ∀ (l : List Sp) (last : Int), l.Pairwise spB → (∀ x ∈ l, last ≤ x.heat) → (ChainH last l ↔ ∀ x ∈ l, ∀ h, last < h → h ≤ x.heat → ∃ y ∈ l, y.heat = h)
  | [], last, _, _ => ⟨fun _ x hx => (by cases hx), fun _ => trivial⟩
  | x :: l, last, hp, hm => by
    rw [List.pairwise_cons] at hp
    have ih := ch_iff l x.heat hp.2 (fun y hy => spB_heat (hp.1 y hy))
    have hx := hm x (List.mem_cons_self ..)
    unfold ChainH
    rw [ih]
    constructor
    · rintro ⟨h1, h2⟩ z hz h h3 h4
      by_cases e : h ≤ x.heat
      · exact ⟨x, List.mem_cons_self .., by omega⟩
      · rcases List.mem_cons.1 hz with rfl | hz
        · omega
        · obtain ⟨y, y1, y2⟩ := h2 z hz h (by omega) h4
          exact ⟨y, List.mem_cons_of_mem _ y1, y2⟩
    · intro h1
      refine ⟨?_, fun z hz h h3 h4 => ?_⟩
      · apply Decidable.byContradiction
        intro h2
        obtain ⟨y, y1, y2⟩ := h1 x (List.mem_cons_self ..) (last + 1) (by omega) (by omega)
        rcases List.mem_cons.1 y1 with rfl | y1
        · omega
        · have := spB_heat (hp.1 y y1); omega
      · obtain ⟨y, y1, y2⟩ := h1 z (List.mem_cons_of_mem _ hz) h (by omega) h4
        rcases List.mem_cons.1 y1 with rfl | y1
        · omega
        · exact ⟨y, y1, y2⟩
theorem lateF_mem {p : Pl} (hp : PlOk p) {l : List Sp} {who : ByteArray} {f : Sp} (hf : f ∈ emptyL p l) : ∃ ln, lateF (emptyL p l) who f.heat (laneV p.lo p.hi) = [⟨who, f.heat, ln⟩] ∧ (⟨⟨#[]⟩, f.heat, ln⟩ : Sp) ∈ emptyL p l := by
  obtain ⟨a1, ⟨a2, a3⟩, a4⟩ := empty_mem hf
  unfold lateF
  cases hc : (laneV p.lo p.hi).find? (fun ln => decide ((⟨⟨#[]⟩, f.heat, ln⟩ : Sp) ∈ emptyL p l)) with
  | none =>
    have h1 := List.find?_eq_none.1 hc f.lane (lanes_mem hp a2 a3)
    obtain ⟨fw, fh, fl⟩ := f
    dsimp only at *
    subst a1
    exact absurd (decide_eq_true hf) h1
  | some ln =>
    have h9 := List.find?_some hc
    exact ⟨ln, rfl, of_decide_eq_true h9⟩
theorem tkn_iff (l : List Sp) (h ln : Int) : tkn l h ln = true ↔ ∃ x ∈ l, x.heat = h ∧ x.lane = ln := by
  unfold tkn
  rw [List.any_eq_true]
  simp only [decide_eq_true_eq]
/-- a late one: right starts again, and one empty lane less -/
theorem late_ok {p : Pl} {l L : List Sp} {who : ByteArray} {f : Sp} (h : SOk p l) (h20 : l.length ≤ 200) (hk : keyB who = true) (hw : who ∉ l.map Sp.who) (hf : f ∈ emptyL p l) (hL : SpSortF (l ++ lateF (emptyL p l) who f.heat (laneV p.lo p.hi)) L) : SOk p L ∧ (emptyL p L).length + 1 = (emptyL p l).length := by
  have hpo := (startsErr_ok ((SOk.iff p l).2 h)).pool
  obtain ⟨ln, e1, e2⟩ := lateF_mem hpo (who := who) hf
  rw [e1] at hL
  obtain ⟨_, m2, m3⟩ := empty_mem e2
  dsimp only at m2 m3
  have hmh := emH_heat _ _ e2
  dsimp only at hmh
  obtain ⟨g1, g2, g3⟩ := maxG_spec l 0
  have hmax : maxG 0 l ≤ 60 := by
    rcases g3 with g3 | ⟨y, y1, y2⟩
    · omega
    · have := (h.all y y1).2.1; omega
  have hfh : 1 ≤ f.heat ∧ f.heat ≤ maxG 0 l := by omega
  obtain ⟨z, z1, z2⟩ : ∃ z ∈ l, z.heat = maxG 0 l := by
    rcases g3 with g3 | g3
    · omega
    · exact g3
  have hmem : ∀ x, x ∈ L ↔ x ∈ l ∨ x = ⟨who, f.heat, ln⟩ := fun x => by rw [hL.1.mem_iff, List.mem_append, List.mem_singleton]
  have hdist : L.Pairwise fun x y => ¬ (x.heat = y.heat ∧ x.lane = y.lane) := by
    refine (hL.1.pairwise_iff (fun {x y} hxy h9 => hxy ⟨h9.1.symm, h9.2.symm⟩)).2 ?_
    refine List.pairwise_append.2 ⟨h.ord.imp (fun h => by unfold spB at h; omega), by simp, fun x hx y hy => ?_⟩
    obtain rfl := List.mem_singleton.1 hy
    dsimp only
    intro h9
    have h8 := List.any_eq_false.1 (show (l.any fun x => decide (x.heat = f.heat ∧ x.lane = ln)) = false from m3) x hx
    exact h8 (decide_eq_true h9)
  have hord : L.Pairwise spB := by
    refine (hL.2.and hdist).imp fun {x y} hxy => ?_
    have h1 := (spLtF_no y x).1 hxy.1
    have h2 := hxy.2
    unfold spB
    omega
  have hheat : ∀ x ∈ L, ∀ h', 0 < h' → h' ≤ x.heat → ∃ y ∈ l, y.heat = h' := by
    have hc := (ch_iff l 0 h.ord (fun x hx => by have := (h.all x hx).2.1; omega)).1 h.ch
    intro x hx h' h1 h2
    rcases (hmem x).1 hx with hx | rfl
    · exact hc x hx h' h1 h2
    · exact hc z z1 h' h1 (by dsimp only at h2; omega)
  refine ⟨⟨h.pool, ?_, fun x hx => ?_, hord, ?_, ?_⟩, ?_⟩
  · rw [hL.1.length_eq, List.length_append]; simp; omega
  · rcases (hmem x).1 hx with hx | rfl
    · exact h.all x hx
    · exact ⟨hk, ⟨hfh.1, by dsimp only; omega⟩, m2⟩
  · rw [(hL.1.map Sp.who).nodup_iff, List.map_append, List.nodup_append]
    refine ⟨h.nd, by simp, fun a ha b hb e => ?_⟩
    simp at hb
    subst hb; subst e
    exact hw ha
  · refine (ch_iff L 0 hord (fun x hx => ?_)).2 fun x hx h' h1 h2 => ?_
    · rcases (hmem x).1 hx with hx | rfl
      · have := (h.all x hx).2.1; omega
      · dsimp only; omega
    · obtain ⟨y, y1, y2⟩ := hheat x hx h' h1 h2
      exact ⟨y, (hmem y).2 (.inl y1), y2⟩
  · have hmx : maxG 0 L = maxG 0 l := by
      obtain ⟨q1, q2, q3⟩ := maxG_spec L 0
      have h1 : maxG 0 l ≤ maxG 0 L := by rw [← z2]; exact q2 z ((hmem z).2 (.inl z1))
      rcases q3 with q3 | ⟨y, y1, y2⟩
      · omega
      · rcases (hmem y).1 y1 with y1 | rfl
        · have := g2 y y1; omega
        · dsimp only at y2; omega
    have hT : ∀ h' l', tkn L h' l' = (tkn l h' l' || decide (h' = f.heat ∧ l' = ln)) := fun h' l' => by
      rw [Bool.eq_iff_iff, tkn_iff, Bool.or_eq_true, tkn_iff, decide_eq_true_eq]
      constructor
      · rintro ⟨x, x1, x2⟩
        rcases (hmem x).1 x1 with x1 | rfl
        · exact .inl ⟨x, x1, x2⟩
        · exact .inr ⟨x2.1.symm, x2.2.symm⟩
      · rintro (⟨x, x1, x2⟩ | ⟨rfl, rfl⟩)
        · exact ⟨x, (hmem x).2 (.inl x1), x2⟩
        · exact ⟨_, (hmem _).2 (.inr rfl), rfl, rfl⟩
    have hc := emH_count m3 hT m2 (maxG 0 l).toNat 1
    unfold emptyL
    rw [hmx]
    rw [if_pos (by omega)] at hc
    exact hc
end Go.Proofs.YtdbfcneeiiialaaGreatDoor

/- slices.SortStableFunc of at most 39 seeds by both comparisons, as a function. Printed by wip/mksyms.py. -/
namespace Go.Proofs.YtdbfcneeiiialaaGreatDoor
open Go.RowKit Go.Shelf Go.Lib Go.Sort
set_option linter.unusedVariables false

theorem insAB_perm (l : List Sd) {a b : Nat} (ha : a ≤ b) (hb : b ≤ l.length) : (insAB (ltOf sdCf) a b l).Perm l := by
  unfold insAB
  have hP := (insertionSort_holds (lt := ltOf sdCf) sdSWO l.toArray a b ha (by simpa using hb)).1
  have hQ := permIn_mono l.toArray _ a b 0 l.toArray.size (Nat.zero_le _) (by simpa using hb) (Nat.le_refl _) hP
  generalize Sort.insertionSort (ltOf sdCf) l.toArray a b = R at *
  obtain ⟨p1, _, p3⟩ := hQ
  rw [← p1, Array.extract_size] at p3
  rw [p1, Array.extract_size] at p3
  exact p3
theorem insAB_map {p : Sd → Prop} [Inhabited { x : Sd // p x }] (ls : List { x : Sd // p x }) {a b : Nat} (hb : b ≤ ls.length) : insAB (ltOf sdCf) a b (ls.map Subtype.val) = (insAB (ltOf fun x y : { x : Sd // p x } => sdCf x.1 y.1) a b ls).map Subtype.val := by
  unfold insAB insertionSort
  have e : (ls.map Subtype.val).toArray = ls.toArray.map Subtype.val := by simp
  rw [e, insOuter_map (ltOf fun x y : { x : Sd // p x } => sdCf x.1 y.1) (ltOf sdCf) Subtype.val (fun _ _ => rfl) a b _ (a + 1) ls.toArray (Nat.le_refl _) (by simpa using hb)]
  simp
/-- the stable order of at most 39 seeds -/
def ordS (l : List Sd) : List Sd := stbF (ltOf sdCf) l
theorem ordS_perm {l : List Sd} (h : l.length < 40) : (ordS l).Perm l := by
  unfold ordS stbF
  split
  · exact ord_perm l
  · have h1 := insAB_perm l (a := 0) (b := 20) (by omega) (by omega)
    have h2 := insAB_perm (insAB (ltOf sdCf) 0 20 l) (a := 20) (b := l.length) (by omega) (by rw [h1.length_eq]; exact Nat.le_refl _)
    exact (symF_perm _ _ _ _ _ _ (by omega) (by omega) (by rw [h2.length_eq, h1.length_eq]; exact Nat.le_refl _)).trans (h2.trans h1)
set_option maxRecDepth 100000 in
theorem insWA_c (base b n c a m : Nat) (L : List Sd) (w W : World) (K : SyW w base b n c L W) (h0 : 0 < n) (ha : a ≤ m) (hm : m ≤ n) (hn : n ≤ 1000) :
    Calls Tryz.prog 312 #[.slice (some ⟨b, 0, none⟩) n c, .int .i64 a, .int .i64 m, .func (.func 266) #[] #[]] W fun e w' => e = .returned (.tuple #[]) ∧ SyW w base b n c (insAB (ltOf sdCf) a m L) w' := by
  have hown := K.o
  have hlen := own_len sdE_len (by decide) hown
  obtain ⟨ls, hls⟩ := sub_list (p := fun x : Sd => 0 ≤ x.time ∧ x.time ≤ 360000) L K.bd
  have hl0 : ls.length = n := by have : (ls.map Subtype.val).length = n := by rw [hls, hlen]
                                 rw [List.length_map] at this; omega
  have hinh : Inhabited { x : Sd // 0 ≤ x.time ∧ x.time ≤ 360000 } := ⟨ls[0]'(by omega)⟩
  have hown' : W.ownsRow base 40 2 (.slice (some ⟨b, 0, none⟩) n c) n (ls.flatMap fun x => sdE x.1) := by rw [sdS_flat, hls]; exact hown
  have eg : ∀ args w, (callFunc 266 args).run Tryz.prog w = .ok (.enter 266 args) w := enters_of Tryz.func266 (by kernel_rfl) rfl
  have hs : ∀ x : { x : Sd // 0 ≤ x.time ∧ x.time ≤ 360000 }, (sdE x.1).length = 2 := fun _ => rfl
  have hlt := (hown.lt b rfl).2
  have hH := holdsK_own (fun x : { x : Sd // 0 ≤ x.time ∧ x.time ≤ 360000 } => sdE x.1) 2 hs (by omega) hown'
  have hS := sdIns_c (fun x : { x : Sd // 0 ≤ x.time ∧ x.time ≤ 360000 } => sdE x.1) hs (fun x v hv => by simp [sdE] at hv; rcases hv with rfl | rfl <;> rfl) (fun x y => sdCf x.1 y.1) 266 #[] eg b c a m ls.toArray W (fun q os dk hdk x y => (sdCmpA_c x.1 y.1 _ x.2 y.2).mono fun _ _ ⟨he, hB, hD⟩ => ⟨he, grow_of hB hD⟩) hH hlt ha (by simp; omega) (by simp; omega)
  have e3 : Sort.insertionSort (ltOf fun x y : { x : Sd // 0 ≤ x.time ∧ x.time ≤ 360000 } => sdCf x.1 y.1) ls.toArray a m = (insAB (ltOf fun x y : { x : Sd // 0 ≤ x.time ∧ x.time ≤ 360000 } => sdCf x.1 y.1) a m ls).toArray := by unfold insAB; simp
  have e4 := insAB_map ls (a := a) (b := m) (by omega)
  rw [hls] at e4
  rw [e3] at hS
  have hR := own_sortedK (fun x : { x : Sd // 0 ≤ x.time ∧ x.time ≤ 360000 } => sdE x.1) 2 hs (by omega) hown' (l' := insAB (ltOf fun x y : { x : Sd // 0 ≤ x.time ∧ x.time ≤ 360000 } => sdCf x.1 y.1) a m ls) (by rw [insAB_len, hl0])
  simp only [List.size_toArray, hl0] at hS
  refine hS.mono ?_
  rintro e w' ⟨rfl, q, os, rfl⟩
  obtain ⟨r1, r2⟩ := hR q os
  rw [sdS_flat, ← e4] at r1
  have hp := insAB_perm L ha (by rw [hlen]; exact hm)
  exact ⟨rfl, r1, grown_trans K.g r2, fun x hx => K.bd x (hp.mem_iff.1 hx)⟩
set_option maxHeartbeats 3200000 in
set_option maxRecDepth 100000 in
theorem stableWA_c (base b n c : Nat) (L : List Sd) (w : World) (K : SyW w base b n c L w) (h0 : 20 < n) (h1 : n < 40) :
    Calls Tryz.prog 269 #[.slice (some ⟨b, 0, none⟩) n c, .int .i64 n, .func (.func 266) #[] #[]] w fun e w' => e = .returned (.tuple #[]) ∧ SyW w base b n c (symF (ltOf sdCf) n 0 20 n (insAB (ltOf sdCf) 20 n (insAB (ltOf sdCf) 0 20 L))) w' := by
  have hI1 := Lib.hid (fun W K => insWA_c base b n c 0 20 L w W K (by omega) (by omega) (by omega) (by omega))
  have hI2 := Lib.hid (fun W K => insWA_c base b n c 20 n (insAB (ltOf sdCf) 0 20 L) w W K (by omega) (by omega) (by omega) (by omega))
  have hS := Lib.hid (fun W K => symMergeA_c base b n c (by omega) w n 0 20 n (insAB (ltOf sdCf) 20 n (insAB (ltOf sdCf) 0 20 L)) W K (by omega) (by omega) (by omega) (by omega))
  generalize symF (ltOf sdCf) n 0 20 n (insAB (ltOf sdCf) 20 n (insAB (ltOf sdCf) 0 20 L)) = R at *
  generalize insAB (ltOf sdCf) 20 n (insAB (ltOf sdCf) 0 20 L) = L2 at *
  generalize insAB (ltOf sdCf) 0 20 L = L1 at *
  have d1 : (20 : Int) ≤ (n : Int) := by omega
  have d2 : ¬ (40 : Int) ≤ (n : Int) := by omega
  have d3 : (20 : Int) < (n : Int) := by omega
  have d4 : ¬ (40 : Int) < (n : Int) := by omega
  have d5 : 20 ≤ n := by omega
  have d6 : ¬ 40 ≤ n := by omega
  have d7 : ¬ 40 < n := by omega
  go_enter Tryz.func269, Tryz.ntmps269
  go_wp2
  refine wp_loop_rounds 2 ?_
  rw [rounds_succ]
  go_wp2_with fail
  refine (hI1.out _ K).mono ?_; rintro e w1 ⟨rfl, K1⟩
  go_wp2
  rw [rounds_succ]
  go_wp2_with fail
  refine (hI2.out _ K1).mono ?_; rintro e w2 ⟨rfl, K2⟩
  go_wp2
  refine wp_loop_rounds 2 ?_
  rw [rounds_succ]
  go_wp2
  refine wp_loop_rounds 1 ?_
  rw [rounds_succ]
  go_wp2_with fail
  refine (hS.out _ K2).mono ?_; rintro e w3 ⟨rfl, K3⟩
  go_wp2
  rw [rounds_succ]
  go_wp2
  go_end0
  exact ⟨rfl, K3⟩
/-- seeds in a row of the call's own, at most 39 -/
theorem sdSortSA_c (l : List Sd) (w : World) (base n : Nat) (u : Value) (hown : w.ownsRow base 40 2 u n (l.flatMap sdE)) (hn : n < 40) (hw : ∀ x ∈ l, 0 ≤ x.time ∧ x.time ≤ 360000) :
    Calls Tryz.prog 209 #[u, .func (.func 266) #[] #[]] w fun e w' => e = .returned (.tuple #[]) ∧ w'.ownsRow base 40 2 u n ((ordS l).flatMap sdE) ∧ w.grownBy w' u.ownBlock := by
  obtain ⟨A, c, rfl⟩ := own_shape hown
  have hlen := own_len sdE_len (by decide) hown
  by_cases h20 : n ≤ 20
  · have e : ordS l = ordL l := by unfold ordS stbF; rw [if_pos (by omega)]; rfl
    rw [e]
    rcases Nat.eq_zero_or_pos n with h0 | hp
    · subst h0
      have hl : l = [] := List.eq_nil_of_length_eq_zero hlen
      subst hl
      refine (sdSort0_c A c _ w).mono ?_
      rintro e w' ⟨rfl, rfl⟩
      exact ⟨rfl, by unfold ordL; rw [insL_nil]; exact hown, grown_refl _ _⟩
    obtain ⟨gb, rfl, hgb⟩ := own_someN hown hp
    obtain ⟨ls, hls⟩ := sub_list (p := fun x : Sd => 0 ≤ x.time ∧ x.time ≤ 360000) l hw
    have hl0 : 0 < ls.length := by have : (ls.map Subtype.val).length = n := by rw [hls, hlen]
                                   rw [List.length_map] at this; omega
    have hinh : Inhabited { x : Sd // 0 ≤ x.time ∧ x.time ≤ 360000 } := ⟨ls[0]⟩
    have e1 := insL_map (ltOf fun x y : { x : Sd // 0 ≤ x.time ∧ x.time ≤ 360000 } => sdCf x.1 y.1) (ltOf sdCf) Subtype.val (fun _ _ => rfl) ls
    rw [hls] at e1
    have hown' : w.ownsRow base 40 2 (.slice (some ⟨gb, 0, none⟩) n c) n (ls.flatMap fun x => sdE x.1) := by rw [sdS_flat, hls]; exact hown
    have eg : ∀ args w, (callFunc 266 args).run Tryz.prog w = .ok (.enter 266 args) w := enters_of Tryz.func266 (by kernel_rfl) rfl
    refine (sdSort20_c (fun x : { x : Sd // 0 ≤ x.time ∧ x.time ≤ 360000 } => sdE x.1) (fun _ => rfl) (fun x v hv => by simp [sdE] at hv; rcases hv with rfl | rfl <;> rfl) (fun x y => sdCf x.1 y.1) _ _ eg base gb n c ls w (fun m os dk hdk x y => ?_) hown' h20).mono ?_
    · exact (sdCmpA_c x.1 y.1 _ x.2 y.2).mono fun _ _ ⟨he, hB, hD⟩ => ⟨he, grow_of hB hD⟩
    · rintro e w' ⟨rfl, ho, hg⟩
      rw [sdS_flat, ← e1] at ho
      exact ⟨rfl, ho, hg⟩
  · have e : ordS l = symF (ltOf sdCf) n 0 20 n (insAB (ltOf sdCf) 20 n (insAB (ltOf sdCf) 0 20 l)) := by unfold ordS stbF; rw [if_neg (by omega), hlen]
    rw [e]
    obtain ⟨gb, rfl, hgb⟩ := own_someN hown (by omega)
    have hS := Lib.hid (stableWA_c base gb n c l w ⟨hown, grown_refl _ _, hw⟩ (by omega) hn)
    clear e hown
    generalize symF (ltOf sdCf) n 0 20 n (insAB (ltOf sdCf) 20 n (insAB (ltOf sdCf) 0 20 l)) = R at *
    go_enter Tryz.func209, Tryz.ntmps209
    go_wp2_with fail
    refine hS.out.mono ?_; rintro e w' ⟨rfl, K⟩
    go_wp2
    go_end0
    exact ⟨rfl, K.o, K.g⟩
set_option maxRecDepth 100000 in
theorem insWB_c (base b n c a m : Nat) (L : List Sd) (w W : World) (K : SyW w base b n c L W) (h0 : 0 < n) (ha : a ≤ m) (hm : m ≤ n) (hn : n ≤ 1000) :
    Calls Tryz.prog 312 #[.slice (some ⟨b, 0, none⟩) n c, .int .i64 a, .int .i64 m, .func (.func 210) #[] #[]] W fun e w' => e = .returned (.tuple #[]) ∧ SyW w base b n c (insAB (ltOf sdCf) a m L) w' := by
  have hown := K.o
  have hlen := own_len sdE_len (by decide) hown
  obtain ⟨ls, hls⟩ := sub_list (p := fun x : Sd => 0 ≤ x.time ∧ x.time ≤ 360000) L K.bd
  have hl0 : ls.length = n := by have : (ls.map Subtype.val).length = n := by rw [hls, hlen]
                                 rw [List.length_map] at this; omega
  have hinh : Inhabited { x : Sd // 0 ≤ x.time ∧ x.time ≤ 360000 } := ⟨ls[0]'(by omega)⟩
  have hown' : W.ownsRow base 40 2 (.slice (some ⟨b, 0, none⟩) n c) n (ls.flatMap fun x => sdE x.1) := by rw [sdS_flat, hls]; exact hown
  have eg : ∀ args w, (callFunc 210 args).run Tryz.prog w = .ok (.enter 210 args) w := enters_of Tryz.func210 (by kernel_rfl) rfl
  have hs : ∀ x : { x : Sd // 0 ≤ x.time ∧ x.time ≤ 360000 }, (sdE x.1).length = 2 := fun _ => rfl
  have hlt := (hown.lt b rfl).2
  have hH := holdsK_own (fun x : { x : Sd // 0 ≤ x.time ∧ x.time ≤ 360000 } => sdE x.1) 2 hs (by omega) hown'
  have hS := sdIns_c (fun x : { x : Sd // 0 ≤ x.time ∧ x.time ≤ 360000 } => sdE x.1) hs (fun x v hv => by simp [sdE] at hv; rcases hv with rfl | rfl <;> rfl) (fun x y => sdCf x.1 y.1) 210 #[] eg b c a m ls.toArray W (fun q os dk hdk x y => (sdCmpB_c x.1 y.1 _ x.2 y.2).mono fun _ _ ⟨he, hB, hD⟩ => ⟨he, grow_of hB hD⟩) hH hlt ha (by simp; omega) (by simp; omega)
  have e3 : Sort.insertionSort (ltOf fun x y : { x : Sd // 0 ≤ x.time ∧ x.time ≤ 360000 } => sdCf x.1 y.1) ls.toArray a m = (insAB (ltOf fun x y : { x : Sd // 0 ≤ x.time ∧ x.time ≤ 360000 } => sdCf x.1 y.1) a m ls).toArray := by unfold insAB; simp
  have e4 := insAB_map ls (a := a) (b := m) (by omega)
  rw [hls] at e4
  rw [e3] at hS
  have hR := own_sortedK (fun x : { x : Sd // 0 ≤ x.time ∧ x.time ≤ 360000 } => sdE x.1) 2 hs (by omega) hown' (l' := insAB (ltOf fun x y : { x : Sd // 0 ≤ x.time ∧ x.time ≤ 360000 } => sdCf x.1 y.1) a m ls) (by rw [insAB_len, hl0])
  simp only [List.size_toArray, hl0] at hS
  refine hS.mono ?_
  rintro e w' ⟨rfl, q, os, rfl⟩
  obtain ⟨r1, r2⟩ := hR q os
  rw [sdS_flat, ← e4] at r1
  have hp := insAB_perm L ha (by rw [hlen]; exact hm)
  exact ⟨rfl, r1, grown_trans K.g r2, fun x hx => K.bd x (hp.mem_iff.1 hx)⟩
set_option maxHeartbeats 3200000 in
set_option maxRecDepth 100000 in
theorem stableWB_c (base b n c : Nat) (L : List Sd) (w : World) (K : SyW w base b n c L w) (h0 : 20 < n) (h1 : n < 40) :
    Calls Tryz.prog 269 #[.slice (some ⟨b, 0, none⟩) n c, .int .i64 n, .func (.func 210) #[] #[]] w fun e w' => e = .returned (.tuple #[]) ∧ SyW w base b n c (symF (ltOf sdCf) n 0 20 n (insAB (ltOf sdCf) 20 n (insAB (ltOf sdCf) 0 20 L))) w' := by
  have hI1 := Lib.hid (fun W K => insWB_c base b n c 0 20 L w W K (by omega) (by omega) (by omega) (by omega))
  have hI2 := Lib.hid (fun W K => insWB_c base b n c 20 n (insAB (ltOf sdCf) 0 20 L) w W K (by omega) (by omega) (by omega) (by omega))
  have hS := Lib.hid (fun W K => symMergeB_c base b n c (by omega) w n 0 20 n (insAB (ltOf sdCf) 20 n (insAB (ltOf sdCf) 0 20 L)) W K (by omega) (by omega) (by omega) (by omega))
  generalize symF (ltOf sdCf) n 0 20 n (insAB (ltOf sdCf) 20 n (insAB (ltOf sdCf) 0 20 L)) = R at *
  generalize insAB (ltOf sdCf) 20 n (insAB (ltOf sdCf) 0 20 L) = L2 at *
  generalize insAB (ltOf sdCf) 0 20 L = L1 at *
  have d1 : (20 : Int) ≤ (n : Int) := by omega
  have d2 : ¬ (40 : Int) ≤ (n : Int) := by omega
  have d3 : (20 : Int) < (n : Int) := by omega
  have d4 : ¬ (40 : Int) < (n : Int) := by omega
  have d5 : 20 ≤ n := by omega
  have d6 : ¬ 40 ≤ n := by omega
  have d7 : ¬ 40 < n := by omega
  go_enter Tryz.func269, Tryz.ntmps269
  go_wp2
  refine wp_loop_rounds 2 ?_
  rw [rounds_succ]
  go_wp2_with fail
  refine (hI1.out _ K).mono ?_; rintro e w1 ⟨rfl, K1⟩
  go_wp2
  rw [rounds_succ]
  go_wp2_with fail
  refine (hI2.out _ K1).mono ?_; rintro e w2 ⟨rfl, K2⟩
  go_wp2
  refine wp_loop_rounds 2 ?_
  rw [rounds_succ]
  go_wp2
  refine wp_loop_rounds 1 ?_
  rw [rounds_succ]
  go_wp2_with fail
  refine (hS.out _ K2).mono ?_; rintro e w3 ⟨rfl, K3⟩
  go_wp2
  rw [rounds_succ]
  go_wp2
  go_end0
  exact ⟨rfl, K3⟩
/-- seeds in a row of the call's own, at most 39 -/
theorem sdSortSB_c (l : List Sd) (w : World) (base n : Nat) (u : Value) (hown : w.ownsRow base 40 2 u n (l.flatMap sdE)) (hn : n < 40) (hw : ∀ x ∈ l, 0 ≤ x.time ∧ x.time ≤ 360000) :
    Calls Tryz.prog 209 #[u, .func (.func 210) #[] #[]] w fun e w' => e = .returned (.tuple #[]) ∧ w'.ownsRow base 40 2 u n ((ordS l).flatMap sdE) ∧ w.grownBy w' u.ownBlock := by
  obtain ⟨A, c, rfl⟩ := own_shape hown
  have hlen := own_len sdE_len (by decide) hown
  by_cases h20 : n ≤ 20
  · have e : ordS l = ordL l := by unfold ordS stbF; rw [if_pos (by omega)]; rfl
    rw [e]
    rcases Nat.eq_zero_or_pos n with h0 | hp
    · subst h0
      have hl : l = [] := List.eq_nil_of_length_eq_zero hlen
      subst hl
      refine (sdSort0_c A c _ w).mono ?_
      rintro e w' ⟨rfl, rfl⟩
      exact ⟨rfl, by unfold ordL; rw [insL_nil]; exact hown, grown_refl _ _⟩
    obtain ⟨gb, rfl, hgb⟩ := own_someN hown hp
    obtain ⟨ls, hls⟩ := sub_list (p := fun x : Sd => 0 ≤ x.time ∧ x.time ≤ 360000) l hw
    have hl0 : 0 < ls.length := by have : (ls.map Subtype.val).length = n := by rw [hls, hlen]
                                   rw [List.length_map] at this; omega
    have hinh : Inhabited { x : Sd // 0 ≤ x.time ∧ x.time ≤ 360000 } := ⟨ls[0]⟩
    have e1 := insL_map (ltOf fun x y : { x : Sd // 0 ≤ x.time ∧ x.time ≤ 360000 } => sdCf x.1 y.1) (ltOf sdCf) Subtype.val (fun _ _ => rfl) ls
    rw [hls] at e1
    have hown' : w.ownsRow base 40 2 (.slice (some ⟨gb, 0, none⟩) n c) n (ls.flatMap fun x => sdE x.1) := by rw [sdS_flat, hls]; exact hown
    have eg : ∀ args w, (callFunc 210 args).run Tryz.prog w = .ok (.enter 210 args) w := enters_of Tryz.func210 (by kernel_rfl) rfl
    refine (sdSort20_c (fun x : { x : Sd // 0 ≤ x.time ∧ x.time ≤ 360000 } => sdE x.1) (fun _ => rfl) (fun x v hv => by simp [sdE] at hv; rcases hv with rfl | rfl <;> rfl) (fun x y => sdCf x.1 y.1) _ _ eg base gb n c ls w (fun m os dk hdk x y => ?_) hown' h20).mono ?_
    · exact (sdCmpB_c x.1 y.1 _ x.2 y.2).mono fun _ _ ⟨he, hB, hD⟩ => ⟨he, grow_of hB hD⟩
    · rintro e w' ⟨rfl, ho, hg⟩
      rw [sdS_flat, ← e1] at ho
      exact ⟨rfl, ho, hg⟩
  · have e : ordS l = symF (ltOf sdCf) n 0 20 n (insAB (ltOf sdCf) 20 n (insAB (ltOf sdCf) 0 20 l)) := by unfold ordS stbF; rw [if_neg (by omega), hlen]
    rw [e]
    obtain ⟨gb, rfl, hgb⟩ := own_someN hown (by omega)
    have hS := Lib.hid (stableWB_c base gb n c l w ⟨hown, grown_refl _ _, hw⟩ (by omega) hn)
    clear e hown
    generalize symF (ltOf sdCf) n 0 20 n (insAB (ltOf sdCf) 20 n (insAB (ltOf sdCf) 0 20 l)) = R at *
    go_enter Tryz.func209, Tryz.ntmps209
    go_wp2_with fail
    refine hS.out.mono ?_; rintro e w' ⟨rfl, K⟩
    go_wp2
    go_end0
    exact ⟨rfl, K.o, K.g⟩
end Go.Proofs.YtdbfcneeiiialaaGreatDoor

/- heat.ordered, heat.Order, tumbref1.OrderOf, heat.Draw of at most 39 seeds. Printed by wip/mkords.py. -/
namespace Go.Proofs.YtdbfcneeiiialaaGreatDoor
open Go.RowKit Go.Shelf Go.Lib Go.Sort
set_option linter.unusedVariables false

theorem ordS_len {l : List Sd} (h : l.length < 40) : (ordS l).length = l.length := (ordS_perm h).length_eq
def orderW (l : List Sd) : List ByteArray := if seedErr l = 0 then (ordS l).map Sd.who else []
theorem orderedS_c (A : Option Addr) (n c : Nat) (l : List Sd) (w : World) (h : RSd w A n l) (hn : n < 40) (hw : ∀ x ∈ l, 0 ≤ x.time ∧ x.time ≤ 360000) :
    Calls Tryz.prog 199 #[.slice A n c] w fun e w' => ∃ A' c', e = .returned (.slice A' n c') ∧ w'.ownsRow w.heap.size 40 2 (.slice A' n c') n ((ordS l).flatMap sdE) ∧ Below w.heap.size w w' := by
  have hC := Lib.hid (cloneSd_c A n c l w h (by omega))
  go_enter Tryz.func199, Tryz.ntmps199
  go_wp2_with fail
  refine hC.out.mono ?_; rintro e w1 ⟨A', c', rfl, ho, B1⟩
  have hS := Lib.hid (sdSortSA_c l w1 _ n _ ho hn hw)
  have hB := Lib.hid (fun w' (hg : w1.grownBy w' (Value.slice A' n c').ownBlock) => below_own B1 ho hg B1.size (Nat.le_refl _))
  clear hC ho
  go_wp2_with fail
  refine hS.out.mono ?_; rintro e w2 ⟨rfl, ho2, hg2⟩
  have hB2 := hB.out _ hg2
  clear hS hg2
  go_wp2
  go_ret
  exact ⟨A', c', rfl, ho2, hB2⟩
set_option maxHeartbeats 1600000 in
set_option maxRecDepth 100000 in
theorem orderRefS_c (A : Option Addr) (n c : Nat) (l : List Sd) (w : World) (h : RSd w A n l) (hn : n < 40) (h0 : seedErr l = 0) : Calls Tryz.prog 129 #[.slice A n c] w fun e w' => ∃ A' n' c', e = .returned (.slice A' n' c') ∧ RS 9 w' A' n' (orderW l) ∧ n' ≤ c' ∧ Below w.heap.size w w' := by
  obtain ⟨_, hso⟩ := seedErr_ok h0
  have hst : ∀ x ∈ l, 0 ≤ x.time ∧ x.time ≤ 360000 := fun x hx => (hso x hx).2
  have hCl := Lib.hid (cloneSd_c A n c l w h (by omega))
  have hV : orderW l = (ordS l).map Sd.who := if_pos h0
  have hol : (ordS l).length = n := by rw [ordS_len (by rw [h.len]; exact hn)]; exact h.len
  rw [hV]
  clear hV h0 hso
  generalize hOo : ordS l = O at *
  have hOl := Lib.hid hol
  have hOo' := Lib.hid hOo
  clear hol hOo
  go_enter Tryz.func129, Tryz.ntmps129
  go_wp2_with fail
  refine hCl.out.mono ?_; rintro e w0 ⟨A1, c1, rfl, ho0, B0⟩
  have hS := Lib.hid (sdSortSB_c l w0 _ n _ ho0 hn hst)
  rw [hOo'.out] at hS
  have hB := Lib.hid (fun w' (hg : w0.grownBy w' (Value.slice A1 n c1).ownBlock) => below_own B0 ho0 hg B0.size (Nat.le_refl _))
  clear hCl ho0 h
  go_wp2_with fail
  refine hS.out.mono ?_; rintro e w1 ⟨rfl, ho, hg2⟩
  have hB1 := hB.out _ hg2
  have hR1 : RSd w1 A1 n O := RN.of_own sdE_len ho hOl.out (by omega)
  have hR := Lib.hid (fun W h => hR1.below (w' := W) h)
  clear hS hg2 ho hR1 B0 hB
  go_wp2_with fail
  go_loopw [3, 12] (fun u i wr => ∃ k : Nat, k ≤ n ∧ i = .int .i64 k ∧ NL w1 u ((O.take k).map Sd.who) wr) (fun _ i _ => n - (intOf i).toNat)
  case atStart => exact ⟨0, Nat.zero_le _, rfl, NL.start w1⟩
  case round =>
    obtain ⟨k, hk, rfl, K⟩ := hrel
    obtain ⟨Au, cu, rfl⟩ := own_shape K.own
    have hlk := Lib.hid (show ((O.take k).map Sd.who).length = k by rw [List.length_map, List.length_take, hOl.out]; omega)
    rw [hlk.out] at K ⊢
    by_cases hlt : k < n
    · obtain ⟨b, off, x, rfl, hbl, hx, c0, c1⟩ := RSd_at2 (hR.out _ K.bel) hlt
      have htk := Lib.hid (show (O.take (k + 1)).map Sd.who = (O.take k).map Sd.who ++ [x.who] by rw [List.take_add_one, hx, List.map_append]; rfl)
      obtain ⟨who, time⟩ := x
      dsimp only at *
      have K5 := K.below (below_new wr (.cells #[.string who, .int .i64 time] 40))
      have z0 := (blk_facts (heap_alloc_new wr (.cells #[.string who, .int .i64 time] 40))).1 0
      have hown := K5.own
      have hsz := K5.bel.size
      rw [hlk.out] at hown
      have hA := Lib.hid (fun v' w' ho hg => K5.app (v' := v') (x := who) (w' := w') ho hg)
      rw [hlk.out] at hA
      clear hx K K5
      go_wp2_with (at_builtin; refine wpList_app rfl (.tmp 16) (.tmp 19) 99 rfl Tryz.underlying99 info_strS rfl (by omega) (by omega) hown rfl rfl (by first | rfl | (simp; done)) (by rfl) (by simp [Value.oneCell']) (by omega) hsz ?_; intro v4 w4 hown4 hg4)
      have K4 := hA.out v4 w4 hown4 hg4
      clear hown4 hg4 hown hA z0
      go_roundw
      case rel => exact ⟨k + 1, by omega, by go_num, by rw [htk.out]; exact K4⟩
      case measure => simp [intOf]; omega
    · obtain rfl : k = n := by omega
      have hrs : RS 9 wr Au k (O.map Sd.who) := by
        have h := K.own
        rw [hlk.out, List.take_of_length_le (by rw [hOl.out]; exact Nat.le_refl _)] at h
        exact RS.of_own h (by omega)
      have hbel := below_next hB1 K.bel
      have hcap : k ≤ cu := by have h := K.own; rw [hlk.out] at h; exact own_capN h
      clear K hR
      go_wp2
      go_ret
      exact ⟨Au, k, cu, rfl, hrs, hcap, hbel⟩
theorem PlOk.bd {p : Pl} (h : PlOk p) : PlBd p := by
  obtain ⟨⟨h1, h2⟩, h3, _, _⟩ := h
  unfold PlBd
  omega
theorem szErr_small {lanes many : Int} (h1 : 1 ≤ lanes) (h0 : 0 ≤ many) (h2 : many ≤ 60) : szErr lanes many = 0 := by
  unfold szErr
  rcases sz_bd h1 h0 with ⟨_, b1, b2⟩ | ⟨_, b0, _⟩
  · refine if_neg fun h9 => ?_
    have h3 : (60 : Int) ≤ (szN lanes many : Int) - 1 := by omega
    have h4 : 1 * (60 : Int) ≤ lanes * ((szN lanes many : Int) - 1) := Int.mul_le_mul h1 h3 (by omega) (by omega)
    omega
  · rw [b0]; rfl
theorem orderW_len {l : List Sd} (h0 : seedErr l = 0) (h : l.length < 40) : (orderW l).length = l.length := by unfold orderW; rw [if_pos h0, List.length_map, ordS_len h]
theorem checkBothH_c (p : Pl) (hp : PlOk p) (A : Option Addr) (n c : Nat) (l : List Sd) (w : World) (h : RSd w A n l) :
    Calls Tryz.prog 119 #[p.val, .slice A n c] w fun e w' => e = .returned (.int .i64 (seedErr l)) ∧ Below w.heap.size w w' := by
  have hB0 := below_new w (.cells p.cells 97)
  have hp0 : PoolB w.heap.size p (w.alloc (.cells p.cells 97)) := heap_alloc_new w _
  have hCP := Lib.hid (fun W => checkPool_c p hp.bd W)
  have h00 : poolErr p = 0 := if_pos hp
  rw [h00] at hCP
  obtain ⟨z0, z1, z2, z3⟩ := hp0.at_
  have hr := h.below hB0
  have hCS := Lib.hid (fun W h => checkSeeds_c A n c l W h)
  generalize seedErr l = E at *
  clear hp h00 hp0
  obtain ⟨lo, hi, le, ci⟩ := p
  dsimp only [Pl.val, Pl.cells] at *
  go_enter Tryz.func119, Tryz.ntmps119
  go_wp2_with fail
  refine (hCP.out _).mono ?_; rintro e w1 ⟨rfl, B1⟩
  have hB1 := below_next hB0 B1
  have hr1 := hr.below B1
  clear hCP z0 z1 z2 z3 hr hB0 B1
  go_wp2_with fail
  refine (hCS.out _ hr1).mono ?_; rintro e w2 ⟨rfl, B2⟩
  have hB2 := below_next hB1 B2
  go_wp2
  go_ret
  exact ⟨rfl, hB2⟩
def RetDT (w : World) (p : Pl) (R : List (List ByteArray)) (e : Ending) (w' : World) : Prop := ∃ A' n' c' D, e = .returned (.tuple #[.slice A' n' c', .int .i64 0]) ∧ RSp w' A' n' D ∧ SpSorted (stOut (laneV p.lo p.hi) 0 R) D ∧ Below w.heap.size w w'
set_option maxHeartbeats 1600000 in
set_option maxRecDepth 100000 in
theorem drawTop_c (p : Pl) (hp : PlOk p) (A : Option Addr) (n c : Nat) (l : List Sd) (w : World) (h : RSd w A n l) (h0 : seedErr l = 0) (hn : n < 40) (R : List (List ByteArray)) (hR : DrawR (szV (p.hi - p.lo + 1) p.le n) p.ci (orderW l) R) :
    Calls Tryz.prog 49 #[p.val, .slice A n c] w (RetDT w p R) := by
  obtain ⟨_, hso⟩ := seedErr_ok h0
  have hst : ∀ x ∈ l, 0 ≤ x.time ∧ x.time ≤ 360000 := fun x hx => (hso x hx).2
  have hz := szErr_small (lanes := p.hi - p.lo + 1) (many := (n : Int)) (by have := hp.1.2; omega) (by omega) (by omega)
  have hD := Lib.hid (fun W (h : RSd W A n l) => draw_c p hp A n c (ordS l) W (fun W' B => (orderedS_c A n c l W' (h.below B) hn hst).mono fun e w' ⟨A', c', h1, h2, h3⟩ => ⟨A', c', h1, RN.of_own sdE_len h2 (by rw [ordS_len (by rw [h.len]; exact hn)]; exact h.len) (by omega), by rcases own_cap h2 rfl with ⟨_, h4, _⟩ | ⟨_, _, h4⟩ <;> omega, h3⟩) (by rw [ordS_len (by rw [h.len]; exact hn)]; exact h.len) (by omega) R (fun _ => by unfold orderW at hR; rw [if_pos h0] at hR; exact hR))
  have hB0 := below_new w (.cells p.cells 97)
  have hp0 : PoolB w.heap.size p (w.alloc (.cells p.cells 97)) := heap_alloc_new w _
  have hCB := Lib.hid (fun W h => checkBothH_c p hp A n c l W h)
  rw [h0] at hCB
  obtain ⟨z0, z1, z2, z3⟩ := hp0.at_
  have hr := h.below hB0
  have hf := Lib.hid (fun e W w' (h : RetDp W p n R e w') (B : Below w.heap.size w W) => show RetDT w p R e w' by
    rcases h with ⟨h9, _⟩ | ⟨_, A', n', c', D, h1, h2, h3, h4⟩
    · exact absurd hz h9
    · exact ⟨A', n', c', D, h1, h2, h3, below_next B h4⟩)
  have hq := Lib.hid (fun A' n' c' E w' (h : RetDT w p R (.returned (.tuple #[.slice A' n' c', .int .i64 E])) w') => h)
  clear hst hso h0 hR h hz hq
  obtain ⟨lo, hi, le, ci⟩ := p
  dsimp only [Pl.val, Pl.cells] at *
  go_enter Tryz.func49, Tryz.ntmps49
  go_wp2_with fail
  refine (hCB.out _ hr).mono ?_; rintro e w1 ⟨rfl, B1⟩
  have hB1 := below_next hB0 B1
  have hr1 := hr.below B1
  have hp1 := PoolB.keep _ _ hp0 B1
  clear hCB z0 z1 z2 z3 hr hB0 B1 hp0
  obtain ⟨z0, z1, z2, z3⟩ := hp1.at_
  dsimp only at z0 z1 z2 z3
  go_wp2_with fail
  refine (hD.out _ hr1).mono ?_; rintro e w2 hret
  have hret2 := hf.out _ _ _ hret hB1
  obtain ⟨A', n', c', D, rfl, h2, h3, h4⟩ := hret2
  clear hret hD hf
  go_wp2
  go_ret2
  exact ⟨A', n', c', D, rfl, h2, h3, h4⟩
end Go.Proofs.YtdbfcneeiiialaaGreatDoor

/- PLAIN: the fastest one swims in the last heat, in the lane that is given first. -/
namespace Go.Proofs.YtdbfcneeiiialaaGreatDoor
open Go.RowKit Go.Shelf Go.Lib Go.Sort
set_option linter.unusedVariables false

theorem szV_pos {lanes le many : Int} (h1 : 1 ≤ lanes) (h2 : 1 ≤ le ∧ le ≤ lanes) (h0 : 0 ≤ many) (he : szErr lanes many = 0) : ∀ x ∈ szV lanes le many, 1 ≤ x := by
  have hN : ¬ 60 < szN lanes many := fun h => by unfold szErr at he; rw [if_pos h] at he; omega
  unfold szV
  rw [if_neg hN]
  by_cases hz : szN lanes many = 0
  · rw [hz, if_neg (by omega)]
    intro x hx; simp [szS] at hx
  rcases sz_bd h1 h0 with ⟨_, b1, b2⟩ | ⟨b0, b1, _⟩
  · obtain ⟨k, hk⟩ : ∃ k, szN lanes many = k + 1 := by
      rcases Nat.eq_zero_or_pos (szN lanes many) with h | h
      · exfalso; exact hz h
      · exact ⟨szN lanes many - 1, by omega⟩
    have hA : szA lanes many = many - lanes * k := by unfold szA; rw [hk]; push_cast; rw [show (k : Int) + 1 - 1 = k by omega]
    rw [hk] at b1 b2
    push_cast at b1 b2
    rw [Int.mul_sub, Int.mul_add] at b1
    rw [Int.mul_add] at b2
    have a0 : 0 < szA lanes many := by omega
    have a1 : szA lanes many ≤ lanes := by omega
    generalize hP : lanes * (k : Int) = P at *
    rw [hk, szS_two]
    split
    · rename_i hc
      obtain ⟨j, rfl⟩ : ∃ j, k = j + 1 := ⟨k - 1, by omega⟩
      have hK : 0 ≤ szK lanes le many ∧ szA lanes many + szK lanes le many ≤ le ∧ le ≤ lanes - szK lanes le many := by
        unfold szK
        rw [if_pos ⟨by omega, hc.2⟩]
        omega
      rw [List.replicate_succ, List.set_cons_zero, List.set_cons_succ, List.set_cons_zero]
      intro x hx
      rcases List.mem_cons.1 hx with rfl | hx
      · omega
      · rcases List.mem_cons.1 hx with rfl | hx
        · omega
        · obtain ⟨_, rfl⟩ := List.mem_replicate.1 hx; omega
    · intro x hx
      rcases List.mem_cons.1 hx with rfl | hx
      · omega
      · obtain ⟨_, rfl⟩ := List.mem_replicate.1 hx; omega
  · exact absurd b1 hz
section
variable {α : Type} {S : List Int}
theorem app_head {l r : List α} {s : α} (h : l[0]? = some s) : (l ++ r)[0]? = some s := by
  cases l with
  | nil => simp at h
  | cons a t => simpa using h
theorem push_head {H : List (List α)} {i j : Nat} {s t : α} (h : (H.getD j [])[0]? = some s) : ((pushH i t H).getD j [])[0]? = some s := by
  by_cases e : j = i
  · subst e
    have hj : j < H.length := by
      rcases Nat.lt_or_ge j H.length with h9 | h9
      · exact h9
      · rw [List.getD_eq_getElem?_getD, List.getElem?_eq_none h9] at h; simp at h
    rw [push_at hj]; exact app_head h
  · rw [push_ne e]; exact h
theorem cir_head {lo n : Nat} : ∀ (k at_ : Nat) (H : List (List α)) (who : List α) (H1 : List (List α)) (w1 : List α) (j : Nat) (s : α), Cir S lo n k at_ H who H1 w1 → (H.getD j [])[0]? = some s → (H1.getD j [])[0]? = some s
  | 0, at_, H, who, H1, w1, j, s, h, h2 => by rw [h.2.1]; exact h2
  | k + 1, at_, H, [], H1, w1, j, s, h, h2 => h.2.elim
  | k + 1, at_, H, x :: r, H1, w1, j, s, h, h2 => by
    have h3 : if remH S H at_ ≤ 0 then Cir S lo n k (befH lo n at_) H (x :: r) H1 w1 else Cir S lo n k (befH lo n at_) (pushH at_ x H) r H1 w1 := h.2
    split at h3
    · exact cir_head k _ H _ H1 w1 j s h3 h2
    · exact cir_head k _ _ _ H1 w1 j s h3 (push_head h2)
theorem set_head {H : List (List α)} {i j : Nat} {s : α} {r : List α} (h : (H.getD j [])[0]? = some s) : ((H.set i (H.getD i [] ++ r)).getD j [])[0]? = some s := by
  by_cases e : i = j
  · subst e
    have hj : i < H.length := by
      rcases Nat.lt_or_ge i H.length with h9 | h9
      · exact h9
      · rw [List.getD_eq_getElem?_getD, List.getElem?_eq_none h9] at h; simp at h
    rw [List.getD_eq_getElem?_getD (l := H.set _ _), List.getElem?_set_self hj]
    exact app_head h
  · rw [List.getD_eq_getElem?_getD, List.getElem?_set_ne e, ← List.getD_eq_getElem?_getD]; exact h
theorem fill_head : ∀ (i : Nat) (H : List (List α)) (who : List α) (j : Nat) (s : α), (H.getD j [])[0]? = some s → ((fillH S i H who).getD j [])[0]? = some s
  | 0, H, who, j, s, h => h
  | i + 1, H, who, j, s, h => by unfold fillH; exact fill_head i _ _ j s (set_head h)
end
theorem rem_rep (S : List Int) (i : Nat) : remH S (List.replicate S.length ([] : List ByteArray)) i = S.getD i 0 := by
  unfold remH
  rw [List.getD_eq_getElem?_getD (l := List.replicate _ _), List.getElem?_replicate]
  split <;> simp
theorem draw_head {S : List Int} {ci : Int} {s : ByteArray} {r : List ByteArray} {R : List (List ByteArray)} (hI : InvH S (List.replicate S.length ([] : List ByteArray)) (s :: r)) (hp : 0 < S.length) (hl : 0 < S.getD (S.length - 1) 0) (hR : DrawR S ci (s :: r) R) : (R.getD (S.length - 1) [])[0]? = some s := by
  have h0 := rem_rep S (S.length - 1)
  unfold DrawR at hR
  split at hR
  · rename_i hC
    obtain ⟨k, H1, w1, hc, rfl⟩ := hR
    obtain ⟨c, hce⟩ : ∃ c : Nat, min ci (S.length : Int) = c := ⟨(min ci (S.length : Int)).toNat, by omega⟩
    rw [hce] at hC hc
    have h1 : c ≤ S.length := by omega
    refine fill_head _ _ _ _ _ ?_
    cases k with
    | zero =>
      rcases hc.1 with h9 | h9
      · cases h9
      · have := room_ge hI.fit (lo := S.length - (c : Int).toNat) (j := S.length - 1) (m := S.length - (S.length - (c : Int).toNat)) (by omega) (by omega)
        omega
    | succ k =>
      have h3 : if remH S (List.replicate S.length ([] : List ByteArray)) (S.length - 1) ≤ 0 then Cir S (S.length - (c : Int).toNat) S.length k (befH (S.length - (c : Int).toNat) S.length (S.length - 1)) (List.replicate S.length ([] : List ByteArray)) (s :: r) H1 w1 else Cir S (S.length - (c : Int).toNat) S.length k (befH (S.length - (c : Int).toNat) S.length (S.length - 1)) (pushH (S.length - 1) s (List.replicate S.length ([] : List ByteArray))) r H1 w1 := hc.2
      rw [if_neg (by omega)] at h3
      refine cir_head k _ _ _ H1 w1 _ s h3 ?_
      rw [push_at (by rw [List.length_replicate]; omega), List.getD_eq_getElem?_getD, List.getElem?_replicate, if_pos (by omega)]
      rfl
  · subst hR
    obtain ⟨m, hm⟩ : ∃ m, S.length = m + 1 := ⟨S.length - 1, by omega⟩
    have h0' : remH S (List.replicate (m + 1) ([] : List ByteArray)) m = S.getD m 0 := by have := rem_rep S m; rw [hm] at this; exact this
    have hl' : 0 < S.getD m 0 := by rw [hm, Nat.add_sub_cancel] at hl; exact hl
    rw [hm, Nat.add_sub_cancel]
    unfold fillH
    refine fill_head _ _ _ _ _ ?_
    rw [List.getD_eq_getElem?_getD (l := List.set _ _ _), List.getElem?_set_self (by rw [List.length_replicate]; omega), List.getD_eq_getElem?_getD, List.getElem?_replicate, if_pos (by omega)]
    obtain ⟨q, hq⟩ : ∃ q, (remH S (List.replicate (m + 1) ([] : List ByteArray)) m).toNat = q + 1 := ⟨(remH S (List.replicate (m + 1) ([] : List ByteArray)) m).toNat - 1, by omega⟩
    rw [hq]
    rfl
theorem stIn_mem {LV : List Int} {h : Int} {s : ByteArray} : ∀ (l : List ByteArray) (j0 j : Nat), l[j]? = some s → (⟨s, h, LV.getD (j0 + j) 0⟩ : Sp) ∈ stIn LV h j0 l
  | [], _, _, hx => by simp at hx
  | x :: r, j0, 0, hx => by
    obtain rfl : x = s := by simpa using hx
    unfold stIn; exact List.mem_cons_self ..
  | x :: r, j0, j + 1, hx => by
    unfold stIn
    have := stIn_mem (LV := LV) (h := h) r (j0 + 1) j (by simpa using hx)
    rw [show j0 + 1 + j = j0 + (j + 1) by omega] at this
    exact List.mem_cons_of_mem _ this
theorem stOut_mem {LV : List Int} {s : ByteArray} {l : List ByteArray} : ∀ (R : List (List ByteArray)) (i0 i j : Nat), R[i]? = some l → l[j]? = some s → (⟨s, ((i0 + i : Nat) : Int) + 1, LV.getD j 0⟩ : Sp) ∈ stOut LV i0 R
  | [], _, _, _, hx, _ => by simp at hx
  | x :: r, i0, 0, j, hx, hy => by
    obtain rfl : x = l := by simpa using hx
    unfold stOut
    have := stIn_mem (LV := LV) (h := (i0 : Int) + 1) x 0 j hy
    rw [Nat.zero_add] at this
    exact List.mem_append_left _ this
  | x :: r, i0, i + 1, j, hx, hy => by
    unfold stOut
    have := stOut_mem (LV := LV) r (i0 + 1) i j (by simpa using hx) hy
    rw [show i0 + 1 + i = i0 + (i + 1) by omega] at this
    exact List.mem_append_right _ this
theorem stIn_heat {LV : List Int} {h : Int} {x : Sp} : ∀ (l : List ByteArray) (j : Nat), x ∈ stIn LV h j l → x.heat = h
  | [], _, hx => by cases hx
  | s :: r, j, hx => by
    unfold stIn at hx
    rcases List.mem_cons.1 hx with rfl | h9
    · rfl
    · exact stIn_heat r (j + 1) h9
theorem stOut_heat {LV : List Int} {x : Sp} : ∀ (R : List (List ByteArray)) (i : Nat), x ∈ stOut LV i R → (i : Int) + 1 ≤ x.heat ∧ x.heat ≤ (i : Int) + R.length
  | [], _, hx => by cases hx
  | l :: r, i, hx => by
    unfold stOut at hx
    rw [List.length_cons]
    rcases List.mem_append.1 hx with h9 | h9
    · have := stIn_heat l 0 h9; omega
    · have := stOut_heat r (i + 1) h9; omega
/-- the draw's last start stands in the last heat -/
theorem last_heat {LV : List Int} {R : List (List ByteArray)} {D : List Sp} {s : ByteArray} (hD : SpSorted (stOut LV 0 R) D) (hp : 0 < R.length) (hh : (R.getD (R.length - 1) [])[0]? = some s) : ∃ x, D[D.length - 1]? = some x ∧ x.heat = (R.length : Int) ∧ (⟨s, (R.length : Int), LV.getD 0 0⟩ : Sp) ∈ D := by
  obtain ⟨l, hl⟩ := at_of_lt (l := R) (k := R.length - 1) (by omega)
  rw [List.getD_eq_getElem?_getD, hl] at hh
  have hm := stOut_mem (LV := LV) R 0 (R.length - 1) 0 hl hh
  rw [show (((0 + (R.length - 1) : Nat) : Int) + 1) = (R.length : Int) by omega] at hm
  have hm2 := hD.1.mem_iff.2 hm
  have hd : 0 < D.length := by cases D with
    | nil => cases hm2
    | cons _ _ => simp
  obtain ⟨x, hx⟩ := at_of_lt (l := D) (k := D.length - 1) (by omega)
  refine ⟨x, hx, ?_, hm2⟩
  have hb := (stOut_heat R 0 (hD.1.mem_iff.1 (List.mem_of_getElem? hx))).2
  obtain ⟨i, hi, ei⟩ := List.getElem_of_mem hm2
  have h2 := hD.2
  rw [List.pairwise_iff_getElem] at h2
  have hx2 : D[D.length - 1]'(by omega) = x := by rw [List.getElem?_eq_getElem (by omega)] at hx; exact Option.some.inj hx
  by_cases e : i = D.length - 1
  · subst e
    rw [hx2] at ei
    rw [ei]
  · have h3 := h2 i (D.length - 1) hi (by omega) (by omega)
    rw [hx2, ei, spLt_no] at h3
    dsimp only at h3
    omega
/-- the fastest one -/
theorem fastest {p : Pl} (hp : PlOk p) {l : List Sd} (h0 : seedErr l = 0) (hn : 0 < l.length) (hn2 : l.length < 40) {R : List (List ByteArray)} (hR : DrawR (szV (p.hi - p.lo + 1) p.le l.length) p.ci (orderW l) R) {D : List Sp} (hD : SpSorted (stOut (laneV p.lo p.hi) 0 R) D) :
    ∃ s x ln, (orderW l)[0]? = some s ∧ D[D.length - 1]? = some x ∧ (laneV p.lo p.hi)[0]? = some ln ∧ (⟨s, x.heat, ln⟩ : Sp) ∈ D := by
  have hlan : 1 ≤ p.hi - p.lo + 1 := by have := hp.1.2; omega
  have hz := szErr_small (lanes := p.hi - p.lo + 1) (many := (l.length : Int)) hlan (by omega) (by omega)
  obtain ⟨hS1, hS2, hS3⟩ := szV_facts (lanes := p.hi - p.lo + 1) (le := p.le) (many := (l.length : Int)) hlan hp.2.2.1 (by omega) hz
  have hpos := szV_pos (lanes := p.hi - p.lo + 1) (le := p.le) (many := (l.length : Int)) hlan hp.2.2.1 (by omega) hz
  have hol := orderW_len h0 hn2
  have hI := InvH.start (S := szV (p.hi - p.lo + 1) p.le l.length) (who := orderW l) (fun x hx => (hS1 x hx).1) (by rw [hol]; exact hS2.symm)
  generalize szV (p.hi - p.lo + 1) p.le l.length = S at *
  generalize orderW l = O at *
  cases O with
  | nil => simp at hol; omega
  | cons s r =>
    have hSp : 0 < S.length := by
      cases S with
      | nil => simp at hS2; omega
      | cons _ _ => simp
    have hl : 0 < S.getD (S.length - 1) 0 := by
      obtain ⟨x, hx⟩ := at_of_lt (l := S) (k := S.length - 1) (by omega)
      rw [List.getD_eq_getElem?_getD, hx]
      have := hpos x (List.mem_of_getElem? hx)
      show 0 < x
      omega
    have hh := draw_head hI hSp hl hR
    have hRl := (drawR_inv hI hR).2.1
    rw [← hRl] at hh
    obtain ⟨x, hx, hxh, hm⟩ := last_heat hD (by omega) hh
    have hLl := laneV_len hp.1.2
    obtain ⟨ln, hln⟩ := at_of_lt (l := laneV p.lo p.hi) (k := 0) (by omega)
    refine ⟨s, x, ln, rfl, hx, hln, ?_⟩
    rw [List.getD_eq_getElem?_getD, hln] at hm
    rw [hxh]
    exact hm
end Go.Proofs.YtdbfcneeiiialaaGreatDoor

/- PLAIN: a draw is right starts, everybody once, in heats as great as the sizes say; without circles nobody is in an earlier heat than a slower one. -/
namespace Go.Proofs.YtdbfcneeiiialaaGreatDoor
open Go.RowKit Go.Shelf Go.Lib Go.Sort
set_option linter.unusedVariables false

theorem seedNodup50 {l : List Sd} (h : seedErr l = 0) : (l.map Sd.who).Nodup := by
  have h2 := seedErr_ref l
  rw [h] at h2
  split at h2
  · cases h2
  · split at h2
    · rename_i h9; exact absurd h2.symm h9
    · split at h2
      · assumption
      · cases h2
set_option maxRecDepth 100000 in
theorem lanes_fin : ∀ lo hi : Fin 11, 1 ≤ lo.val → lo.val ≤ hi.val → (laneV lo.val hi.val).Nodup ∧ ∀ x ∈ laneV lo.val hi.val, (lo.val : Int) ≤ x ∧ x ≤ hi.val := by decide
theorem lanes_ok {p : Pl} (hp : PlOk p) : (laneV p.lo p.hi).Nodup ∧ ∀ x ∈ laneV p.lo p.hi, p.lo ≤ x ∧ x ≤ p.hi := by
  obtain ⟨⟨p0, p1⟩, p2, _, _⟩ := hp
  have h := lanes_fin ⟨p.lo.toNat, by omega⟩ ⟨p.hi.toNat, by omega⟩ (by show 1 ≤ p.lo.toNat; omega) (by show p.lo.toNat ≤ p.hi.toNat; omega)
  simp only [Int.toNat_of_nonneg (show 0 ≤ p.lo by omega), Int.toNat_of_nonneg (show 0 ≤ p.hi by omega)] at h
  exact h
/- what stands in a heat -/
theorem stIn_inv {LV : List Int} {h : Int} {x : Sp} : ∀ (l : List ByteArray) (j0 : Nat), x ∈ stIn LV h j0 l → ∃ j, l[j]? = some x.who ∧ x.heat = h ∧ x.lane = LV.getD (j0 + j) 0
  | [], _, hx => by cases hx
  | s :: r, j0, hx => by
    unfold stIn at hx
    rcases List.mem_cons.1 hx with rfl | h9
    · exact ⟨0, rfl, rfl, rfl⟩
    · obtain ⟨j, h1, h2, h3⟩ := stIn_inv r (j0 + 1) h9
      exact ⟨j + 1, by simpa using h1, h2, by rw [h3]; congr 1; omega⟩
theorem stOut_inv {LV : List Int} {x : Sp} : ∀ (R : List (List ByteArray)) (i0 : Nat), x ∈ stOut LV i0 R → ∃ i l j, R[i]? = some l ∧ l[j]? = some x.who ∧ x.heat = ((i0 + i : Nat) : Int) + 1 ∧ x.lane = LV.getD j 0
  | [], _, hx => by cases hx
  | l :: r, i0, hx => by
    unfold stOut at hx
    rcases List.mem_append.1 hx with h9 | h9
    · obtain ⟨j, h1, h2, h3⟩ := stIn_inv l 0 h9
      exact ⟨0, l, j, rfl, h1, h2, by rw [h3]; congr 1; omega⟩
    · obtain ⟨i, l', j, h1, h2, h3, h4⟩ := stOut_inv r (i0 + 1) h9
      exact ⟨i + 1, l', j, by simpa using h1, h2, by rw [h3]; congr 1; omega, h4⟩
theorem stIn_dis {LV : List Int} (hn : LV.Nodup) {h : Int} : ∀ (l : List ByteArray) (j0 : Nat), j0 + l.length ≤ LV.length → (stIn LV h j0 l).Pairwise fun x y => ¬ (x.heat = y.heat ∧ x.lane = y.lane)
  | [], _, _ => List.Pairwise.nil
  | s :: r, j0, hl => by
    rw [List.length_cons] at hl
    unfold stIn
    refine List.pairwise_cons.2 ⟨fun y hy => ?_, stIn_dis hn r (j0 + 1) (by omega)⟩
    obtain ⟨j, h1, h2, h3⟩ := stIn_inv r (j0 + 1) hy
    have hj := lt_of_at h1
    rintro ⟨_, h4⟩
    dsimp only at h4
    rw [h3] at h4
    have a1 := List.getElem?_eq_getElem (l := LV) (i := j0) (by omega)
    have a2 := List.getElem?_eq_getElem (l := LV) (i := j0 + 1 + j) (by omega)
    rw [List.getD_eq_getElem?_getD, List.getD_eq_getElem?_getD, a1, a2] at h4
    exact List.pairwise_iff_getElem.1 hn j0 (j0 + 1 + j) (by omega) (by omega) (by omega) h4
theorem stOut_dis {LV : List Int} (hn : LV.Nodup) : ∀ (R : List (List ByteArray)) (i0 : Nat), (∀ l ∈ R, l.length ≤ LV.length) → (stOut LV i0 R).Pairwise fun x y => ¬ (x.heat = y.heat ∧ x.lane = y.lane)
  | [], _, _ => List.Pairwise.nil
  | l :: r, i0, hl => by
    unfold stOut
    refine List.pairwise_append.2 ⟨stIn_dis hn l 0 (by have := hl l (List.mem_cons_self ..); omega), stOut_dis hn r (i0 + 1) (fun x hx => hl x (List.mem_cons_of_mem _ hx)), fun x hx y hy => ?_⟩
    have h1 := stIn_heat l 0 hx
    have h2 := (stOut_heat r (i0 + 1) hy).1
    rintro ⟨h3, _⟩
    omega
theorem stOut_who (LV : List Int) : ∀ (R : List (List ByteArray)) (i0 : Nat), (stOut LV i0 R).map Sp.who = R.flatten
  | [], _ => rfl
  | l :: r, i0 => by
    have h1 : ∀ (l : List ByteArray) (h : Int) (j : Nat), (stIn LV h j l).map Sp.who = l := by
      intro l
      induction l with
      | nil => intro h j; rfl
      | cons s t ih => intro h j; unfold stIn; rw [List.map_cons, ih]
    unfold stOut
    rw [List.map_append, h1, stOut_who LV r (i0 + 1), List.flatten_cons]
def inH (h : Int) (x : Sp) : Bool := decide (x.heat = h)
theorem stOut_count (LV : List Int) : ∀ (R : List (List ByteArray)) (i0 i : Nat), ((stOut LV i0 R).filter (inH (((i0 + i : Nat) : Int) + 1))).length = (R.getD i []).length
  | [], _, _ => rfl
  | l :: r, i0, i => by
    unfold stOut
    rw [List.filter_append, List.length_append]
    cases i with
    | zero =>
      have h1 : (stIn LV ((i0 : Int) + 1) 0 l).filter (inH (((i0 + 0 : Nat) : Int) + 1)) = stIn LV ((i0 : Int) + 1) 0 l := List.filter_eq_self.2 fun x hx => decide_eq_true (by rw [stIn_heat l 0 hx]; rfl)
      have h2 : (stOut LV (i0 + 1) r).filter (inH (((i0 + 0 : Nat) : Int) + 1)) = [] := List.filter_eq_nil_iff.2 fun x hx => by
        have := (stOut_heat r (i0 + 1) hx).1
        unfold inH
        rw [decide_eq_true_eq]
        omega
      rw [h1, h2, stIn_lenH]
      rfl
    | succ i =>
      have h1 : (stIn LV ((i0 : Int) + 1) 0 l).filter (inH (((i0 + (i + 1) : Nat) : Int) + 1)) = [] := List.filter_eq_nil_iff.2 fun x hx => by
        have := stIn_heat l 0 hx
        unfold inH
        rw [decide_eq_true_eq]
        omega
      have h2 := stOut_count LV r (i0 + 1) i
      rw [show i0 + 1 + i = i0 + (i + 1) by omega] at h2
      rw [h1, h2]
      simp
/- without circles -/
def catR (R : List (List ByteArray)) : Nat → List ByteArray
  | 0 => []
  | i + 1 => R.getD i [] ++ catR R i
theorem fill_far {S : List Int} : ∀ (i : Nat) (H : List (List ByteArray)) (who : List ByteArray) (j : Nat), i ≤ j → (fillH S i H who).getD j [] = H.getD j []
  | 0, _, _, _, _ => rfl
  | i + 1, H, who, j, h => by
    unfold fillH
    rw [fill_far i _ _ j (by omega), List.getD_eq_getElem?_getD, List.getElem?_set_ne (by omega), ← List.getD_eq_getElem?_getD]
theorem cat_fill {S : List Int} : ∀ (i : Nat) (H : List (List ByteArray)) (who : List ByteArray), i ≤ H.length → (∀ j, j < i → H.getD j [] = []) → (∀ j, j < i → 0 ≤ S.getD j 0) → (who.length : Int) ≤ roomH S H 0 i → catR (fillH S i H who) i = who
  | 0, H, who, _, _, _, hr => by
    have : who.length = 0 := by unfold roomH at hr; omega
    rw [List.eq_nil_of_length_eq_zero this]; rfl
  | i + 1, H, who, hl, he, hp, hr => by
    unfold fillH catR
    have hei := he i (by omega)
    have hrem : remH S H i = S.getD i 0 := by unfold remH; rw [hei]; simp
    have hpi := hp i (by omega)
    rw [fill_far i _ _ i (Nat.le_refl _), List.getD_eq_getElem?_getD (l := H.set _ _), List.getElem?_set_self (by omega), hei, List.nil_append]
    show who.take _ ++ _ = _
    have hroom : ∀ m, m ≤ i → roomH S (H.set i (who.take (remH S H i).toNat)) 0 m = roomH S H 0 m := by
      intro m
      induction m with
      | zero => intro _; rfl
      | succ m ih =>
        intro hm
        unfold roomH
        rw [ih (by omega)]
        congr 1
        unfold remH
        rw [List.getD_eq_getElem?_getD (l := H.set _ _), List.getElem?_set_ne (by omega), ← List.getD_eq_getElem?_getD]
    have ih := cat_fill (S := S) i (H.set i (who.take (remH S H i).toNat)) (who.drop (remH S H i).toNat) (by rw [List.length_set]; omega) (fun j hj => by rw [List.getD_eq_getElem?_getD, List.getElem?_set_ne (by omega), ← List.getD_eq_getElem?_getD]; exact he j (by omega)) (fun j hj => hp j (by omega)) (by
      rw [hroom i (Nat.le_refl _), List.length_drop]
      have h3 : roomH S H 0 (i + 1) = roomH S H 0 i + remH S H (0 + i) := rfl
      rw [Nat.zero_add] at h3
      have h4 : 0 ≤ roomH S H 0 i := by
        have : ∀ m, m ≤ i → 0 ≤ roomH S H 0 m := by
          intro m
          induction m with
          | zero => intro _; exact Int.le_refl _
          | succ m ih =>
            intro hm
            have h5 : roomH S H 0 (m + 1) = roomH S H 0 m + remH S H (0 + m) := rfl
            have h6 := ih (by omega)
            have h7 := hp m (by omega)
            have h8 : remH S H m = S.getD m 0 := by unfold remH; rw [he m (by omega)]; simp
            rw [Nat.zero_add] at h5
            omega
        exact this i (Nat.le_refl _)
      omega)
    rw [ih, List.take_append_drop]
theorem cat_mem {R : List (List ByteArray)} {s : ByteArray} : ∀ (m j : Nat), j < m → s ∈ R.getD j [] → s ∈ catR R m
  | 0, _, h, _ => absurd h (by omega)
  | m + 1, j, h, hs => by
    unfold catR
    by_cases e : j = m
    · subst e; exact List.mem_append_left _ hs
    · exact List.mem_append_right _ (cat_mem m j (by omega) hs)
theorem cat_ord {R : List (List ByteArray)} : ∀ (m : Nat), (catR R m).Nodup → (catR R m).Pairwise fun s t => ∀ h h', h < m → h' < m → s ∈ R.getD h [] → t ∈ R.getD h' [] → h' ≤ h
  | 0, _ => List.Pairwise.nil
  | m + 1, hn => by
    unfold catR at hn ⊢
    obtain ⟨n1, n2, n3⟩ := List.nodup_append.1 hn
    have hd : ∀ s h, h < m + 1 → s ∈ R.getD m [] → s ∈ R.getD h [] → h = m := fun s h hh h1 h2 => by
      apply Decidable.byContradiction
      intro h9
      exact n3 s h1 s (cat_mem m h (by omega) h2) rfl
    have hd2 : ∀ s h, h < m + 1 → s ∈ catR R m → s ∈ R.getD h [] → h < m := fun s h hh h1 h2 => by
      apply Decidable.byContradiction
      intro h9
      have e : h = m := by omega
      subst e
      exact n3 s h2 s h1 rfl
    refine List.pairwise_append.2 ⟨?_, ?_, fun s hs t ht h h' q1 q2 q3 q4 => ?_⟩
    · refine List.pairwise_iff_forall_sublist.2 fun {s t} hst h h' q1 q2 q3 q4 => ?_
      have hs : s ∈ R.getD m [] := hst.subset (List.mem_cons_self ..)
      have ht : t ∈ R.getD m [] := hst.subset (List.mem_cons_of_mem _ (List.mem_cons_self ..))
      have := hd s h q1 hs q3
      have := hd t h' q2 ht q4
      omega
    · refine List.pairwise_iff_forall_sublist.2 fun {s t} hst h h' q1 q2 q3 q4 => ?_
      have hs : s ∈ catR R m := hst.subset (List.mem_cons_self ..)
      have ht : t ∈ catR R m := hst.subset (List.mem_cons_of_mem _ (List.mem_cons_self ..))
      exact List.pairwise_iff_forall_sublist.1 (cat_ord m n2) hst h h' (hd2 s h q1 hs q3) (hd2 t h' q2 ht q4) q3 q4
    · have := hd s h q1 hs q3
      omega
/-- what a draw is -/
structure DrOk (p : Pl) (O : List ByteArray) (D : List Sp) : Prop where
  ok : SOk p D
  len : D.length = O.length
  cnt : ∀ i, i < (szV (p.hi - p.lo + 1) p.le O.length).length → ((D.filter (inH ((i : Int) + 1))).length : Int) = (szV (p.hi - p.lo + 1) p.le O.length).getD i 0
  all : ∀ s ∈ O, ∃ x ∈ D, x.who = s
  ord : p.ci = 1 → ∀ (a b : Nat) (x y : Sp), a < b → O[a]? = some x.who → O[b]? = some y.who → x ∈ D → y ∈ D → y.heat ≤ x.heat
theorem draw_ok {p : Pl} (hp : PlOk p) {O : List ByteArray} (hO : O.Nodup) (hk : ∀ s ∈ O, keyB s = true) (hz : szErr (p.hi - p.lo + 1) (O.length : Int) = 0) (hn : O.length ≤ 300) {R : List (List ByteArray)} (hR : DrawR (szV (p.hi - p.lo + 1) p.le O.length) p.ci O R) {D : List Sp} (hD : SpSorted (stOut (laneV p.lo p.hi) 0 R) D) : DrOk p O D := by
  have hlan : 1 ≤ p.hi - p.lo + 1 := by have := hp.1.2; omega
  obtain ⟨hS1, hS2, hS3⟩ := szV_facts (lanes := p.hi - p.lo + 1) (le := p.le) (many := (O.length : Int)) hlan hp.2.2.1 (by omega) hz
  have hpos := szV_pos (lanes := p.hi - p.lo + 1) (le := p.le) (many := (O.length : Int)) hlan hp.2.2.1 (by omega) hz
  have hI := InvH.start (S := szV (p.hi - p.lo + 1) p.le O.length) (who := O) (fun x hx => (hS1 x hx).1) hS2.symm
  obtain ⟨r1, r2, r3⟩ := drawR_inv hI hR
  obtain ⟨l1, l2⟩ := lanes_ok hp
  have hLl := laneV_len hp.1.2
  generalize hSS : szV (p.hi - p.lo + 1) p.le O.length = S at *
  have hRl : ∀ (i : Nat) (l : List ByteArray), R[i]? = some l → (l.length : Int) = S.getD i 0 ∧ 1 ≤ l.length ∧ l.length ≤ (laneV p.lo p.hi).length := fun i l hl => by
    have hi := lt_of_at hl
    have h1 := r3 i (by omega)
    rw [List.getD_eq_getElem?_getD, hl] at h1
    obtain ⟨x, hx⟩ := at_of_lt (l := S) (k := i) (by omega)
    have h2 : S.getD i 0 = x := by rw [List.getD_eq_getElem?_getD, hx]; rfl
    have h3 := hpos x (List.mem_of_getElem? hx)
    have h4 := (hS1 x (List.mem_of_getElem? hx)).2
    have h5 : (l.length : Int) = S.getD i 0 := h1
    exact ⟨h5, by omega, by omega⟩
  have hwho : (D.map Sp.who).Perm O := ((hD.1.map Sp.who).trans (by rw [stOut_who])).trans r1
  have hdist : D.Pairwise fun x y => ¬ (x.heat = y.heat ∧ x.lane = y.lane) := (hD.1.pairwise_iff (fun {x y} hxy h9 => hxy ⟨h9.1.symm, h9.2.symm⟩)).2 (stOut_dis l1 R 0 fun l hl => by
    obtain ⟨i, hi, rfl⟩ := List.getElem_of_mem hl
    exact (hRl i _ (List.getElem?_eq_getElem hi)).2.2)
  have hinv : ∀ x ∈ D, ∃ (i : Nat) (l : List ByteArray) (j : Nat), R[i]? = some l ∧ l[j]? = some x.who ∧ x.heat = (i : Int) + 1 ∧ x.lane = (laneV p.lo p.hi).getD j 0 := fun x hx => by
    obtain ⟨i, l, j, q1, q2, q3, q4⟩ := stOut_inv R 0 (hD.1.mem_iff.1 hx)
    exact ⟨i, l, j, q1, q2, by rw [q3]; congr 2; omega, q4⟩
  have hord : D.Pairwise spB := (hD.2.and hdist).imp fun {x y} hxy => by
    have h1 := (spLt_no y x).1 hxy.1
    have h2 := hxy.2
    unfold spB
    omega
  have hge : ∀ x ∈ D, (0 : Int) ≤ x.heat := fun x hx => by
    obtain ⟨i, l, j, q1, q2, q3, q4⟩ := hinv x hx
    omega
  refine ⟨⟨if_pos hp, ?_, fun x hx => ?_, hord, hwho.nodup_iff.2 hO, ?_⟩, ?_, fun i hi => ?_, fun s hs => ?_, fun hc a b x y hab ha hb hx hy => ?_⟩
  · have := hwho.length_eq
    rw [List.length_map] at this
    omega
  · obtain ⟨i, l, j, q1, q2, q3, q4⟩ := hinv x hx
    have hi := lt_of_at q1
    have hj := lt_of_at q2
    have hl := hRl i l q1
    refine ⟨hk _ (hwho.mem_iff.1 (List.mem_map_of_mem hx)), by omega, ?_⟩
    obtain ⟨ln, hln⟩ := at_of_lt (l := laneV p.lo p.hi) (k := j) (by omega)
    rw [q4, List.getD_eq_getElem?_getD, hln]
    exact l2 ln (List.mem_of_getElem? hln)
  · refine (ch_iff D 0 hord hge).2 fun x hx h h1 h2 => ?_
    obtain ⟨i, l, j, q1, q2, q3, q4⟩ := hinv x hx
    have hi := lt_of_at q1
    obtain ⟨k, hk'⟩ : ∃ k : Nat, h = (k : Int) + 1 := ⟨(h - 1).toNat, by omega⟩
    obtain ⟨l', hl'⟩ := at_of_lt (l := R) (k := k) (by omega)
    obtain ⟨s, hs⟩ := at_of_lt (l := l') (k := 0) (by have := (hRl k l' hl').2.1; omega)
    have hm := stOut_mem (LV := laneV p.lo p.hi) R 0 k 0 hl' hs
    exact ⟨_, hD.1.mem_iff.2 hm, by dsimp only; omega⟩
  · have := hwho.length_eq
    rw [List.length_map] at this
    exact this
  · rw [hSS] at hi ⊢
    have h1 := stOut_count (laneV p.lo p.hi) R 0 i
    rw [show (((0 + i : Nat) : Int) + 1) = (i : Int) + 1 by omega] at h1
    have h2 := (hD.1.filter (inH ((i : Int) + 1))).length_eq
    rw [h2, h1]
    exact r3 i hi
  · obtain ⟨x, hx, e⟩ := List.mem_map.1 (hwho.mem_iff.2 hs)
    exact ⟨x, hx, e⟩
  · unfold DrawR at hR
    rw [hc, if_neg (by omega)] at hR
    have hroom : (O.length : Int) ≤ roomH S (List.replicate S.length ([] : List ByteArray)) 0 S.length := by have := hI.sum; omega
    have hcat := cat_fill (S := S) S.length (List.replicate S.length ([] : List ByteArray)) O (by rw [List.length_replicate]; exact Nat.le_refl _) (fun j hj => by rw [List.getD_eq_getElem?_getD, List.getElem?_replicate, if_pos hj]; rfl) (fun j hj => by
      obtain ⟨v, hv⟩ := at_of_lt (l := S) (k := j) hj
      rw [List.getD_eq_getElem?_getD, hv]
      exact (hS1 v (List.mem_of_getElem? hv)).1) hroom
    rw [hR] at hcat
    have hpw := cat_ord (R := R) S.length (by rw [hcat]; exact hO)
    rw [hcat, List.pairwise_iff_getElem] at hpw
    obtain ⟨i, l, j, q1, q2, q3, q4⟩ := hinv x hx
    obtain ⟨i', l', j', q1', q2', q3', q4'⟩ := hinv y hy
    have ga := lt_of_at ha
    have gb := lt_of_at hb
    have e1 : O[a] = x.who := by rw [List.getElem?_eq_getElem ga] at ha; exact Option.some.inj ha
    have e2 : O[b] = y.who := by rw [List.getElem?_eq_getElem gb] at hb; exact Option.some.inj hb
    have h9 := hpw a b ga gb hab i i' (by have := lt_of_at q1; omega) (by have := lt_of_at q1'; omega) (by rw [e1, List.getD_eq_getElem?_getD, q1]; exact List.mem_of_getElem? q2) (by rw [e2, List.getD_eq_getElem?_getD, q1']; exact List.mem_of_getElem? q2')
    omega
end Go.Proofs.YtdbfcneeiiialaaGreatDoor
