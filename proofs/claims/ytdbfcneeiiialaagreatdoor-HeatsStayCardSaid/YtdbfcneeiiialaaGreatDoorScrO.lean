/- heat.Scratch and heat.Late, their rows told as the call's own. Printed by wip/mkscro.py. -/
import Derived.Test.YtdbfcneeiiialaaGreatDoorScrP
import Derived.Test.YtdbfcneeiiialaaGreatDoorP50
namespace Go.Proofs.YtdbfcneeiiialaaGreatDoor
open Go.RowKit Go.Shelf Go.Lib Go.Sort
set_option linter.unusedVariables false

def RetLtO (w : World) (E : Int) (Q : List Sp → Bool → Prop) (e : Ending) (w' : World) : Prop := ∃ (A' : Option Addr) (n' c' : Nat) (b : Bool) (L : List Sp), e = .returned (.tuple #[.slice A' n' c', .bool b, .int .i64 E]) ∧ (E = 0 → w'.ownsRow w.heap.size 111 3 (.slice A' n' c') n' (L.flatMap spE)) ∧ Q L b ∧ n' ≤ 1000 ∧ Below w.heap.size w w'
set_option maxHeartbeats 6400000 in
set_option maxRecDepth 100000 in
theorem scratchO_c (p : Pl) (hpb : PlBd p) (A B : Option Addr) (n c m d : Nat) (l : List Sp) (a : List ByteArray) (w : World) (h : RSp w A n l) (ha : RS 9 w B m a) (hcap : (B = none ∧ m = 0 ∧ d = 0) ∨ ∃ b, B = some ⟨b, 0, none⟩ ∧ m ≤ d) (hn : n ≤ 400) :
    Calls Tryz.prog 67 #[p.val, .slice A n c, .slice B m d] w fun e w' => ∃ A' n' c', e = .returned (.tuple #[.slice A' n' c', .int .i64 (scrErr p l a)]) ∧ (scrErr p l a = 0 → w'.ownsRow w.heap.size 111 3 (.slice A' n' c') n' ((scrL a l).flatMap spE)) ∧ n' ≤ n ∧ Below w.heap.size w w' := by
  have hB1 : Below w.heap.size w ((w.alloc (.cells p.cells 97)).alloc (.cells #[.slice A n c] 103)) := below_next (below_new w (.cells p.cells 97)) (below_new _ (.cells #[.slice A n c] 103))
  have hx0 := heap_alloc_new (w.alloc (.cells p.cells 97)) (.cells #[.slice A n c] 103)
  rw [alloc_size] at hx0
  have hp0 : PoolB w.heap.size p ((w.alloc (.cells p.cells 97)).alloc (.cells #[.slice A n c] 103)) := blk_alloc (heap_alloc_new w _) _
  have hCS := Lib.hid (checkStarts_c p hpb A n c l _ (h.below hB1))
  have hWh := Lib.hid (fun W (B1 : Below w.heap.size w W) (hb : W.heap[w.heap.size + 1]? = some (.cells #[.slice A n c] 103 (0, 0))) => checkWhoG_c 147 (enters_of Tryz.func147 (by kernel_rfl) rfl) #[.pointer (some ⟨w.heap.size + 1, 0, none⟩)] B m d (l.map Sp.who) a W (ha.below B1) hcap (fun s W2 B2 => memberSp_c A n c l s (w.heap.size + 1) W2 ((h.below B1).below B2) (blk_below hb B2)))
  have hCn := Lib.hid (fun W B1 x => containsN_c B m d a x W (ha.below (w' := W) B1))
  have hR := Lib.hid (fun W B => h.below (w' := W) B)
  have hl := Lib.hid h.len
  have hz1 : w.heap.size + 2 ≤ ((w.alloc (.cells p.cells 97)).alloc (.cells #[.slice A n c] 103)).heap.size := by simp
  obtain ⟨E, hE⟩ : ∃ E, scrErr p l a = E := ⟨_, rfl⟩
  rw [hE]
  have hE' : Hid ((if startsErr p l ≠ 0 then startsErr p l else goneErr (l.map Sp.who) a) = E) := Lib.hid hE
  obtain ⟨LL, hLe⟩ : ∃ LL, scrL a l = LL := ⟨_, rfl⟩
  rw [hLe]
  have hL := Lib.hid (show LL = scrG 0 0 ((l.drop 0).filter fun y => !Lib.containsS a y.who) from hLe.symm)
  have hSa := Lib.hid (fun old hh k x (hx : l[k]? = some x) => scrF_at a old hh hx)
  have hS0 := Lib.hid (fun old hh => show scrG old hh ([].filter fun y => !Lib.containsS a y.who) = [] from rfl)
  generalize startsErr p l = SE at *
  generalize goneErr (l.map Sp.who) a = GE at *
  clear h ha hE hLe hpb
  obtain ⟨z0, z1, z2, z3⟩ := hp0.at_
  have hb1 := (blk_facts hx0).1 0
  obtain ⟨lo, hi, le, ci⟩ := p
  dsimp only [Pl.val, Pl.cells] at *
  generalize scrG = SG at *
  generalize (fun y : Sp => !Lib.containsS a y.who) = FF at *
  go_enter Tryz.func67, Tryz.ntmps67
  go_wp2_with fail
  refine hCS.out.mono ?_; rintro e w1 ⟨rfl, B1⟩
  have hB2 := below_next hB1 B1
  have hx1 := blk_below hx0 B1
  have hz2 := Nat.le_trans hz1 B1.size
  clear hB1 hx0 hCS B1 hz1 hp0 z0 z1 z2 z3 hb1
  by_cases h0 : SE = 0
  rotate_left
  · obtain rfl : SE = E := by rw [← hE'.out, if_pos h0]
    have hd : (SE != 0) = true := by simpa using h0
    have h0' := Lib.hid h0
    clear h0 hE' hWh hL
    go_wp2
    go_ret2
    exact ⟨none, 0, 0, rfl, fun h9 => absurd h9 h0'.out, Nat.zero_le _, hB2⟩
  obtain rfl : GE = E := by rw [← hE'.out, if_neg (by simpa using h0)]
  subst h0
  have hWo := Lib.hid (hWh.out w1 hB2 hx1)
  clear hE' hWh
  go_wp2_with fail
  refine hWo.out.mono ?_; rintro e w2 ⟨rfl, B2⟩
  have K2 : ScK w (.slice none 0 0) [] w2 := ⟨World.ownsRow_nil _ _ _ _, below_next hB2 B2, Nat.le_trans hz2 B2.size⟩
  have hb2 := blk_below hx1 B2
  have hx2 := (blk_facts hb2).1 0
  clear hWo hB2 B2 hx1 hz2 hb2
  by_cases h1 : GE = 0
  rotate_left
  · have hd : (GE != 0) = true := by simpa using h1
    have hbel := K2.bel
    have h1' := Lib.hid h1
    clear h1 hL K2
    go_wp2
    go_ret2
    exact ⟨none, 0, 0, rfl, fun h9 => absurd h9 h1'.out, Nat.zero_le _, hbel⟩
  subst h1
  go_wp2_with fail
  go_loopw [10, 11, 12, 29] (fun u o hh i wr => ∃ (k : Nat) (old nw : Int) (acc : List Sp), k ≤ n ∧ i = .int .i64 k ∧ o = .int .i64 old ∧ hh = .int .i64 nw ∧ (0 ≤ nw ∧ nw ≤ k) ∧ acc.length ≤ k ∧ ScK w u acc wr ∧ Hid (acc ++ SG old nw ((l.drop k).filter FF) = LL)) (fun _ _ _ i _ => n - (intOf i).toNat)
  case atStart => exact ⟨0, 0, 0, [], Nat.zero_le _, rfl, rfl, rfl, by omega, Nat.zero_le _, K2, Lib.hid hL.out.symm⟩
  case round =>
    clear K2 hx2
    rename World => wr
    obtain ⟨k, old, nw, acc, hk, rfl, rfl, rfl, ⟨nw0, nw1⟩, hak, K, hG⟩ := hrel
    obtain ⟨A5, c5, hu⟩ := own_shape K.o
    subst hu
    by_cases hlt : k < n
    · obtain ⟨b, off, x, rfl, hbl, hx, c0, c1, c2⟩ := RSp_at3 (hR.out _ K.bel) hlt
      have hst := Lib.hid (hSa.out old nw k x hx)
      have hx' := Lib.hid hx
      obtain ⟨who, heat, lane⟩ := x
      dsimp only at *
      have hn5 := heap_alloc_new wr (.cells #[.string who, .int .i64 heat, .int .i64 lane] 111)
      have K5 := K.below (below_new wr (.cells #[.string who, .int .i64 heat, .int .i64 lane] 111))
      have hC5 := Lib.hid (hCn.out _ K5.bel who)
      have hb7 : w.heap.size + 2 ≤ wr.heap.size := K.z
      have hne : ∀ i, (Value.slice A5 acc.length c5).ownBlock = some i → i ≠ wr.heap.size := fun i hi => by have := (K.o.lt i hi).2; omega
      have hsz7 : wr.heap.size < (wr.alloc (.cells #[.string who, .int .i64 heat, .int .i64 lane] 111)).heap.size := by simp
      have y0 := (blk_facts hn5).1 0
      clear hx K
      go_wp2_with fail
      refine hC5.out.mono ?_; rintro e w5 ⟨rfl, rfl⟩
      clear hC5
      generalize wr.alloc (.cells #[.string who, .int .i64 heat, .int .i64 lane] 111) = w5 at *
      generalize wr.heap.size = b7 at *
      have e9 : IntKind.i64.wrap (nw + 1) = nw + 1 := IntWalk.i64_in _ (by omega)
      have hK' := Lib.hid (fun (v : Value) => K5.set hb7 hne 1 v)
      by_cases hc : Lib.containsS a who = true
      · have hG2 := Lib.hid (show acc ++ SG old nw ((l.drop (k + 1)).filter FF) = LL by rw [← hG.out, hst.out, if_pos hc])
        rw [hc]
        clear hG hst hK' hne
        go_wp2
        go_roundw
        case rel => exact ⟨k + 1, old, nw, acc, by omega, by go_num, rfl, rfl, by omega, by omega, K5, hG2⟩
        case measure => simp [intOf]; omega
      · have hc' : Lib.containsS a who = false := by simpa using hc
        have hst2 := Lib.hid (show SG old nw ((l.drop k).filter FF) = ⟨who, if heat ≠ old then nw + 1 else nw, lane⟩ :: SG heat (if heat ≠ old then nw + 1 else nw) ((l.drop (k + 1)).filter FF) by rw [hst.out, if_neg hc])
        rw [hc']
        have y1 := (blk_facts hn5).1 1
        have f1 := (blk_facts hn5).2 1
        by_cases hh : heat = old
        · subst hh
          have hG2 := Lib.hid (show (acc ++ [(⟨who, nw, lane⟩ : Sp)]) ++ SG heat nw ((l.drop (k + 1)).filter FF) = LL by rw [← hG.out, hst2.out, if_neg (by simp), List.append_assoc]; rfl)
          have K6 := hK'.out (.int .i64 nw)
          have hx6 := blk_set hn5 1 (.int .i64 nw)
          have x60 := (blk_facts hx6).1 0
          have x61 := (blk_facts hx6).1 1
          have x62 := (blk_facts hx6).1 2
          clear hG hst hst2 hK' hne hc hc' hn5 hx6 K5
          go_wp2_with (at_builtin; refine wpList_app rfl (.tmp 47) (.tmp 49) 103 rfl Tryz.underlying103 info_start rfl (by omega) (by omega) K6.o rfl rfl (by first | rfl | (simp; done)) rfl (by simp [Value.oneCell']) (by omega) K6.z ?_; intro v9 w9 ho9 hg9)
          have K9 := K6.app ⟨who, nw, lane⟩ ho9 hg9
          clear ho9 hg9 K6
          go_roundw
          case rel => exact ⟨k + 1, heat, nw, _, by omega, by go_num, rfl, rfl, by omega, by rw [List.length_append]; show acc.length + 1 ≤ k + 1; omega, K9, hG2⟩
          case measure => simp [intOf]; omega
        · have hG2 := Lib.hid (show (acc ++ [(⟨who, nw + 1, lane⟩ : Sp)]) ++ SG heat (nw + 1) ((l.drop (k + 1)).filter FF) = LL by rw [← hG.out, hst2.out, if_pos hh, List.append_assoc]; rfl)
          have K6 := hK'.out (.int .i64 (nw + 1))
          have hx6 := blk_set hn5 1 (.int .i64 (nw + 1))
          have x60 := (blk_facts hx6).1 0
          have x61 := (blk_facts hx6).1 1
          have x62 := (blk_facts hx6).1 2
          clear hG hst hst2 hK' hne hc hc' hn5 hx6 K5
          go_wp2_with (at_builtin; refine wpList_app rfl (.tmp 47) (.tmp 49) 103 rfl Tryz.underlying103 info_start rfl (by omega) (by omega) K6.o rfl rfl (by first | rfl | (simp; done)) rfl (by simp [Value.oneCell']) (by omega) K6.z ?_; intro v9 w9 ho9 hg9)
          have K9 := K6.app ⟨who, nw + 1, lane⟩ ho9 hg9
          clear ho9 hg9 K6
          go_roundw
          case rel => exact ⟨k + 1, heat, nw + 1, _, by omega, by go_num, rfl, rfl, by omega, by rw [List.length_append]; show acc.length + 1 ≤ k + 1; omega, K9, hG2⟩
          case measure => simp [intOf]; omega
    · obtain rfl : k = n := by omega
      have hRL : acc = LL := by
        have h1 := hG.out
        rw [drop_end (by rw [hl.out]; exact Nat.le_refl _), hS0.out, List.append_nil] at h1
        exact h1
      have hrs2 : wr.ownsRow w.heap.size 111 3 (.slice A5 acc.length c5) acc.length (LL.flatMap spE) := by rw [← hRL]; exact own_mono K.o (by omega)
      have hbel := K.bel
      clear hG hL hRL K
      go_wp2
      go_ret2
      first | exact ⟨_, _, _, rfl, hrs2, hak, hbel⟩ | exact ⟨_, _, _, rfl, fun _ => hrs2, hak, hbel⟩
set_option maxHeartbeats 6400000 in
set_option maxRecDepth 100000 in
theorem lateO_c (p : Pl) (hpb : PlBd p) (A : Option Addr) (n c : Nat) (l : List Sp) (sd : Sd) (w : World) (h : RSp w A n l) (hn : n ≤ 400) :
    Calls Tryz.prog 68 #[p.val, .slice A n c, .agg #[.string sd.who, .int .i64 sd.time]] w (RetLtO w (lateErr p l sd) (LateQ p l sd)) := by
  have hR := Lib.hid (fun W B => h.below (w' := W) B)
  have hl := Lib.hid h.len
  have hB1 : Below w.heap.size w ((w.alloc (.cells p.cells 97)).alloc (.cells #[.string sd.who, .int .i64 sd.time] 40)) := below_next (below_new w (.cells p.cells 97)) (below_new _ (.cells #[.string sd.who, .int .i64 sd.time] 40))
  have hx0 := heap_alloc_new (w.alloc (.cells p.cells 97)) (.cells #[.string sd.who, .int .i64 sd.time] 40)
  rw [alloc_size] at hx0
  have hp0 : PoolB w.heap.size p ((w.alloc (.cells p.cells 97)).alloc (.cells #[.string sd.who, .int .i64 sd.time] 40)) := blk_alloc (heap_alloc_new w _) _
  have hz1 : w.heap.size + 2 ≤ ((w.alloc (.cells p.cells 97)).alloc (.cells #[.string sd.who, .int .i64 sd.time] 40)).heap.size := by simp
  have hCS := Lib.hid (checkStarts_c p hpb A n c l _ (h.below hB1))
  have hCd := Lib.hid (fun W => checkSeeds_c (some ⟨W.heap.size, 0, none⟩) 1 1 [sd] (W.alloc (.cells #[.string sd.who, .int .i64 sd.time] 40)) (oneSeed W sd))
  have hHs := Lib.hid (fun W B (hb : W.heap[w.heap.size + 1]? = some (.cells #[.string sd.who, .int .i64 sd.time] 40 (0, 0))) => hasSp_c 151 (enters_of Tryz.func151 (by kernel_rfl) rfl) #[.pointer (some ⟨w.heap.size + 1, 0, none⟩)] (fun x => decide (x.who = sd.who)) A n c l W (h.below (w' := W) B) (fun x _ W2 B2 => sameLt_c x sd (w.heap.size + 1) W2 (blk_below hb B2)))
  rw [any_who] at hHs
  have hEm := Lib.hid (fun W B => empty_c p hpb A n c l W (h.below (w' := W) B))
  have hCl := Lib.hid (fun W B => cloneSp_c A n c l W (h.below (w' := W) B) (by omega))
  have hE : lateErr p l sd = (if startsErr p l ≠ 0 then startsErr p l else if seedErr [sd] ≠ 0 then seedErr [sd] else if Lib.containsS (l.map Sp.who) sd.who = true then 6 else if 300 ≤ n then 2 else 0) := by unfold lateErr; rw [h.len]
  have hQ0 := Lib.hid (fun (h0 : lateErr p l sd ≠ 0) => show LateQ p l sd [] false by unfold LateQ; rw [if_pos h0]; exact ⟨rfl, rfl⟩)
  have hQ1 := Lib.hid (fun (h0 : lateErr p l sd = 0) (h1 : emptyL p l = []) => show LateQ p l sd l false by unfold LateQ; rw [if_neg (by simpa using h0), h1]; exact ⟨rfl, rfl⟩)
  have hQ2 := Lib.hid (fun (h0 : lateErr p l sd = 0) (f : Sp) r (h1 : emptyL p l = f :: r) L (hL : SpSortF (l ++ lateF (emptyL p l) sd.who f.heat (laneV p.lo p.hi)) L) => show LateQ p l sd L true by unfold LateQ; rw [if_neg (by simpa using h0), h1]; rw [h1] at hL; exact ⟨rfl, hL⟩)
  have hLn := Lib.hid (fun (h0 : startsErr p l = 0) W => lanesOfP_c p (startsErr_ok h0).pool W)
  have hPl0 := Lib.hid (fun (h0 : startsErr p l = 0) => show 1 ≤ p.lo ∧ p.lo ≤ p.hi ∧ p.hi ≤ 10 from ⟨(startsErr_ok h0).pool.1.1, (startsErr_ok h0).pool.1.2, (startsErr_ok h0).pool.2.1⟩)
  have hFa := Lib.hid (fun who hh k ln (hx : (laneV p.lo p.hi)[k]? = some ln) => lateF_at (emptyL p l) who hh hx)
  have hCt := Lib.hid (fun Af nf cf W (y : Sp) (hf : RSp W Af nf (emptyL p l)) (hnf : nf ≤ 1000) => containsSp_c Af nf cf (emptyL p l) y W hf hnf)
  generalize startsErr p l = SE at *
  generalize seedErr [sd] = DE at *
  generalize Lib.containsS (l.map Sp.who) sd.who = CE at *
  generalize lateErr p l sd = E at *
  have hE' := Lib.hid hE
  obtain ⟨z0, z1, z2, z3⟩ := hp0.at_
  have hx1 := (blk_facts hx0).1 0
  have hx2 := (blk_facts hx0).1 1
  clear hE h hpb
  generalize hLQ : LateQ p l sd = LQ at *
  clear hLQ
  obtain ⟨who, tm⟩ := sd
  obtain ⟨lo, hi, le, ci⟩ := p
  dsimp only [Pl.val, Pl.cells] at *
  go_enter Tryz.func68, Tryz.ntmps68
  go_wp2_with fail
  refine hCS.out.mono ?_; rintro e w1 ⟨rfl, B1⟩
  have hB2 := below_next hB1 B1
  have hx3 := blk_below hx0 B1
  have hp3 := PoolB.keep _ _ hp0 B1
  have hz2 := Nat.le_trans hz1 B1.size
  clear hB1 hx0 hCS B1 hz1 hp0 z0 z1 z2 z3 hx1 hx2
  by_cases h0 : SE = 0
  rotate_left
  · obtain rfl : SE = E := by rw [hE'.out, if_pos h0]
    have hd : (SE != 0) = true := by simpa using h0
    have hq := hQ0.out h0
    clear h0 hE' hQ0 hQ1 hQ2 hLn hFa hCt hEm hHs hCd hCl
    go_wp2
    go_ret3
    exact ⟨none, 0, 0, false, [], rfl, (fun _ => World.ownsRow_nil _ _ _ _), hq, Nat.zero_le _, hB2⟩
  subst h0
  have y0 := (blk_facts hx3).1 0
  have y1 := (blk_facts hx3).1 1
  have hlx := lt_of_heap hx3
  go_wp2_with fail
  refine (hCd.out w1).mono ?_; rintro e w2 ⟨rfl, B2⟩
  have hB3 := below_next (below_next hB2 (below_new w1 _)) B2
  have hx4 := blk_below (blk_alloc hx3 _) B2
  have hp4 := PoolB.keep _ _ (PoolB.keep _ _ hp3 (below_new w1 _)) B2
  have hz3 := Nat.le_trans (Nat.le_trans hz2 (below_new w1 _).size) B2.size
  clear hCd hB2 hx3 hp3 hz2 B2 y0 y1 hlx
  by_cases h1 : DE = 0
  rotate_left
  · obtain rfl : DE = E := by rw [hE'.out, if_neg (by simp), if_pos h1]
    have hd : (DE != 0) = true := by simpa using h1
    have hq := hQ0.out h1
    clear h1 hE' hQ0 hQ1 hQ2 hLn hFa hCt hEm hHs hCl
    go_wp2
    go_ret3
    exact ⟨none, 0, 0, false, [], rfl, (fun _ => World.ownsRow_nil _ _ _ _), hq, Nat.zero_le _, hB3⟩
  subst h1
  have hH := Lib.hid (hHs.out w2 hB3 hx4)
  clear hHs
  go_wp2_with fail
  refine hH.out.mono ?_; rintro e w3 ⟨rfl, B3⟩
  have hB4 := below_next hB3 B3
  have hx5 := blk_below hx4 B3
  have hp5 := PoolB.keep _ _ hp4 B3
  have hz4 := Nat.le_trans hz3 B3.size
  clear hH hB3 hx4 hp4 hz3 B3
  cases CE
  rotate_left
  · obtain rfl : E = 6 := by rw [hE'.out, if_neg (by simp), if_neg (by simp), if_pos rfl]
    have hq := hQ0.out (by decide)
    clear hE' hQ0 hQ1 hQ2 hLn hFa hCt hEm hCl
    go_wp2
    go_ret3
    exact ⟨none, 0, 0, false, [], rfl, (fun _ => World.ownsRow_nil _ _ _ _), hq, Nat.zero_le _, hB4⟩
  by_cases h3 : 300 ≤ n
  · obtain rfl : E = 2 := by rw [hE'.out, if_neg (by simp), if_neg (by simp), if_neg (by simp), if_pos h3]
    have hq := hQ0.out (by decide)
    have h3' : (300 : Int) ≤ (n : Int) := by omega
    clear hE' hQ0 hQ1 hQ2 hLn hFa hCt hEm hCl
    go_wp2
    go_ret3
    exact ⟨none, 0, 0, false, [], rfl, (fun _ => World.ownsRow_nil _ _ _ _), hq, Nat.zero_le _, hB4⟩
  obtain rfl : E = 0 := by rw [hE'.out, if_neg (by simp), if_neg (by simp), if_neg (by simp), if_neg h3]
  have h3' : ¬ (300 : Int) ≤ (n : Int) := by omega
  have hQ1' := Lib.hid (hQ1.out rfl)
  have hQ2' := Lib.hid (hQ2.out rfl)
  have hLn' := Lib.hid (hLn.out (by first | trivial | rfl))
  have hPl := Lib.hid (hPl0.out (by first | trivial | rfl))
  have hEm' := Lib.hid (hEm.out w3 hB4)
  clear hE' hQ0 hQ1 hQ2 hLn hEm
  obtain ⟨z0, z1, z2, z3⟩ := hp5.at_
  have hl0 := lt_of_heap hp5
  go_wp2_with fail
  refine hEm'.out.mono ?_; rintro e w4 ⟨Af, nf, cf, rfl, rf4, hnf, hcf, B4⟩
  rw [if_pos trivial] at rf4
  have hB5 := below_next hB4 B4
  have hx6 := blk_below hx5 B4
  have hp6 := PoolB.keep _ _ hp5 B4
  have hz5 := Nat.le_trans hz4 B4.size
  have hCl4 := Lib.hid (hCl.out w4 hB5)
  clear hEm' hB4 hx5 hp5 hz4 B4 z0 z1 z2 z3 hl0 hCl
  go_wp2_with fail
  refine hCl4.out.mono ?_; rintro e w5 ⟨A5, c5, rfl, ho5, B5⟩
  have K5 : LtK w ⟨who, tm⟩ ⟨lo, hi, le, ci⟩ w4.heap.size (.slice A5 n c5) l (emptyL ⟨lo, hi, le, ci⟩ l) Af nf w5 := ⟨by rw [hl.out]; exact ho5, blk_below hx6 B5, PoolB.keep _ _ hp6 B5, rf4.below B5, below_next hB5 B5, hz5, B5.size⟩
  have hR5 : w5.ownsRow w.heap.size 111 3 (.slice A5 n c5) n (l.flatMap spE) := own_mono ho5 (by omega)
  clear hCl4 rf4 hx6 hp6 hB5 hz5 B5 ho5
  by_cases hf0 : nf = 0
  · subst hf0
    have he : emptyL ⟨lo, hi, le, ci⟩ l = [] := List.eq_nil_of_length_eq_zero K5.f.len
    have hq := hQ1'.out he
    have hbel := K5.bel
    clear hQ1' hQ2' hLn' he K5 hFa hCt
    go_wp2
    go_ret3
    exact ⟨_, _, _, false, l, rfl, (fun _ => hR5), hq, by omega, hbel⟩
  · have hf1 : ((nf : Int) == 0) = false := beq_eq_false_iff_ne.2 (by omega)
    obtain ⟨z0, z1, z2, z3⟩ := K5.pb.at_
    have hl0 := lt_of_heap K5.pb
    have hL5 := Lib.hid (hLn'.out w5)
    clear hQ1' hLn' hR5
    go_wp2_with fail
    refine hL5.out.mono ?_; rintro e w6 ⟨A6, m6, c6, rfl, ho6, hlv, B6⟩
    have K6 := K5.below B6
    have hm6 : m6 ≤ 1000 := by
      have h1 := laneV_len (lo := lo) (hi := hi) (by have := hPl.out; omega)
      have h2 := hPl.out
      omega
    obtain ⟨A7, c7, h7e, _, hri⟩ := own_ints ho6 (by omega)
    injection h7e with e1 e2 e3
    subst e1 e3
    obtain ⟨f, r, hfe⟩ : ∃ f r, emptyL ⟨lo, hi, le, ci⟩ l = f :: r := by
      cases he : emptyL ⟨lo, hi, le, ci⟩ l with
      | nil => exact absurd (by have := K6.f.len; rw [he] at this; exact this.symm) hf0
      | cons f r => exact ⟨f, r, rfl⟩
    have hq2 := Lib.hid (hQ2'.out f r hfe)
    have hf0e := Lib.hid (show (emptyL ⟨lo, hi, le, ci⟩ l)[0]? = some f by rw [hfe]; rfl)
    obtain ⟨fb, rfl, hfc⟩ : ∃ fb, Af = some ⟨fb, 0, none⟩ ∧ nf ≤ cf := by
      rcases hcf with ⟨_, h0, _⟩ | ⟨b, h1, h2⟩
      · exact absurd h0 hf0
      · exact ⟨b, h1, h2⟩
    have hnp : 0 < nf := by omega
    have hFa' := Lib.hid (fun k ln hx => hFa.out who f.heat k ln hx)
    have hF0 := Lib.hid (fun EL => show lateF EL who f.heat [] = [] from rfl)
    clear hQ2' hfe hcf K5 B6 ho6 z0 z1 z2 z3 hl0 hL5 hFa hf0 hf1
    generalize hw4 : w4.heap.size = base at *
    clear hw4
    generalize emptyL ⟨lo, hi, le, ci⟩ l = EL at *
    generalize laneV lo hi = LV at *
    go_wp2_with fail
    go_loopw [13, 15, 50] (fun u _ i wx => ∃ k : Nat, k ≤ m6 ∧ i = .int .i64 k ∧ u = .slice A5 n c5 ∧ LtK w ⟨who, tm⟩ ⟨lo, hi, le, ci⟩ base (.slice A5 n c5) l EL (some ⟨fb, 0, none⟩) nf wx ∧ RI 3 wx A6 m6 LV ∧ Hid (lateF EL who f.heat (LV.drop k) = lateF EL who f.heat LV)) (fun _ _ i _ => m6 - (intOf i).toNat)
    case atStart => exact ⟨0, Nat.zero_le _, rfl, rfl, K6, hri, Lib.hid rfl⟩
    case round =>
      clear K6 hri
      rename World => wx
      obtain ⟨k, hk, rfl, rfl, K, hri, hG⟩ := hrel
      by_cases hlt : k < m6
      · obtain ⟨lb, loff, ln, rfl, hlb, hx, hc⟩ := hri.at_ hlt
        have hst := Lib.hid (hFa'.out k ln hx)
        obtain ⟨b', off', f', hA, hbf, hf', d0, d1, d2⟩ := RSp_at3 K.f (k := 0) hnp
        injection hA with hA
        injection hA with q1 q2
        subst q1 q2
        rw [hf0e.out] at hf'
        obtain rfl := Option.some.inj hf'
        rw [Nat.zero_mul, Nat.zero_add] at d1
        have d1' : wx.cell? ⟨fb, 1, none⟩ = some (.int .i64 f.heat) := by simpa using d1
        have hbn := below_new wx (.cells #[.string ⟨#[]⟩, .int .i64 f.heat, .int .i64 ln] 111)
        have hnw := heap_alloc_new wx (.cells #[.string ⟨#[]⟩, .int .i64 f.heat, .int .i64 ln] 111)
        have K7 := K.below hbn
        have hri7 := hri.below hbn
        have hC7 := Lib.hid (hCt.out _ _ cf _ (⟨⟨#[]⟩, f.heat, ln⟩ : Sp) K7.f hnf)
        have x0 := (blk_facts hnw).1 0
        have x1 := (blk_facts hnw).1 1
        have x2 := (blk_facts hnw).1 2
        have hb7 : base ≤ wx.heap.size := K.z
        have hne7 : ∀ i, (Value.slice A5 n c5).ownBlock = some i → i ≠ wx.heap.size := fun i hi => by have := (K.o.lt i hi).2; omega
        clear hx d0 d2 d1 hbn K hri
        dsimp only at *
        go_wp2_with fail
        refine hC7.out.mono ?_; rintro e w8 ⟨rfl, B8⟩
        have K8 := K7.below B8
        have hri8 := hri7.below B8
        have hb8 := blk_below hnw B8
        clear hC7 K7 hri7 hnw x0 x1 x2 B8 d1'
        generalize wx.heap.size = b7 at *
        obtain ⟨cc, hcc⟩ : ∃ cc, decide ((⟨⟨#[]⟩, f.heat, ln⟩ : Sp) ∈ EL) = cc := ⟨_, rfl⟩
        rw [hcc] at hst ⊢
        clear hcc
        cases cc
        · have hG2 := Lib.hid (show lateF EL who f.heat (LV.drop (k + 1)) = lateF EL who f.heat LV by rw [← hG.out, hst.out, if_neg (by simp)])
          clear hG hst
          go_wp2
          go_roundw
          case rel => exact ⟨k + 1, by omega, by go_num, rfl, K8, hri8, hG2⟩
          case measure => simp [intOf]; omega
        · have hG2 := Lib.hid (show lateF EL who f.heat LV = [⟨who, f.heat, ln⟩] by rw [← hG.out, hst.out, if_pos rfl])
          have x80 := (blk_facts hb8).1 0
          have f80 := (blk_facts hb8).2 0
          have xs0 := (blk_facts K8.xb).1 0
          have lxb := lt_of_heap K8.xb
          have lb8 := lt_of_heap hb8
          have hgs : w8.grownBy (w8.setCell ⟨b7, 0, none⟩ (.string who)) (some b7) := grown_setCell (grown_refl _ _) (.inl rfl) _
          have ho9 := K8.o.kept hgs (by by_cases e : (Value.slice A5 n c5).ownBlock = some b7; exact absurd rfl (hne7 b7 e); exact .inr e)
          have hl1 := K8.l1
          have hz8 := K8.z
          have hBs : Below w.heap.size w (w8.setCell ⟨b7, 0, none⟩ (.string who)) := Below.setCell K8.bel (by show w.heap.size ≤ b7; omega) _
          have hz9 : base ≤ (w8.setCell ⟨b7, 0, none⟩ (.string who)).heap.size := Nat.le_trans K8.z hgs.size
          have hx9 := blk_set hb8 0 (.string who)
          have x90 := (blk_facts hx9).1 0
          have x91 := (blk_facts hx9).1 1
          have x92 := (blk_facts hx9).1 2
          rw [hl.out] at ho9
          clear hG hst K8 hri8 hb8 hgs hx9 hFa' hF0
          go_wp2_with (at_builtin; refine wpList_app rfl (.tmp 66) (.tmp 68) 103 rfl Tryz.underlying103 info_start rfl (by omega) (by omega) ho9 rfl rfl (by first | rfl | (simp; done)) rfl (by simp [Value.oneCell']) (by omega) hz9 ?_; intro v9 w9 hoA hgA)
          have hoB : w9.ownsRow base 111 3 v9 (n + 1) ((l ++ [(⟨who, f.heat, ln⟩ : Sp)]).flatMap spE) := by rw [← flat_snoc]; exact hoA
          have hBA := below_own hBs ho9 hgA hBs.size (by omega)
          have hzA := Nat.le_trans hz9 hgA.size
          obtain ⟨A9, c9, rfl⟩ := own_shape hoB
          have hSo := Lib.hid (sortStartsF_c _ w9 base (n + 1) _ hoB (by omega))
          clear hoA hgA hBs ho9
          go_wp2_with fail
          refine hSo.out.mono ?_; rintro e wz ⟨rfl, l', hoz, hsz, hgz⟩
          have hBz := below_own hBA hoB hgz hBA.size (by omega)
          have hlz := own_len spE_len (by decide) hoz
          have hrz : wz.ownsRow w.heap.size 111 3 (.slice A9 (n + 1) c9) (n + 1) (l'.flatMap spE) := own_mono hoz (by omega)
          have hq := hq2.out l' (by rw [hG2.out]; exact hsz)
          clear hSo hoz hsz hgz hBA hoB hG2 hq2
          go_wp2
          go_ret3
          exact ⟨_, _, _, true, l', rfl, (fun _ => hrz), hq, by omega, hBz⟩
      · obtain rfl : k = m6 := by omega
        have hG2 := Lib.hid (show lateF EL who f.heat LV = [] by rw [← hG.out, drop_end (by rw [hlv]; exact Nat.le_refl _), hF0.out EL])
        have ho9 := K.o
        rw [hl.out] at ho9
        have hbel := K.bel
        have hl1 := K.l1
        have hSo := Lib.hid (sortStartsF_c l wx base n (.slice A5 n c5) ho9 (by omega))
        clear hG hFa' hF0 K hri
        go_wp2_with fail
        refine hSo.out.mono ?_; rintro e wz ⟨rfl, l', hoz, hsz, hgz⟩
        have hBz := below_own hbel ho9 hgz hbel.size (by omega)
        have hlz := own_len spE_len (by decide) hoz
        have hrz : wz.ownsRow w.heap.size 111 3 (.slice A5 n c5) n (l'.flatMap spE) := own_mono hoz (by omega)
        have hq := hq2.out l' (by rw [hG2.out, List.append_nil]; exact hsz)
        clear hSo hoz hsz hgz hbel ho9 hG2 hq2
        go_wp2
        go_ret3
        exact ⟨_, _, _, true, l', rfl, (fun _ => hrz), hq, by omega, hBz⟩
end Go.Proofs.YtdbfcneeiiialaaGreatDoor
