import Derived.Test.YtklggnglaeagpaaGreatDoorPHeatC
import Derived.Test.YtklggnglaeagpaaGreatDoorPSeedM
import Derived.Sort.OwnSortedInts
import Derived.Test.YtklggnglaeagpaaGreatDoorPOrdC
import Derived.Test.YtklggnglaeagpaaGreatDoorPP23
/- heat.sizes and the reference's SizesOf: how many swim in each heat. -/
namespace Go.Proofs.YtklggnglaeagpaaGreatDoor
open Go.RowKit Go.Sort Go.Shelf Go.Lib
set_option linter.unusedVariables false

/-- the sizes before the first two are evened -/
def szS (a lanes : Int) : Nat → List Int
  | 0 => []
  | k + 1 => szS a lanes k ++ [if k = 0 then a else lanes]
def refF (lanes : Int) : Nat → Int → List Int
  | 0, _ => []
  | m + 1, left => min left lanes :: refF lanes m (left - lanes)
theorem szS_len (a lanes : Int) : ∀ k, (szS a lanes k).length = k
  | 0 => rfl
  | k + 1 => by unfold szS; rw [List.length_append, szS_len a lanes k]; rfl
theorem refF_len (lanes : Int) : ∀ (m : Nat) (left : Int), (refF lanes m left).length = m
  | 0, _ => rfl
  | m + 1, left => by unfold refF; rw [List.length_cons, refF_len lanes m]
theorem refF_rev (lanes : Int) : ∀ (m : Nat) (left a : Int), a = left - lanes * m → 0 < a → a ≤ lanes → (refF lanes (m + 1) left).reverse = szS a lanes (m + 1)
  | 0, left, a, ha, h0, h1 => by
    have : left = a := by rw [ha]; simp
    subst this
    show [min left lanes] = [] ++ [left]
    rw [show min left lanes = left by omega]
    rfl
  | m + 1, left, a, ha, h0, h1 => by
    have hm : lanes * ((m + 1 : Nat) : Int) = lanes * m + lanes := by push_cast; rw [Int.mul_add, Int.mul_one]
    have hl0 : 0 ≤ lanes * m := Int.mul_nonneg (by omega) (by omega)
    have ih := refF_rev lanes m (left - lanes) a (by rw [ha, hm]; omega) h0 h1
    have e : refF lanes (m + 1 + 1) left = min left lanes :: refF lanes (m + 1) (left - lanes) := rfl
    rw [e, List.reverse_cons, ih, show min left lanes = lanes by omega]
    show _ = szS a lanes (m + 1) ++ [if m + 1 = 0 then a else lanes]
    rw [if_neg (by omega)]
theorem szS_at (a lanes : Int) : ∀ (k j : Nat), j < k → (szS a lanes k)[j]? = some (if j = 0 then a else lanes)
  | 0, _, h => by omega
  | k + 1, j, h => by
    unfold szS
    have hl := szS_len a lanes k
    by_cases hj : j < k
    · rw [List.getElem?_append_left (by omega)]
      exact szS_at a lanes k j hj
    · obtain rfl : j = k := by omega
      rw [List.getElem?_append_right (by omega), hl, Nat.sub_self]
      rfl
def szN (lanes many : Int) : Nat := ((many + lanes - 1) / lanes).toNat
def szA (lanes many : Int) : Int := many - lanes * ((szN lanes many : Int) - 1)
def szK (lanes le many : Int) : Int := if 1 < szN lanes many ∧ szA lanes many < le then min (le - szA lanes many) (lanes - le) else 0
def szErr (lanes many : Int) : Int := if 60 < szN lanes many then 2 else 0
def szV (lanes le many : Int) : List Int := if 60 < szN lanes many then [] else if 1 < szN lanes many ∧ szA lanes many < le then ((szS (szA lanes many) lanes (szN lanes many)).set 0 (szA lanes many + szK lanes le many)).set 1 (lanes - szK lanes le many) else szS (szA lanes many) lanes (szN lanes many)
theorem sz_bd {lanes many : Int} (h1 : 1 ≤ lanes) (h0 : 0 ≤ many) : (szN lanes many : Int) = (many + lanes - 1) / lanes ∧ lanes * ((szN lanes many : Int) - 1) < many ∧ many ≤ lanes * (szN lanes many : Int) ∨ (many = 0 ∧ szN lanes many = 0 ∧ (many + lanes - 1) / lanes = 0) := by
  have hd := Int.emod_add_mul_ediv (many + lanes - 1) lanes
  have hm0 := Int.emod_nonneg (many + lanes - 1) (show lanes ≠ 0 by omega)
  have hm1 := Int.emod_lt_of_pos (many + lanes - 1) (show 0 < lanes by omega)
  have hq : 0 ≤ (many + lanes - 1) / lanes := Int.ediv_nonneg (by omega) (by omega)
  have hN : (szN lanes many : Int) = (many + lanes - 1) / lanes := by unfold szN; omega
  rcases Int.lt_or_le 0 many with h | h
  · left
    rw [hN]
    refine ⟨rfl, ?_, ?_⟩
    · rw [Int.mul_sub, Int.mul_one]; omega
    · omega
  · right
    obtain rfl : many = 0 := by omega
    have e : (0 + lanes - 1) / lanes = 0 := Int.ediv_eq_zero_of_lt (by omega) (by omega)
    exact ⟨rfl, by unfold szN; rw [e]; rfl, e⟩
theorem LO.set {w wx : World} {p : Pl} {g n c j : Nat} {L : List Int} {x : Int} (h : LO w p (.slice (some ⟨g, 0, none⟩) n c) L wx) (hn : L.length = n) : LO w p (.slice (some ⟨g, 0, none⟩) n c) (L.set j x) (wx.setCell ⟨g, j, none⟩ (.int .i64 x)) := by
  have hg : w.heap.size + 1 ≤ g := own_row_lt h.own g rfl
  subst hn
  have hgr : wx.grownBy (wx.setCell ⟨g, j, none⟩ (.int .i64 x)) (some g) := grown_setCell (grown_refl _ _) (.inl rfl) _
  exact ⟨by rw [List.length_set]; exact own_setS h.own j x, blk_grown h.blk hgr (fun e => by injection e with e; omega), h.bel.trans (grown_below hgr (by omega) h.bel.size), Nat.le_trans h.siz hgr.size⟩
theorem LO.read {w wx : World} {p : Pl} {A : Option Addr} {n c : Nat} {L : List Int} (h : LO w p (.slice A n c) L wx) (hn : L.length = n) (h2 : n ≤ 1000) : RI 3 wx A n L ∧ Below w.heap.size w wx := by
  subst hn
  exact ⟨R1.of_own h.own (by omega), h.bel⟩
theorem LO.turn {w wx w' : World} {p : Pl} {u : Value} {L L' : List Int} (h : LO w p u L wx) (ho : w'.ownsRow (w.heap.size + 1) 3 1 u L'.length (ints L')) (hg : wx.grownBy w' u.ownBlock) : LO w p u L' w' :=
  ⟨ho, blk_grown h.blk hg (fun e => by have := own_row_lt h.own _ e.symm; omega), below_own h.bel h.own hg h.bel.size (by omega), Nat.le_trans h.siz hg.size⟩
theorem set_same {l : List Int} {j : Nat} {x : Int} (h : l[j]? = some x) : l.set j x = l := by
  apply List.ext_getElem?
  intro i
  rw [List.getElem?_set]
  split
  · rename_i e
    subst e
    split
    · exact h.symm
    · rename_i h2
      rw [List.getElem?_eq_none (by omega)] at h
      cases h
  · rfl
theorem reverseOwn_c (base : Nat) (A : Option Addr) (n c : Nat) (l : List Int) (w : World) (h : w.ownsRow base 3 1 (.slice A n c) n (ints l)) (hn : n ≤ 100000) :
    Calls Tryz.prog 359 #[.slice A n c] w fun e w' => e = .returned (.tuple #[]) ∧ w'.ownsRow base 3 1 (.slice A n c) n (ints l.reverse) ∧ w.grownBy w' (Value.slice A n c).ownBlock := by
  have hl : l.length = n := by have := h.1; rw [ints_len] at this; omega
  rcases Nat.eq_zero_or_pos n with h0 | h0
  · subst h0
    obtain rfl : l = [] := List.eq_nil_of_length_eq_zero hl
    exact (Tryz.slices_Reverse_int_empty A c w).mono fun _ _ ⟨h1, h2⟩ => ⟨h1, by rw [h2]; exact h, by rw [h2]; exact grown_refl _ _⟩
  · rcases h.2 with ⟨_, h9⟩ | ⟨g, cap, cur, hv, hb, hg, h1, h2, h3, h4⟩
    · omega
    · injection hv with e1 e2 e3
      subst e1 e3 hl
      have hg' : cur.toList.take l.length = l.map (Value.int .i64) := by rw [Nat.mul_one] at h4; exact h4
      have hH := holds_of_blockI hg hg'
      refine (Tryz.slices_Reverse_int g 0 c l w hH (by omega)).mono ?_
      rintro e w' ⟨he, q, rfl⟩
      have hgr : ∀ W : World, grow W #[] = W := fun W => by simp [grow]
      have k1 := ownsRow_sortedI (n := q) (os := #[]) (ss := l) (ts := l.reverse) (by simp) hb hg h1 h2 h3
      have k2 := grownBy_sortedI (w := w) (g := g) (n := q) (os := #[]) l.reverse.toArray
      rw [hgr] at k1 k2
      exact ⟨he, k1, k2⟩
def cellI (w : World) (g : Nat) : Int := match w.cell? ⟨g, 0, none⟩ with
  | some v => intOf v
  | none => 0
theorem cellI_of {w : World} {g : Nat} {x : Int} (h : w.cell? ⟨g, 0, none⟩ = some (.int .i64 x)) : cellI w g = x := by unfold cellI; rw [h]; rfl
set_option maxHeartbeats 3200000 in
set_option maxRecDepth 100000 in
theorem sizesRef_c (p : Pl) (hp : PlOk p) (many : Int) (hm : 0 ≤ many ∧ many ≤ 300) (w : World) :
    Calls Tryz.prog 275 #[p.val, .int .i64 many] w fun e w' => ∃ A n c, e = .returned (.tuple #[.slice A n c, .int .i64 (szErr (p.hi - p.lo + 1) many)]) ∧ RI 3 w' A n (szV (p.hi - p.lo + 1) p.le many) ∧ Below w.heap.size w w' := by
  have hAp := Lib.hid (fun (u v' : Value) (L : List Int) (x : Int) (wx w' : World) (h : LO w p u L wx) ho hg => h.app (x := x) (v' := v') (w' := w') ho hg)
  have hSet := Lib.hid (fun (g n c j : Nat) (L : List Int) (x : Int) (wx : World) (h : LO w p (.slice (some ⟨g, 0, none⟩) n c) L wx) hn => h.set (j := j) (x := x) hn)
  have hblk := Lib.hid (fun (u : Value) (L : List Int) (wx : World) (h : LO w p u L wx) => (blk_facts h.blk).1)
  have hK0 : LO w p (.slice none 0 0) [] (w.alloc (.cells p.cells 131)) := ⟨World.ownsRow_nil _ _ _ _, heap_alloc_new w _, below_new w _, by simp⟩
  obtain ⟨lo, hi, le, ci⟩ := p
  obtain ⟨⟨p1, p2⟩, p3, ⟨p4, p5⟩, _⟩ := hp
  obtain ⟨m0, m1⟩ := hm
  dsimp only [Pl.val, Pl.cells] at *
  have w2 : IntKind.i64.wrap (hi - lo) = hi - lo := IntWalk.i64_in _ (by omega)
  obtain ⟨lanes, hL⟩ : ∃ lanes, hi - lo + 1 = lanes := ⟨_, rfl⟩
  rw [hL]
  have w3 : IntKind.i64.wrap (hi - lo + 1) = lanes := by rw [IntWalk.i64_in _ (by omega)]; exact hL
  have l1 : 1 ≤ lanes := by omega
  have l2 : lanes ≤ 10 := by omega
  have l3 : le ≤ lanes := by omega
  clear hL p5
  have hbd := sz_bd l1 m0
  have hE := Lib.hid (show szErr lanes many = if 60 < szN lanes many then 2 else 0 from rfl)
  have hV := Lib.hid (show szV lanes le many = if 60 < szN lanes many then [] else if 1 < szN lanes many ∧ szA lanes many < le then ((szS (szA lanes many) lanes (szN lanes many)).set 0 (szA lanes many + szK lanes le many)).set 1 (lanes - szK lanes le many) else szS (szA lanes many) lanes (szN lanes many) from rfl)
  have hA := Lib.hid (show szA lanes many = many - lanes * ((szN lanes many : Int) - 1) from rfl)
  have hKK := Lib.hid (show szK lanes le many = if 1 < szN lanes many ∧ szA lanes many < le then min (le - szA lanes many) (lanes - le) else 0 from rfl)
  have hN300 : (szN lanes many : Int) ≤ 300 := by
    rcases hbd with ⟨_, h1, h2⟩ | ⟨_, h1, _⟩
    · rcases Int.lt_or_le ((szN lanes many : Int) - 1) 0 with h | h
      · omega
      · have h3 := Int.mul_le_mul_of_nonneg_right l1 h
        rw [Int.one_mul] at h3
        generalize lanes * ((szN lanes many : Int) - 1) = q at *
        omega
    · omega
  have hNA : 1 ≤ szN lanes many → 1 ≤ szA lanes many ∧ szA lanes many ≤ lanes := fun h => by
    rcases hbd with ⟨_, h1, h2⟩ | ⟨_, h1, _⟩
    · rw [hA.out]
      have e : lanes * (szN lanes many : Int) = lanes * ((szN lanes many : Int) - 1) + lanes := by rw [Int.mul_sub, Int.mul_one]; omega
      omega
    · omega
  have hNl : Hid ((szN lanes many : Int) ≤ 300) := Lib.hid hN300
  have hF0 := Lib.hid (show ∀ k : Nat, k < szN lanes many → 0 < many - lanes * k from fun k hk => by
    rcases hbd with ⟨_, h1, _⟩ | ⟨_, h1, _⟩
    · have h3 : lanes * (k : Int) ≤ lanes * ((szN lanes many : Int) - 1) := Int.mul_le_mul_of_nonneg_left (by omega) (by omega)
      generalize lanes * ((szN lanes many : Int) - 1) = q1 at *
      generalize lanes * (k : Int) = q2 at *
      omega
    · omega)
  have hF1 := Lib.hid (show many - lanes * (szN lanes many : Int) ≤ 0 by
    rcases hbd with ⟨_, _, h1⟩ | ⟨h0, h1, _⟩
    · omega
    · rw [h1, h0]; simp)
  have hRv := Lib.hid (show (refF lanes (szN lanes many) many).reverse = szS (szA lanes many) lanes (szN lanes many) by
    rcases Nat.eq_zero_or_pos (szN lanes many) with h | h
    · rw [h]; rfl
    · obtain ⟨m, hm⟩ : ∃ m, szN lanes many = m + 1 := ⟨szN lanes many - 1, by omega⟩
      obtain ⟨h1, h2⟩ := hNA h
      have hA' := hA.out
      rw [hm] at hA' ⊢
      refine refF_rev lanes m many _ ?_ (by omega) h2
      rw [hA']
      push_cast
      rw [Int.add_sub_cancel])
  have hRs := Lib.hid (fun m left => show refF lanes (m + 1) left = min left lanes :: refF lanes m (left - lanes) from rfl)
  have hRl := Lib.hid (show (refF lanes (szN lanes many) many).length = szN lanes many from refF_len _ _ _)
  have hR0 := Lib.hid (fun l => show refF lanes 0 l = [] from rfl)
  generalize refF lanes = RF at *
  have hz := (blk_facts (heap_alloc_new w (.cells #[.int .i64 lo, .int .i64 hi, .int .i64 le, .int .i64 ci] 131))).1
  have z0 := hz 0
  have z1 := hz 1
  clear hz hbd
  generalize szErr lanes many = E at *
  generalize szV lanes le many = V at *
  generalize szK lanes le many = kk at *
  generalize szA lanes many = a at *
  generalize szN lanes many = N at *
  have hNA' := Lib.hid hNA
  clear hNA
  go_enter Tryz.func275, Tryz.ntmps275
  go_wp2_with fail
  go_loopw [7, 8] (fun u lft wr => ∃ (k : Nat) (lv : Int) (acc : List Int), k ≤ N ∧ lft = .int .i64 lv ∧ Hid (lv = many - lanes * k) ∧ (-10 ≤ lv ∧ lv ≤ 300) ∧ acc.length = k ∧ LO w ⟨lo, hi, le, ci⟩ u acc wr ∧ Hid (acc ++ RF (N - k) lv = RF N many)) (fun _ l _ => (intOf l).toNat)
  case atStart => exact ⟨0, many, [], Nat.zero_le _, rfl, Lib.hid (by simp), by omega, rfl, hK0, Lib.hid rfl⟩
  case round =>
    clear hK0
    obtain ⟨k, lv, acc, hk, rfl, hlv, ⟨v0, v1⟩, hal, K, hG⟩ := hrel
    obtain ⟨A, c, rfl⟩ := own_shape K.own
    rw [hal] at K ⊢
    by_cases hlt : k < N
    · have q0 : 0 < lv := by rw [hlv.out]; exact hF0.out k hlt
      have hA1 := Lib.hid (fun v' x w' ho hg => hAp.out _ v' acc x _ w' K ho hg)
      have hown := K.own
      have hsz := K.siz
      have e1 : IntKind.i64.wrap (lv - lanes) = lv - lanes := IntWalk.i64_in _ (by omega)
      have hG2 := Lib.hid (show (acc ++ [min lv lanes]) ++ RF (N - (k + 1)) (lv - lanes) = RF N many by rw [← hG.out, List.append_assoc, show N - k = (N - (k + 1)) + 1 by omega, hRs.out]; rfl)
      have hlv2 := Lib.hid (show lv - lanes = many - lanes * ((k + 1 : Nat) : Int) by rw [hlv.out]; push_cast; rw [Int.mul_add, Int.mul_one]; omega)
      clear hlv hG
      go_wp2_with (at_builtin; refine wpList_app rfl (.tmp 21) (.tmp 25) 22 rfl Tryz.underlying22 info_int rfl (by omega) (by omega) hown rfl rfl rfl rfl (by simp [Value.oneCell']) (by omega) hsz ?_; intro v4 w4 hown4 hg4; have K4 := hA1.out v4 _ w4 hown4 hg4)
      go_roundw
      case rel => exact ⟨k + 1, lv - lanes, acc ++ [min lv lanes], by omega, rfl, hlv2, by omega, by simp [hal], K4, hG2⟩
      case measure => simp only [intOf]; omega
    · obtain rfl : k = N := by omega
      have q0 : ¬ 0 < lv := by have := hlv.out; have := hF1.out; omega
      have hac := Lib.hid (show acc = RF k many by have := hG.out; rw [Nat.sub_self, hR0.out, List.append_nil] at this; exact this)
      have hla : (RF k many).length = k := by rw [← hac.out]; exact hal
      have hRev := Lib.hid (reverseOwn_c (w.heap.size + 1) A k c acc wr (by have := K.own; rw [hal] at this; exact this) (by have := hNl.out; omega))
      have hrv : acc.reverse = szS a lanes k := by rw [hac.out]; exact hRv.out
      rw [hrv] at hRev
      by_cases h60 : 60 < k
      · obtain rfl : E = 2 := by rw [hE.out, if_pos h60]
        obtain rfl : V = [] := by rw [hV.out, if_pos h60]
        have q1 : (60 : Int) < (k : Int) := by omega
        have hbel := K.bel
        clear hE hV hA hKK hAp hSet hblk hRev hRs hRl hR0 hF0 hF1 hRv hla hNl hlv hG K
        go_wp2
        go_ret2
        exact ⟨none, 0, ⟨0, rfl⟩, R1.nil_ _ _ _ _, hbel⟩
      · obtain rfl : E = 0 := by rw [hE.out, if_neg h60]
        have q1 : ¬ (60 : Int) < (k : Int) := by omega
        have hV2 := Lib.hid (show V = if 1 < k ∧ a < le then ((szS a lanes k).set 0 (a + kk)).set 1 (lanes - kk) else szS a lanes k by rw [hV.out, if_neg h60])
        have hsl := szS_len a lanes k
        have hSa0 := Lib.hid (fun (h : 0 < k) => show (szS a lanes k)[0]? = some a from szS_at a lanes k 0 h)
        have hSa1 := Lib.hid (fun (h : 1 < k) => show (szS a lanes k)[1]? = some lanes from szS_at a lanes k 1 h)
        generalize szS a lanes k = SS at *
        have hTu := Lib.hid (fun w' ho hg => K.turn (w' := w') (L' := SS) ho hg)
        clear hE hV hAp hRs hRl hR0 hF0 hF1 hRv hla hlv hG K hrv hac
        go_wp2_with fail
        refine hRev.out.mono ?_; rintro e w4 ⟨rfl, ho4, hg4⟩
        have K4 := hTu.out w4 (by rw [hsl]; exact ho4) hg4
        clear hTu hRev ho4 hg4
        by_cases h1 : 1 < k
        rotate_left
        · have hVe : V = SS := by rw [hV2.out, if_neg (fun h => h1 h.1)]
          subst hVe
          have e7 : decide (1 < k) = false := decide_eq_false (by omega)
          have e8 : decide ((1 : Int) < (k : Int)) = false := decide_eq_false (by omega)
          have hr := Lib.hid (fun q => (K4.drewN q).read hsl (by have := hNl.out; omega))
          clear K4 hV2 hSa0 hSa1 hSet hblk hKK hNA' hA
          go_wp2_with fail
          refine wp_loop_rounds 1 ?_
          rw [rounds_succ]
          go_wp2_with fail
          go_quiet (fail)
          clear e7 e8
          go_wp2
          go_ret2
          exact ⟨A, k, c, rfl, (hr.out _).1, (hr.out _).2⟩
        · have q2 : (1 : Int) < (k : Int) := by omega
          obtain ⟨a1, a2⟩ := hNA'.out (by omega)
          have hown := K4.own
          rw [hsl] at hown
          obtain ⟨g, rfl, hgb⟩ := own_someN hown (by omega)
          have hkb : (a < le ∧ kk = min (le - a) (lanes - le)) ∨ (¬ a < le ∧ kk = 0) := by
            by_cases h2 : a < le
            · exact .inl ⟨h2, by rw [hKK.out, if_pos ⟨h1, h2⟩]⟩
            · exact .inr ⟨h2, by rw [hKK.out, if_neg (fun h => h2 h.2)]⟩
          have hV3 := Lib.hid (show V = (SS.set 0 (a + kk)).set 1 (lanes - kk) by
            rcases hkb with ⟨h2, _⟩ | ⟨h2, h3⟩
            · rw [hV2.out, if_pos ⟨h1, h2⟩]
            · rw [hV2.out, if_neg (fun h => h2 h.2), h3, Int.add_zero, Int.sub_zero, set_same (hSa0.out (by omega)), set_same (hSa1.out (by omega))])
          have hk0 := Lib.hid hkb
          have K5 : LO w ⟨lo, hi, le, ci⟩ (.slice (some ⟨g, 0, none⟩) k c) ((SS.set 0 (a + 0)).set 1 (lanes - 0)) w4 := by
            rw [Int.add_zero, Int.sub_zero, set_same (hSa0.out (by omega)), set_same (hSa1.out (by omega))]
            exact K4
          have hx0 := Lib.hid (fun j : Int => show ((SS.set 0 (a + j)).set 1 (lanes - j))[0]? = some (a + j) by rw [List.getElem?_set_ne (by omega), List.getElem?_set_self (by omega)])
          have hx1 := Lib.hid (fun j : Int => show ((SS.set 0 (a + j)).set 1 (lanes - j))[1]? = some (lanes - j) by rw [List.getElem?_set_self (by rw [List.length_set]; omega)])
          have hkk0 : 0 ≤ kk := by rcases hkb with ⟨h2, h3⟩ | ⟨h2, h3⟩ <;> omega
          have hcur : cellI w4 g = a := cellI_of (by rw [hown.cellAt 0 (by omega), ints_at, hSa0.out (by omega)]; rfl)
          clear K4 hown hV2 hSa0 hSa1 hkb hKK
          go_wp2_with fail
          go_loopw [] (fun wr => ∃ j : Int, 0 ≤ j ∧ j ≤ kk ∧ LO w ⟨lo, hi, le, ci⟩ (.slice (some ⟨g, 0, none⟩) k c) ((SS.set 0 (a + j)).set 1 (lanes - j)) wr ∧ Hid (cellI wr g = a + j)) (fun wr => (le - cellI wr g).toNat)
          case atStart => exact ⟨0, by omega, hkk0, K5, Lib.hid (by rw [hcur]; omega)⟩
          case round =>
            clear K5 hcur
            rename World => wx
            obtain ⟨j, j0, j1, K, hcur⟩ := hrel
            have hown := K.own
            rw [List.length_set, List.length_set, hsl] at hown
            have c0 : wx.cell? ⟨g, 0, none⟩ = some (.int .i64 (a + j)) := by rw [hown.cellAt 0 (by omega), ints_at, hx0.out]; rfl
            have c1 : wx.cell? ⟨g, 1, none⟩ = some (.int .i64 (lanes - j)) := by rw [hown.cellAt 1 (by omega), ints_at, hx1.out]; rfl
            have f0 := hown.frozenAt 0
            have f1 := hown.frozenAt 1
            have z2 := hblk.out _ _ _ K 2
            have hkb := hk0.out
            by_cases b1 : a + j < le
            · by_cases b2 : le < lanes - j
              · have hset := Lib.hid (fun q => show LO w ⟨lo, hi, le, ci⟩ (.slice (some ⟨g, 0, none⟩) k c) ((SS.set 0 (a + (j + 1))).set 1 (lanes - (j + 1))) _ from by
                  have h := hSet.out g k c 1 _ (lanes - j - 1) _ (hSet.out g k c 0 _ (a + j + 1) _ (K.drewN q) (by rw [List.length_set, List.length_set]; exact hsl)) (by rw [List.length_set, List.length_set, List.length_set]; exact hsl)
                  rw [List.set_comm _ _ (show (1 : Nat) ≠ 0 by omega), List.set_set, List.set_set, Int.add_assoc, Int.sub_sub] at h
                  exact h)
                have hj2 : j + 1 ≤ kk := by omega
                have e1 : IntKind.i64.wrap (a + j + 1) = a + (j + 1) := by rw [IntWalk.i64_in _ (by omega)]; omega
                have e2 : IntKind.i64.wrap (lanes - j - 1) = lanes - (j + 1) := by rw [IntWalk.i64_in _ (by omega)]; omega
                clear hown K hkb
                go_wp2_with fail
                go_quiet (fail)
                go_wp2
                go_roundw
                case rel =>
                  have hs5 := hset.out nq
                  have hc5 := hs5.own
                  rw [List.length_set, List.length_set, hsl] at hc5
                  exact ⟨j + 1, by omega, hj2, hs5, Lib.hid (cellI_of (by rw [hc5.cellAt 0 (by omega), ints_at, hx0.out]; rfl))⟩
                case measure =>
                  have hs5 := hset.out nq
                  have hc5 := hs5.own
                  rw [List.length_set, List.length_set, hsl] at hc5
                  have h6 := cellI_of (show _ = some (Value.int .i64 (a + (j + 1))) by rw [hc5.cellAt 0 (by omega), ints_at, hx0.out]; rfl)
                  rw [h6, hcur.out]
                  omega
              · have e7 : decide (le < lanes - j) = false := decide_eq_false b2
                obtain rfl : kk = j := by omega
                have hr := Lib.hid (fun q => (K.drewN q).read (by rw [List.length_set, List.length_set]; exact hsl) (by have := hNl.out; omega))
                rw [← hV3.out] at hr
                clear hown K hkb hV3
                go_wp2_with fail
                go_quiet (fail)
                clear e7
                go_wp2
                go_ret2
                exact ⟨_, k, c, rfl, (hr.out _).1, (hr.out _).2⟩
            · have e7 : decide (a + j < le) = false := decide_eq_false b1
              obtain rfl : kk = j := by omega
              have hr := Lib.hid (fun q => (K.drewN q).read (by rw [List.length_set, List.length_set]; exact hsl) (by have := hNl.out; omega))
              rw [← hV3.out] at hr
              clear hown K hkb hV3
              go_wp2_with fail
              go_quiet (fail)
              clear e7
              go_wp2
              go_ret2
              exact ⟨_, k, c, rfl, (hr.out _).1, (hr.out _).2⟩
end Go.Proofs.YtklggnglaeagpaaGreatDoor

/- heat.Sizes, heat.Lanes, tumblaw1.heated: for all pools. KX: what a law carries from call to call. -/
namespace Go.Proofs.YtklggnglaeagpaaGreatDoor
open Go.RowKit
set_option linter.unusedVariables false

/-- what a law carries: facts that live on behind a call -/
structure KX (w : World) (X : World → Prop) (wx : World) : Prop where
  x : X wx
  kp : ∀ a b, X a → Below a.heap.size a b → X b
  bel : Below w.heap.size w wx
section
variable {w wx w' : World} {X Y : World → Prop}
theorem KX.below (h : KX w X wx) (B : Below wx.heap.size wx w') : KX w X w' := ⟨h.kp _ _ h.x B, h.kp, below_next h.bel B⟩
theorem KX.add (h : KX w X wx) (hy : Y wx) (hk : ∀ a b, Y a → Below a.heap.size a b → Y b) : KX w (fun v => X v ∧ Y v) wx := ⟨⟨h.x, hy⟩, fun a b q B => ⟨h.kp a b q.1 B, hk a b q.2 B⟩, h.bel⟩
theorem KX.drewN (h : KX w X wx) (n : Nat) : KX w X (wx.drewN n) := h.below (below_drewN (Below.refl _ _) n)
end
def PoolB (b : Nat) (p : Pl) (v : World) : Prop := v.heap[b]? = some (.cells p.cells 131 (0, 0))
theorem PoolB.keep {b : Nat} {p : Pl} (a v : World) (h : PoolB b p a) (B : Below a.heap.size a v) : PoolB b p v := blk_below h B
theorem PoolB.at_ {b : Nat} {p : Pl} {v : World} (h : PoolB b p v) : v.cell? ⟨b, 0, none⟩ = some (.int .i64 p.lo) ∧ v.cell? ⟨b, 1, none⟩ = some (.int .i64 p.hi) ∧ v.cell? ⟨b, 2, none⟩ = some (.int .i64 p.le) ∧ v.cell? ⟨b, 3, none⟩ = some (.int .i64 p.ci) :=
  ⟨(blk_facts h).1 0, (blk_facts h).1 1, (blk_facts h).1 2, (blk_facts h).1 3⟩
def PlBd (p : Pl) : Prop := (-1099511627776 ≤ p.lo ∧ p.lo ≤ 1099511627776) ∧ (-1099511627776 ≤ p.hi ∧ p.hi ≤ 1099511627776)
def laneT (p : Pl) : List Int := if poolErr p = 0 then laneV p.lo p.hi else []
def RetI (w : World) (E : Int) (L : List Int) (e : Ending) (w' : World) : Prop := ∃ A n c, e = .returned (.tuple #[.slice A n c, .int .i64 E]) ∧ RI 3 w' A n L ∧ Below w.heap.size w w'
set_option maxHeartbeats 1600000 in
theorem lanesTop_c (p : Pl) (hb : PlBd p) (w : World) : Calls Tryz.prog 132 #[p.val] w (RetI w (poolErr p) (laneT p)) := by
  have hCP := Lib.hid (fun W => checkPool_c p hb W)
  have hL := Lib.hid (show laneT p = if poolErr p = 0 then laneV p.lo p.hi else [] from rfl)
  have hS := Lib.hid (fun h W => lanesOfP_c p (poolErr_ok h) W)
  have hn := Lib.hid (fun h => show ((laneV p.lo p.hi).length : Int) ≤ 10 by
    have h2 := poolErr_ok (p := p) h
    have := laneV_len h2.1.2
    have := h2.2.1
    have := h2.1.1
    omega)
  have hP0 : PoolB w.heap.size p (w.alloc (.cells p.cells 131)) := heap_alloc_new w _
  have hB := below_new w (.cells p.cells 131)
  have hAt := Lib.hid (fun v (h : PoolB w.heap.size p v) => h.at_)
  generalize laneV p.lo p.hi = L2 at *
  generalize laneT p = L at *
  generalize poolErr p = P at *
  obtain ⟨lo, hi, le, ci⟩ := p
  dsimp only [Pl.val, Pl.cells] at *
  obtain ⟨z0, z1, z2, z3⟩ := hAt.out _ hP0
  by_cases h0 : P = 0
  rotate_left
  · obtain rfl : L = [] := by rw [hL.out, if_neg h0]
    have hd : (P != 0) = true := by simpa using h0
    clear hL hS h0
    go_enter Tryz.func132, Tryz.ntmps132
    go_wp2_with fail
    refine (hCP.out _).mono ?_; rintro e w1 ⟨rfl, B1⟩
    have hB1 := below_next hB B1
    clear hCP hAt
    go_wp2
    go_ret2
    exact ⟨none, 0, 0, rfl, R1.nil_ _ _ _ _, hB1⟩
  subst h0
  obtain rfl : L = L2 := by rw [hL.out, if_pos rfl]
  have hS' := Lib.hid (fun W => hS.out rfl W)
  have hn' := Lib.hid (hn.out rfl)
  clear hL hS hn
  go_enter Tryz.func132, Tryz.ntmps132
  go_wp2_with fail
  refine (hCP.out _).mono ?_; rintro e w1 ⟨rfl, B1⟩
  have hB1 := below_next hB B1
  obtain ⟨z0, z1, z2, z3⟩ := hAt.out _ (hP0.keep _ _ B1)
  clear hCP hAt
  go_wp2_with fail
  refine (hS'.out _).mono ?_; rintro e w2 ⟨A, n, c, rfl, hR, hl, B2⟩
  have hB2 := below_next hB1 B2
  have hRR : RI 3 w2 A n L := R1.of_own hR (by have := hn'.out; omega)
  clear hR
  go_wp2
  go_ret2
  exact ⟨A, n, c, rfl, hRR, hB2⟩
set_option maxHeartbeats 1600000 in
theorem heated_c (w : World) : Calls Tryz.prog 93 #[] w fun e w' => e = .returned (.bool true) ∧ Below w.heap.size w w' := by
  have hP : poolErr ⟨1, 5, 1, 1⟩ = 0 := by decide
  have hLv : laneT ⟨1, 5, 1, 1⟩ = [3, 4, 2, 5, 1] := by decide
  have hL := Lib.hid (fun W => lanesTop_c ⟨1, 5, 1, 1⟩ ⟨⟨by decide, by decide⟩, by decide, by decide⟩ W)
  rw [hP, hLv] at hL
  have he : eqB [3, 4, 2, 5, 1] [3, 4, 2, 5, 1] = true := by decide
  clear hP hLv
  go_enter Tryz.func93, Tryz.ntmps93
  go_wp2_with fail
  refine (hL.out _).mono ?_; rintro e w1 ⟨A, n, c, rfl, hR, B1⟩
  have hq := Lib.hid (fun A2 c2 W h1 h2 => equal_c A A2 n c 5 c2 [3, 4, 2, 5, 1] [3, 4, 2, 5, 1] W h1 h2)
  rw [he] at hq
  clear hL he
  go_wp2_with (go_at_call 38; refine (hq.out _ _ _ (hR.alloc _) (R1.litAt _ _ _ [3, 4, 2, 5, 1] (by first | rfl | simp) rfl (le_big (by simp)))).mono ?_; rintro e w2 ⟨rfl, B2⟩)
  have hB2 := below_next (B1.alloc B1.size _) B2
  go_ret
  exact ⟨rfl, hB2⟩
end Go.Proofs.YtklggnglaeagpaaGreatDoor

/- judge.checkRanked of ranks that are right. -/
namespace Go.Proofs.YtklggnglaeagpaaGreatDoor
open Go.RowKit
open Go.Maps (Keyed string_keyed)
open Go.WideMaps (keyOf_string_mk)
set_option linter.unusedVariables false

theorem seenB_no {s : ByteArray} {seen : List ByteArray} (h : s ∉ seen) : seenB s seen = false := by
  unfold seenB
  rw [List.any_eq_false]
  intro t ht hc
  have := of_decide_eq_true hc
  subst this; exact h ht
end Go.Proofs.YtklggnglaeagpaaGreatDoor
