/- fastest: swim by swim, in a row of its own. -/
import Derived.Test.YtcdoidhookghaaaDoorBestR
import Derived.Test.YtcdoidhookghaaaDoorRows2
import Derived.Test.YtcdoidhookghaaaDoorFrac
import Derived.Test.YtcdoidhookghaaaDoorLikes
import Derived.Test.YtcdoidhookghaaaDoorTrnM
import Derived.BigGuardPart
namespace Go.Proofs.YtcdoidhookghaaaDoor
open Go.RowKit
set_option linter.unusedVariables false

theorem colG_length (j : Nat) (l : List Sw) : ∀ g, (colG j g l).length = g.length := by
  induction l with
  | nil => intro g; rfl
  | cons x r ih => intro g; rw [colG, ih]; unfold stepG; split <;> rfl
theorem getD_le {l : List Int} (h : ∀ x ∈ l, 0 ≤ x ∧ x ≤ 360000) (j : Nat) : 0 ≤ l.getD j 0 ∧ l.getD j 0 ≤ 360000 := by
  by_cases hj : j < l.length
  · rw [List.getD_eq_getElem?_getD, List.getElem?_eq_getElem hj]; exact h _ (List.getElem_mem hj)
  · rw [List.getD_eq_getElem?_getD, List.getElem?_eq_none (by omega)]; exact ⟨Int.le_refl _, by decide⟩
theorem lap_le {l : List Int} (h : ∀ x ∈ l, 0 ≤ x ∧ x ≤ 360000) (j : Nat) : (lapsL l).getD j 0 ≤ 360000 := by
  by_cases hj : j < (lapsL l).length
  · have h0 : (lapsL l).getD j 0 = lapAt l j := by
      rw [lapsL_len] at hj
      rw [List.getD_eq_getElem?_getD]; unfold lapsL listOf; rw [List.getElem?_map, List.getElem?_range hj]; rfl
    have h1 := getD_le h j
    have h2 := getD_le h (j - 1)
    rw [h0]; unfold lapAt
    repeat' split
    all_goals omega
  · rw [List.getD_eq_getElem?_getD, List.getElem?_eq_none (by omega)]; decide
theorem gp_set : ∀ (l : List Gp) (k : Nat) (a : ByteArray) (b c : Int) (t : Gp), l[k]? = some t →
    (((l.flatMap gpE).set (k * 3) (.string a)).set (k * 3 + 1) (.int .i64 b)).set (k * 3 + 2) (.int .i64 c) = (l.set k ⟨a, b, c⟩).flatMap gpE
  | [], _, _, _, _, _, h => by simp at h
  | x :: l, 0, a, b, c, t, h => by
    obtain rfl : x = t := by simpa using h
    simp [gpE]
  | x :: l, k + 1, a, b, c, t, h => by
    have ih := gp_set l k a b c t (by simpa using h)
    have e : ∀ (m : List Value) (i : Nat) (v : Value), (gpE x ++ m).set ((k + 1) * 3 + i) v = gpE x ++ m.set (k * 3 + i) v := fun m i v => by
      rw [List.set_append_right _ _ (by show 3 ≤ _; omega)]
      congr 2
      show (k + 1) * 3 + i - 3 = _; omega
    rw [List.set_cons_succ, List.flatMap_cons, List.flatMap_cons, ← ih]
    have e0 := e (l.flatMap gpE) 0 (.string a)
    simp only [Nat.add_zero] at e0
    rw [e0, e, e]
theorem own_setG {w : World} {base b n c : Nat} {L : List Gp} (h : w.ownsRow base 41 3 (.slice (some ⟨b, 0, none⟩) n c) n (L.flatMap gpE)) {k : Nat} {t : Gp} (hk : L[k]? = some t) (a : ByteArray) (x y : Int) :
    (((w.setCell ⟨b, k * 3, none⟩ (.string a)).setCell ⟨b, k * 3 + 1, none⟩ (.int .i64 x)).setCell ⟨b, k * 3 + 2, none⟩ (.int .i64 y)).ownsRow base 41 3 (.slice (some ⟨b, 0, none⟩) n c) n ((L.set k ⟨a, x, y⟩).flatMap gpE) ∧ w.grownBy (((w.setCell ⟨b, k * 3, none⟩ (.string a)).setCell ⟨b, k * 3 + 1, none⟩ (.int .i64 x)).setCell ⟨b, k * 3 + 2, none⟩ (.int .i64 y)) (some b) := by
  have h1 := h.stored (k * 3) (.string a)
  have h2 := h1.1.stored (k * 3 + 1) (.int .i64 x)
  have h3 := h2.1.stored (k * 3 + 2) (.int .i64 y)
  rw [gp_set L k a x y t hk] at h3
  exact ⟨h3.1, grown_trans h1.2 (grown_trans h2.2 h3.2)⟩
/-- the program's row after j swims -/
def rowF (m : Nat) (l : List Sw) (j : Nat) : List Gp := if j = 0 then [] else bestL m (l.take j)
def rowN (m j : Nat) : Nat := if j = 0 then 0 else m

set_option maxHeartbeats 3200000 in
set_option maxRecDepth 100000 in
theorem fastest_c (r : Race) (A : Option Addr) (n c m : Nat) (l : List Sw) (w : World) (h : RSw w A n l) (hn0 : 1 ≤ n) (hn : n ≤ 1000) (hm0 : 1 ≤ m) (hm : m ≤ 240) (hx1 : ∀ x ∈ l, x.n = m) (hok : ∀ x ∈ l, checkSp r x.sp = 0) :
    Calls Tryd.prog 72 #[r.val, .slice A n c] w fun e w' => ∃ A' c', e = .returned (.slice A' m c') ∧ RGp w' A' m (bestL m l) ∧ Below w.heap.size w w' := by
  have hx1' := Lib.hid hx1
  have hok' := Lib.hid hok
  have hbd := Lib.hid (fun x hx => (splits_bd (hok x hx)).2.2)
  have hLp := Lib.hid (fun A n c sp W h h0 => laps_c r A n c sp W h h0)
  clear hx1 hok
  generalize checkSp r = CS at *
  have hK0 := heap_alloc_new w (.cells r.cells 27)
  obtain ⟨key, metres, stroke, course, legs, sex, young, old⟩ := r
  dsimp only [Race.val, Race.cells] at *
  have hp : (0 : Int) < n := by omega
  go_enter Tryd.func72, Tryd.ntmps72
  go_wp2_with fail
  go_loopw [5, 15] (fun out i wr => ∃ j : Nat, j ≤ n ∧ i = .int .i64 j ∧ wr.ownsRow w.heap.size 41 3 out (rowN m j) ((rowF m l j).flatMap gpE) ∧ wr.heap[w.heap.size]? = some (.cells #[.string key, .int .i64 metres, .int .i64 stroke, .int .i64 course, .int .i64 legs, .int .i64 sex, .int .i64 young, .int .i64 old] 27 (0, 0)) ∧ Below w.heap.size w wr) (fun _ i _ => n - (intOf i).toNat)
  case atStart => exact ⟨0, Nat.zero_le _, rfl, World.ownsRow_nil _ _ _ _, hK0, below_new _ _⟩
  case round =>
    obtain ⟨j, hj, rfl, hown, hK, hB⟩ := hrel
    by_cases hlt : j < n
    · obtain ⟨b, off, x, rfl, hbl, hx, c0, c1, hI⟩ := (h.below hB).at2 hlt
      have hxm := List.mem_of_getElem? hx
      have hxn := hx1'.out x hxm
      have hx0 := Lib.hid (hok'.out x hxm)
      have hlk := Lib.hid (lapsL_len x.sp)
      have hlap := Lib.hid (fun q => lap_le (hbd.out x hxm) q)
      have htk := Lib.hid (show l.take (j + 1) = l.take j ++ [x] by rw [List.take_add_one, hx]; rfl)
      have hBx := Lib.hid (fun k (hk : k < m) => bestW_succ hk (l.take j) x)
      have hBa := Lib.hid (fun k (hk : k < m) => bestW_at hk (l.take j) x)
      have hB1 := Lib.hid (fun k (hk : k < m) => show (bestL m [x])[k]? = some ⟨x.who, (k : Int) + 1, (lapsL x.sp).getD k 0⟩ by rw [bestL_at hk, best_first (lap_le (hbd.out x hxm) k)])
      have hBz := Lib.hid (bestW_zero m (l.take j) x)
      have hBe := Lib.hid (bestW_end m (l.take j) x)
      have hG0 := heap_alloc_new wr (.cells #[.string x.who, .slice x.A x.n x.c] 86)
      have hI1 := hI.alloc (.cells #[.string x.who, .slice x.A x.n x.c] 86)
      have hK1 := blk_alloc hK (.cells #[.string x.who, .slice x.A x.n x.c] 86)
      have hown1 := hown.alloc (.cells #[.string x.who, .slice x.A x.n x.c] 86)
      have hBn := hB.alloc hB.size (.cells #[.string x.who, .slice x.A x.n x.c] 86)
      clear hI hK hxm hbl hx
      have hlen1 := hB.size
      obtain ⟨who, xA, xn, xc, xs⟩ := x
      dsimp only at *
      subst hxn
      generalize hls : lapsL xs = ls at *
      have hls' := Lib.hid hls
      clear hls
      by_cases hj0 : j = 0
      · subst hj0
        have hown2 := hown1
        change World.ownsRow _ w.heap.size 41 3 _ 0 (((bestL xn [⟨who, xA, xn, xc, xs⟩]).take 0).flatMap gpE) at hown2
        have htk2 : l.take 1 = [⟨who, xA, xn, xc, xs⟩] := by have := htk.out; simpa using this
        have hfin : rowN xn (0 + 1) = xn ∧ rowF xn l (0 + 1) = bestL xn [⟨who, xA, xn, xc, xs⟩] := ⟨rfl, by show bestL xn (l.take 1) = _; rw [htk2]⟩
        have hfin' := Lib.hid hfin
        clear hfin htk2 htk hown1 hown hBx hBa hBz hBe
        simp only [Nat.zero_mul, Nat.add_zero] at c0 c1
        have zK := (blk_facts hK1).1
        go_wp2_with fail
        refine (hLp.out _ _ _ _ _ hI1 hx0.out).mono ?_; rintro e w5 ⟨A5, c5, rfl, ho5, B5⟩
        rw [hls'.out] at ho5
        have hI5 : RI 3 w5 A5 xn ls := R1.of_own ho5 (by omega)
        have hown5 := own_below hown2 B5
        have hK5 := blk_below hK1 B5
        have hG5 := blk_below hG0 B5
        have hB5 := below_next hBn B5
        clear ho5 hI1 hown2 hK1 hG0 hBn B5 hLp
        go_wp2_with fail
        go_loopw [5, 29] (fun out i wq => ∃ k : Nat, k ≤ xn ∧ i = .int .i64 k ∧ wq.ownsRow w.heap.size 41 3 out k (((bestL xn [⟨who, xA, xn, xc, xs⟩]).take k).flatMap gpE) ∧ wq.heap[w.heap.size]? = some (.cells #[.string key, .int .i64 metres, .int .i64 stroke, .int .i64 course, .int .i64 legs, .int .i64 sex, .int .i64 young, .int .i64 old] 27 (0, 0)) ∧ wq.heap[wr.heap.size]? = some (.cells #[.string who, .slice xA xn xc] 86 (0, 0)) ∧ RI 3 wq A5 xn ls ∧ Below w.heap.size w wq) (fun _ i _ => xn - (intOf i).toNat)
        case atStart => exact ⟨0, Nat.zero_le _, rfl, hown5, hK5, hG5, hI5, hB5⟩
        case round =>
          clear hown5 hK5 hG5 hI5 hB5
          obtain ⟨k, hk, rfl, hown6, hK6, hG6, hI6, hB6⟩ := hrel
          by_cases hkt : k < xn
          · obtain ⟨b6, o6, y, rfl, l6, hy, c6⟩ := hI6.at_ hkt
            have hat := Lib.hid (show (bestL xn [⟨who, xA, xn, xc, xs⟩])[k]? = some ⟨who, (k : Int) + 1, y⟩ by rw [hB1.out k hkt, getD_of hy])
            have z6 := (blk_facts hG6).1
            have hown7 := hown6.alloc (.cells #[.string who, .int .i64 ((k : Int) + 1), .int .i64 y] 41)
            have hz7 : w.heap.size ≤ (wr.alloc (.cells #[.string who, .int .i64 ((k : Int) + 1), .int .i64 y] 41)).heap.size := by have := hB6.size; simp; omega
            have hI6' := Lib.hid hI6
            have hK6' := Lib.hid hK6
            have hG6' := Lib.hid hG6
            have hB6' := Lib.hid hB6
            clear hy hI6 hG6 hK6 hB6 hown6
            go_wp2_with (at_builtin; refine wpList_app rfl (.tmp 42) (.tmp 44) 32 rfl Tryd.underlying32 info_gap rfl (by omega) (by omega) hown7 rfl rfl (by first | rfl | (simp; done)) rfl (by simp [Value.oneCell']) (by omega) hz7 ?_; intro v' w' hown' hg)
            go_roundw
            case rel =>
              refine ⟨k + 1, by omega, by go_num, ?_, blk_other_type (blk_alloc hK6'.out _) hown7 (by decide) hg, blk_other_type (blk_alloc hG6'.out _) hown7 (by decide) hg, (hI6'.out.alloc _).keep (T := 41) (by decide) (keep_row hown7 hg), below_own (hB6'.out.alloc hB6'.out.size _) hown7 hg hz7 (Nat.le_refl _)⟩
              rw [List.take_add_one, hat.out]; show w'.ownsRow _ _ _ _ _ ((_ ++ [_]).flatMap gpE); rw [← flat_snoc]; exact hown'
            case measure => simp [intOf]; omega
          · obtain rfl : k = xn := by omega
            rw [List.take_of_length_le (by rw [bestL_len]; exact Nat.le_refl _)] at hown6
            go_wp2_with fail
            go_roundw
            case rel => exact ⟨0 + 1, by omega, by go_num, by rw [hfin'.out.1, hfin'.out.2]; exact hown6, hK6, hB6⟩
            case measure => simp [intOf]; omega
      · have hjb : ((j : Int) == 0) = false := beq_eq_false_iff_ne.2 (by omega)
        have hown2 := hown1
        rw [show rowN xn j = xn from if_neg hj0, show rowF xn l j = bestL xn (l.take j) from if_neg hj0, ← hBz.out] at hown2
        have hfin : rowN xn (j + 1) = xn ∧ rowF xn l (j + 1) = bestW xn xn (l.take j) ⟨who, xA, xn, xc, xs⟩ := ⟨if_neg (by omega), by rw [hBe.out, ← htk.out]; exact if_neg (by omega)⟩
        have hfin' := Lib.hid hfin
        obtain ⟨A2, co, rfl⟩ := own_shape hown2
        obtain ⟨bo, rfl, hbo⟩ := own_someN hown2 (by omega)
        clear hfin htk hown1 hown hBz hBe hB1
        have zK := (blk_facts hK1).1
        go_wp2_with fail
        refine (hLp.out _ _ _ _ _ hI1 hx0.out).mono ?_; rintro e w5 ⟨A5, c5, rfl, ho5, B5⟩
        rw [hls'.out] at ho5
        have hI5 : RI 3 w5 A5 xn ls := R1.of_own ho5 (by omega)
        have hown5 := own_below hown2 B5
        have hK5 := blk_below hK1 B5
        have hG5 := blk_below hG0 B5
        have hB5 := below_next hBn B5
        clear ho5 hI1 hown2 hK1 hG0 hBn B5 hLp
        go_wp2_with fail
        go_loopw [5, 29] (fun out i wq => ∃ k : Nat, k ≤ xn ∧ i = .int .i64 k ∧ out = .slice (some ⟨bo, 0, none⟩) xn co ∧ wq.ownsRow w.heap.size 41 3 (.slice (some ⟨bo, 0, none⟩) xn co) xn ((bestW xn k (l.take j) ⟨who, xA, xn, xc, xs⟩).flatMap gpE) ∧ wq.heap[w.heap.size]? = some (.cells #[.string key, .int .i64 metres, .int .i64 stroke, .int .i64 course, .int .i64 legs, .int .i64 sex, .int .i64 young, .int .i64 old] 27 (0, 0)) ∧ wq.heap[wr.heap.size]? = some (.cells #[.string who, .slice xA xn xc] 86 (0, 0)) ∧ RI 3 wq A5 xn ls ∧ Below w.heap.size w wq) (fun _ i _ => xn - (intOf i).toNat)
        case atStart => exact ⟨0, Nat.zero_le _, rfl, rfl, hown5, hK5, hG5, hI5, hB5⟩
        case round =>
          clear hown5 hK5 hG5 hI5 hB5
          obtain ⟨k, hk, rfl, rfl, hown6, hK6, hG6, hI6, hB6⟩ := hrel
          by_cases hkt : k < xn
          · obtain ⟨b6, o6, y, rfl, l6, hy, c6⟩ := hI6.at_ hkt
            have z6 := (blk_facts hG6).1
            have hat := hBa.out k hkt
            have hsu := hBx.out k hkt
            have hgl : (colG k (zeroG k) (l.take j)).length = (k : Int) + 1 := colG_length _ _ _
            rw [getD_of hy] at hsu
            generalize colG k (zeroG k) (l.take j) = g at *
            generalize bestW xn k (l.take j) ⟨who, xA, xn, xc, xs⟩ = L0 at *
            obtain ⟨gw, gl, gb⟩ := g
            dsimp only at *
            subst hgl
            have hown7 := hown6.alloc (.cells #[.string who, .int .i64 ((k : Int) + 1), .int .i64 y] 41)
            have hc := hown7.cellAt (k * 3 + 2) (by omega)
            rw [flat_at gpE_len L0 k _ 2 (.int .i64 gb) hat rfl] at hc
            have hc0 := hown7.cellAt (k * 3) (by omega)
            rw [show k * 3 = k * 3 + 0 from rfl, flat_at gpE_len L0 k _ 0 (.string gw) hat rfl] at hc0
            simp only [Nat.add_zero] at hc0
            have hc1 := hown7.cellAt (k * 3 + 1) (by omega)
            rw [flat_at gpE_len L0 k _ 1 (.int .i64 ((k : Int) + 1)) hat rfl] at hc1
            have hf := hown7.frozenAt
            have hst := Lib.hid (own_setG hown7 hat who ((k : Int) + 1) y)
            have hKp := Lib.hid (fun g => keep_row (w' := (((wr.alloc (.cells #[.string who, .int .i64 ((k : Int) + 1), .int .i64 y] 41)).setCell ⟨bo, k * 3, none⟩ (.string who)).setCell ⟨bo, k * 3 + 1, none⟩ (.int .i64 ((k : Int) + 1))).setCell ⟨bo, k * 3 + 2, none⟩ (.int .i64 y)) hown7 g)
            have hz7 : w.heap.size ≤ (wr.alloc (.cells #[.string who, .int .i64 ((k : Int) + 1), .int .i64 y] 41)).heap.size := by have := hB6.size; simp; omega
            have hbo7 := Lib.hid (fun g => below_own (w' := (((wr.alloc (.cells #[.string who, .int .i64 ((k : Int) + 1), .int .i64 y] 41)).setCell ⟨bo, k * 3, none⟩ (.string who)).setCell ⟨bo, k * 3 + 1, none⟩ (.int .i64 ((k : Int) + 1))).setCell ⟨bo, k * 3 + 2, none⟩ (.int .i64 y)) (hB6.alloc hB6.size (.cells #[.string who, .int .i64 ((k : Int) + 1), .int .i64 y] 41)) hown7 g hz7 (Nat.le_refl _))
            have hown7' := Lib.hid hown7
            have hsu' := Lib.hid hsu
            have hI6' := Lib.hid (hI6.alloc (.cells #[.string who, .int .i64 ((k : Int) + 1), .int .i64 y] 41))
            have hK6' := Lib.hid (blk_alloc hK6 (.cells #[.string who, .int .i64 ((k : Int) + 1), .int .i64 y] 41))
            have hG6' := Lib.hid (blk_alloc hG6 (.cells #[.string who, .int .i64 ((k : Int) + 1), .int .i64 y] 41))
            have hB6' := Lib.hid (hB6.alloc hB6.size (.cells #[.string who, .int .i64 ((k : Int) + 1), .int .i64 y] 41))
            have hsame := Lib.hid (show L0.set k ⟨gw, (k : Int) + 1, gb⟩ = L0 from by
              apply List.ext_getElem?; intro q
              rw [List.getElem?_set]
              by_cases e : k = q
              · subst e; rw [if_pos rfl, hat]; split
                · rfl
                · rename_i h2; exact absurd (lt_of_at hat) h2
              · rw [if_neg e])
            clear hat hsu hy hI6 hK6 hG6 hB6 hown6 hown7 hz7
            by_cases hlb : y < gb
            · have hs2 := Lib.hid (show stepG ⟨gw, (k : Int) + 1, gb⟩ who y = ⟨who, (k : Int) + 1, y⟩ by unfold stepG; rw [if_pos hlb])
              go_wp2_with fail
              go_roundw
              case rel => exact ⟨k + 1, by omega, by go_num, rfl, by rw [hsu'.out, hs2.out]; exact hst.out.1, hKp.out hst.out.2 _ _ _ _ (by decide) hK6'.out, hKp.out hst.out.2 _ _ _ _ (by decide) hG6'.out, hI6'.out.keep (T := 41) (by decide) (hKp.out hst.out.2), hbo7.out hst.out.2⟩
              case measure => simp [intOf]; omega
            · have hs2 := Lib.hid (show stepG ⟨gw, (k : Int) + 1, gb⟩ who y = ⟨gw, (k : Int) + 1, gb⟩ by unfold stepG; rw [if_neg hlb])
              go_wp2_with fail
              go_roundw
              case rel => exact ⟨k + 1, by omega, by go_num, rfl, by rw [hsu'.out, hs2.out, hsame.out]; exact hown7'.out, hK6'.out, hG6'.out, hI6'.out, hB6'.out⟩
              case measure => simp [intOf]; omega
          · obtain rfl : k = xn := by omega
            go_wp2_with fail
            go_roundw
            case rel => exact ⟨j + 1, by omega, by go_num, by rw [hfin'.out.1, hfin'.out.2]; exact hown6, hK6, hB6⟩
            case measure => simp [intOf]; omega
    · obtain rfl : j = n := by omega
      rw [show rowN m j = m from if_neg (by omega), show rowF m l j = bestL m l from by unfold rowF; rw [if_neg (by omega), List.take_of_length_le (by rw [h.len]; exact Nat.le_refl _)]] at hown
      obtain ⟨A', c', rfl⟩ := own_shape hown
      have hR : RGp wr A' m (bestL m l) := RN.of_own gpE_len hown (bestL_len _ _) (by omega)
      clear hown
      go_wp2
      go_ret
      exact ⟨_, _, rfl, hR, hB⟩
end Go.Proofs.YtcdoidhookghaaaDoor
