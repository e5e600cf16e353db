/- heat.CheckPool, heat.Lanes and the reference's PoolFault, LanesOf: for all pools. -/
import Derived.Test.YtklggnglaeagpaaGreatDoorPLens
import Derived.Test.YtklggnglaeagpaaGreatDoorPReady4
import Derived.BigGuardPart
namespace Go.Proofs.YtklggnglaeagpaaGreatDoor
open Go.RowKit
set_option linter.unusedVariables false

structure Pl where
  lo : Int
  hi : Int
  le : Int
  ci : Int
def Pl.val (p : Pl) : Value := .agg #[.int .i64 p.lo, .int .i64 p.hi, .int .i64 p.le, .int .i64 p.ci]
def Pl.cells (p : Pl) : Array Value := #[.int .i64 p.lo, .int .i64 p.hi, .int .i64 p.le, .int .i64 p.ci]
def PlOk (p : Pl) : Prop := (1 ≤ p.lo ∧ p.lo ≤ p.hi) ∧ p.hi ≤ 10 ∧ (1 ≤ p.le ∧ p.le ≤ p.hi - p.lo + 1) ∧ (1 ≤ p.ci ∧ p.ci ≤ 10)
instance (p : Pl) : Decidable (PlOk p) := by unfold PlOk; infer_instance
def poolErr (p : Pl) : Int := if PlOk p then 0 else 1
theorem poolErr_ok {p : Pl} (h : poolErr p = 0) : PlOk p := by
  unfold poolErr at h
  split at h
  · assumption
  · cases h
theorem poolErr_no {p : Pl} (h : ¬ PlOk p) : poolErr p = 1 := if_neg h
set_option maxHeartbeats 1600000 in
theorem checkPool_c (p : Pl) (hb : (-1099511627776 ≤ p.lo ∧ p.lo ≤ 1099511627776) ∧ (-1099511627776 ≤ p.hi ∧ p.hi ≤ 1099511627776)) (w : World) :
    Calls Tryz.prog 199 #[p.val] w fun e w' => e = .returned (.int .i64 (poolErr p)) ∧ Below w.heap.size w w' := by
  have hE0 := Lib.hid (fun h => show poolErr p = 0 from if_pos h)
  have hE1 := Lib.hid (fun h => poolErr_no (p := p) h)
  generalize poolErr p = E at *
  obtain ⟨lo, hi, le, ci⟩ := p
  simp only [PlOk, Pl.val] at *
  obtain ⟨⟨b1, b2⟩, b3, b4⟩ := hb
  have e1 : IntKind.i64.wrap (hi - lo) = hi - lo := IntWalk.i64_in _ (by omega)
  have e2 : IntKind.i64.wrap (hi - lo + 1) = hi - lo + 1 := IntWalk.i64_in _ (by omega)
  have hz := (blk_facts (heap_alloc_new w (.cells #[.int .i64 lo, .int .i64 hi, .int .i64 le, .int .i64 ci] 131))).1
  have hB := below_new w (.cells #[.int .i64 lo, .int .i64 hi, .int .i64 le, .int .i64 ci] 131)
  have z0 := hz 0
  have z1 := hz 1
  have z2 := hz 2
  have z3 := hz 3
  clear hz
  by_cases c0 : hi ≤ 10
  rotate_left
  · obtain rfl := hE1.out (fun h => c0 h.2.1)
    have d0 : decide (10 < hi) = true := decide_eq_true (by omega)
    clear hE0 hE1 c0
    go_enter Tryz.func199, Tryz.ntmps199
    go_wp2
    go_ret
    exact ⟨rfl, hB⟩
  have d0 : decide (10 < hi) = false := decide_eq_false (by omega)
  by_cases c1 : 1 ≤ lo ∧ lo ≤ hi
  rotate_left
  · obtain rfl := hE1.out (fun h => c1 h.1)
    have d1 : decide (1 ≤ lo ∧ lo ≤ hi) = false := decide_eq_false c1
    clear hE0 hE1 c0 c1
    go_enter Tryz.func199, Tryz.ntmps199
    go_wp2_with (go_at_call 128; refine (within_c _ _ _ _).mono ?_; rintro e w' ⟨rfl, rfl⟩; rw [d1])
    go_ret
    exact ⟨rfl, hB⟩
  have d1 : decide (1 ≤ lo ∧ lo ≤ hi) = true := decide_eq_true c1
  by_cases c2 : 1 ≤ le ∧ le ≤ hi - lo + 1
  rotate_left
  · obtain rfl := hE1.out (fun h => c2 h.2.2.1)
    have d2 : decide (1 ≤ le ∧ le ≤ hi - lo + 1) = false := decide_eq_false c2
    clear hE0 hE1 c0 c1 c2
    go_enter Tryz.func199, Tryz.ntmps199
    go_wp2_with (go_at_call 128; refine (within_c _ _ _ _).mono ?_; rintro e w' ⟨rfl, rfl⟩; first | rw [d1] | rw [d2])
    go_ret
    exact ⟨rfl, hB⟩
  have d2 : decide (1 ≤ le ∧ le ≤ hi - lo + 1) = true := decide_eq_true c2
  by_cases c3 : 1 ≤ ci ∧ ci ≤ 10
  rotate_left
  · obtain rfl := hE1.out (fun h => c3 h.2.2.2)
    have d3 : decide (1 ≤ ci ∧ ci ≤ 10) = false := decide_eq_false c3
    clear hE0 hE1 c0 c1 c2 c3
    go_enter Tryz.func199, Tryz.ntmps199
    go_wp2_with (go_at_call 128; refine (within_c _ _ _ _).mono ?_; rintro e w' ⟨rfl, rfl⟩; first | rw [d1] | rw [d2] | rw [d3])
    go_ret
    exact ⟨rfl, hB⟩
  have d3 : decide (1 ≤ ci ∧ ci ≤ 10) = true := decide_eq_true c3
  obtain rfl := hE0.out ⟨c1, c0, c2, c3⟩
  clear hE0 hE1 c0 c1 c2 c3
  go_enter Tryz.func199, Tryz.ntmps199
  go_wp2_with (go_at_call 128; refine (within_c _ _ _ _).mono ?_; rintro e w' ⟨rfl, rfl⟩; first | rw [d1] | rw [d2] | rw [d3])
  go_ret
  exact ⟨rfl, hB⟩
set_option maxHeartbeats 1600000 in
theorem poolFault_c (p : Pl) (hb : (-1099511627776 ≤ p.lo ∧ p.lo ≤ 1099511627776) ∧ (-1099511627776 ≤ p.hi ∧ p.hi ≤ 1099511627776)) (w : World) :
    Calls Tryz.prog 83 #[p.val] w fun e w' => e = .returned (.int .i64 (poolErr p)) ∧ Below w.heap.size w w' := by
  have hE0 := Lib.hid (fun h => show poolErr p = 0 from if_pos h)
  have hE1 := Lib.hid (fun h => poolErr_no (p := p) h)
  generalize poolErr p = E at *
  obtain ⟨lo, hi, le, ci⟩ := p
  simp only [PlOk, Pl.val] at *
  obtain ⟨⟨b1, b2⟩, b3, b4⟩ := hb
  have e1 : IntKind.i64.wrap (hi - lo) = hi - lo := IntWalk.i64_in _ (by omega)
  have e2 : IntKind.i64.wrap (hi - lo + 1) = hi - lo + 1 := IntWalk.i64_in _ (by omega)
  have hz := (blk_facts (heap_alloc_new w (.cells #[.int .i64 lo, .int .i64 hi, .int .i64 le, .int .i64 ci] 131))).1
  have hB := below_new w (.cells #[.int .i64 lo, .int .i64 hi, .int .i64 le, .int .i64 ci] 131)
  have z0 := hz 0
  have z1 := hz 1
  have z2 := hz 2
  have z3 := hz 3
  clear hz
  by_cases c1 : 1 ≤ lo ∧ lo ≤ hi
  rotate_left
  · obtain rfl := hE1.out (fun h => c1 h.1)
    have d1 : decide (1 ≤ lo ∧ lo ≤ hi) = false := decide_eq_false c1
    clear hE0 hE1 c1
    go_enter Tryz.func83, Tryz.ntmps83
    go_wp2_with (go_at_call 115; refine (in_c _ _ _ _).mono ?_; rintro e w' ⟨rfl, rfl⟩; rw [d1])
    go_ret
    exact ⟨rfl, hB⟩
  have d1 : decide (1 ≤ lo ∧ lo ≤ hi) = true := decide_eq_true c1
  by_cases c0 : hi ≤ 10
  rotate_left
  · obtain rfl := hE1.out (fun h => c0 h.2.1)
    have d0 : decide (10 < hi) = true := decide_eq_true (by omega)
    clear hE0 hE1 c0 c1
    go_enter Tryz.func83, Tryz.ntmps83
    go_wp2_with (go_at_call 115; refine (in_c _ _ _ _).mono ?_; rintro e w' ⟨rfl, rfl⟩; rw [d1])
    go_ret
    exact ⟨rfl, hB⟩
  have d0 : decide (10 < hi) = false := decide_eq_false (by omega)
  by_cases c2 : 1 ≤ le ∧ le ≤ hi - lo + 1
  rotate_left
  · obtain rfl := hE1.out (fun h => c2 h.2.2.1)
    have d2 : decide (1 ≤ le ∧ le ≤ hi - lo + 1) = false := decide_eq_false c2
    clear hE0 hE1 c0 c1 c2
    go_enter Tryz.func83, Tryz.ntmps83
    go_wp2_with (go_at_call 115; refine (in_c _ _ _ _).mono ?_; rintro e w' ⟨rfl, rfl⟩; first | rw [d1] | rw [d2])
    go_ret
    exact ⟨rfl, hB⟩
  have d2 : decide (1 ≤ le ∧ le ≤ hi - lo + 1) = true := decide_eq_true c2
  by_cases c3 : 1 ≤ ci ∧ ci ≤ 10
  rotate_left
  · obtain rfl := hE1.out (fun h => c3 h.2.2.2)
    have d3 : decide (1 ≤ ci ∧ ci ≤ 10) = false := decide_eq_false c3
    clear hE0 hE1 c0 c1 c2 c3
    go_enter Tryz.func83, Tryz.ntmps83
    go_wp2_with (go_at_call 115; refine (in_c _ _ _ _).mono ?_; rintro e w' ⟨rfl, rfl⟩; first | rw [d1] | rw [d2] | rw [d3])
    go_ret
    exact ⟨rfl, hB⟩
  have d3 : decide (1 ≤ ci ∧ ci ≤ 10) = true := decide_eq_true c3
  obtain rfl := hE0.out ⟨c1, c0, c2, c3⟩
  clear hE0 hE1 c0 c1 c2 c3
  go_enter Tryz.func83, Tryz.ntmps83
  go_wp2_with (go_at_call 115; refine (in_c _ _ _ _).mono ?_; rintro e w' ⟨rfl, rfl⟩; first | rw [d1] | rw [d2] | rw [d3])
  go_ret
  exact ⟨rfl, hB⟩

/-- the lanes in the order in which they are given: the first rounds -/
def laneA (lo hi m : Int) (d : Nat) : List Int := if m + (d : Int) ≤ hi then [m + d] else []
def laneB (lo hi m : Int) (d : Nat) : List Int := if lo ≤ m - (d : Int) then [m - d] else []
def laneL (lo hi m : Int) : Nat → List Int
  | 0 => [m]
  | d + 1 => laneL lo hi m d ++ laneA lo hi m (d + 1) ++ laneB lo hi m (d + 1)
def midL (lo hi : Int) : Int := (lo + hi) / 2
def topL (lo hi : Int) : Nat := (max (hi - midL lo hi) (midL lo hi - lo)).toNat
def laneV (lo hi : Int) : List Int := laneL lo hi (midL lo hi) (topL lo hi)
theorem laneL_len {lo hi m : Int} (h1 : lo ≤ m) (h2 : m ≤ hi) : ∀ d : Nat, ((laneL lo hi m d).length : Int) = 1 + min (d : Int) (hi - m) + min (d : Int) (m - lo)
  | 0 => by unfold laneL; simp; omega
  | d + 1 => by
    unfold laneL laneA laneB
    rw [List.length_append, List.length_append]
    have ih := laneL_len h1 h2 d
    push_cast at *
    split <;> split <;> simp <;> omega
theorem mid_bd {lo hi : Int} (h : lo ≤ hi) : lo ≤ midL lo hi ∧ midL lo hi ≤ hi := by unfold midL; omega
theorem laneV_len {lo hi : Int} (h : lo ≤ hi) : ((laneV lo hi).length : Int) = hi - lo + 1 := by
  obtain ⟨h1, h2⟩ := mid_bd h
  have h3 := laneL_len h1 h2 (topL lo hi)
  unfold laneV
  rw [h3]
  unfold topL
  omega
theorem ints_snoc (l : List Int) (x : Int) : ints (l ++ [x]) = ints l ++ [.int .i64 x] := by unfold ints; rw [List.map_append]; rfl
structure LO (w : World) (p : Pl) (u : Value) (L : List Int) (wx : World) : Prop where
  own : wx.ownsRow (w.heap.size + 1) 3 1 u L.length (ints L)
  blk : wx.heap[w.heap.size]? = some (.cells p.cells 131 (0, 0))
  bel : Below w.heap.size w wx
  siz : w.heap.size + 1 ≤ wx.heap.size
section
variable {w wx w' : World} {p : Pl} {u v' : Value} {L : List Int} {x : Int}
theorem LO.app (h : LO w p u L wx) (ho : w'.ownsRow (w.heap.size + 1) 3 1 v' (L.length + 1) (ints L ++ [.int .i64 x])) (hg : wx.grownBy w' u.ownBlock) : LO w p v' (L ++ [x]) w' :=
  ⟨by rw [ints_snoc, List.length_append]; exact ho, blk_grown h.blk hg (fun e => by have := own_row_lt h.own _ e.symm; omega), below_own h.bel h.own hg h.bel.size (by omega), Nat.le_trans h.siz hg.size⟩
theorem LO.drewN (h : LO w p u L wx) (n : Nat) : LO w p u L (wx.drewN n) := ⟨h.own, h.blk, below_next h.bel (below_drewN (Below.refl _ _) n), h.siz⟩
theorem LO.start (w : World) (p : Pl) (m : Int) : LO w p (.slice (some ⟨w.heap.size + 1, 0, none⟩) 1 1) [m] ((w.alloc (.cells p.cells 131)).alloc (.cells #[.int .i64 m] 3)) := by
  have hs : (w.alloc (.cells p.cells 131)).heap.size = w.heap.size + 1 := by simp
  refine ⟨?_, blk_alloc (heap_alloc_new w _) _, (below_new w _).alloc (by simp) _, by simp⟩
  have := own_lit (w.alloc (.cells p.cells 131)) (w.heap.size + 1) 3 #[.int .i64 m] 1 rfl (by simp) (by unfold maxLen; omega)
  rw [hs] at this
  exact this
end
theorem laneL_succ (lo hi m : Int) (d : Nat) : laneL lo hi m (d + 1) = laneL lo hi m d ++ laneA lo hi m (d + 1) ++ laneB lo hi m (d + 1) := rfl
set_option maxHeartbeats 3200000 in
set_option maxRecDepth 100000 in
theorem lanesOfP_c (p : Pl) (hp : PlOk p) (w : World) :
    Calls Tryz.prog 239 #[p.val] w fun e w' => ∃ A n c, e = .returned (.slice A n c) ∧ w'.ownsRow (w.heap.size + 1) 3 1 (.slice A n c) n (ints (laneV p.lo p.hi)) ∧ (laneV p.lo p.hi).length = n ∧ Below w.heap.size w w' := by
  have hK0 := Lib.hid (LO.start w p)
  have hlen := Lib.hid (fun d => laneL_len (mid_bd hp.1.2).1 (mid_bd hp.1.2).2 d)
  have hAp := Lib.hid (fun (u v' : Value) (L : List Int) (x : Int) (wx w' : World) (h : LO w p u L wx) ho hg => h.app (x := x) (v' := v') (w' := w') ho hg)
  have hblk := Lib.hid (fun (u : Value) (L : List Int) (wx : World) (h : LO w p u L wx) => (blk_facts h.blk).1)
  obtain ⟨lo, hi, le, ci⟩ := p
  obtain ⟨⟨p1, p2⟩, p3, _, _⟩ := hp
  dsimp only [Pl.val, Pl.cells] at *
  obtain ⟨m1, m2⟩ := mid_bd p2
  have em : (lo + hi) / 2 = midL lo hi := rfl
  have eL : laneV lo hi = laneL lo hi (midL lo hi) (topL lo hi) := rfl
  have et : (topL lo hi : Int) = max (hi - midL lo hi) (midL lo hi - lo) := by unfold topL; omega
  have w1 : IntKind.i64.wrap (lo + hi) = lo + hi := IntWalk.i64_in _ (by omega)
  have w2 : IntKind.i64.wrap (hi - lo) = hi - lo := IntWalk.i64_in _ (by omega)
  have w3 : IntKind.i64.wrap (hi - lo + 1) = hi - lo + 1 := IntWalk.i64_in _ (by omega)
  have w4 : IntKind.i64.wrap ((lo + hi) / 2) = (lo + hi) / 2 := IntWalk.i64_in _ (by omega)
  have w5 : (lo + hi).tdiv 2 = (lo + hi) / 2 := Int.tdiv_eq_ediv_of_nonneg (by omega)
  rw [em] at w4 w5
  have hz := (blk_facts (heap_alloc_new w (.cells #[.int .i64 lo, .int .i64 hi, .int .i64 le, .int .i64 ci] 131))).1
  have z0 := hz 0
  have z1 := hz 1
  have eL' := Lib.hid eL
  have et' := Lib.hid et
  clear em eL et hz
  generalize laneV lo hi = LV at *
  generalize midL lo hi = m at *
  generalize topL lo hi = T at *
  have hstep := Lib.hid (laneL_succ lo hi m)
  generalize hLL : laneL lo hi m = LL at *
  have hL0 : Hid (LL 0 = [m]) := Lib.hid (by rw [← hLL]; rfl)
  clear hLL
  go_enter Tryz.func239, Tryz.ntmps239
  go_wp2_with fail
  go_loopw [4, 5] (fun out d wr => ∃ (j : Nat) (dd : Int), j ≤ T ∧ Hid (dd = ((j + 1 : Nat) : Int)) ∧ d = .int .i64 dd ∧ LO w ⟨lo, hi, le, ci⟩ out (LL j) wr) (fun _ d _ => T + 1 - (intOf d).toNat)
  case atStart => exact ⟨0, 1, Nat.zero_le _, Lib.hid rfl, rfl, by rw [hL0.out]; exact hK0.out m⟩
  case round =>
    clear hK0
    obtain ⟨j, dd, hj, hdd, rfl, K⟩ := hrel
    have hln := hlen.out j
    have hd1 : 1 ≤ dd ∧ dd ≤ j + 1 ∧ (j : Int) + 1 ≤ dd := by have := hdd.out; push_cast at this; omega
    obtain ⟨d1, d2, d3⟩ := hd1
    have htt : (T : Int) ≤ max (hi - m) (m - lo) ∧ max (hi - m) (m - lo) ≤ (T : Int) := by have := et'.out; omega
    have z0 := hblk.out _ _ _ K 0
    have z1 := hblk.out _ _ _ K 1
    obtain ⟨A, c, rfl⟩ := own_shape K.own
    have hA1 := Lib.hid (fun v' x w' ho hg => hAp.out _ v' (LL j) x _ w' K ho hg)
    have hN := Lib.hid (show (LL j).length = (LL j).length from rfl)
    by_cases hlt : j < T
    · have hst := Lib.hid (hstep.out j)
      have hown := K.own
      have hsz := K.siz
      have w6 : IntKind.i64.wrap (m + dd) = m + dd := IntWalk.i64_in _ (by omega)
      have w7 : IntKind.i64.wrap (m - dd) = m - dd := IntWalk.i64_in _ (by omega)
      have w8 : IntKind.i64.wrap (dd + 1) = dd + 1 := IntWalk.i64_in _ (by omega)
      have q0 : ((LL j).length : Int) < hi - lo + 1 := by omega
      have qn : (LL j).length ≤ 1000 := by omega
      generalize hNN : (LL j).length = N at *
      have hA1' := hA1
      clear htt et' hln hA1
      by_cases c1 : m + dd ≤ hi <;> by_cases c2 : lo ≤ m - dd
      · have hlA := Lib.hid (show laneA lo hi m (j + 1) = [m + dd] by unfold laneA; rw [← hdd.out, if_pos c1])
        have hlB := Lib.hid (show laneB lo hi m (j + 1) = [m - dd] by unfold laneB; rw [← hdd.out, if_pos c2])
        go_wp2_with (first | (at_builtin; refine wpList_app rfl (.tmp 31) (.tmp 35) 22 rfl Tryz.underlying22 info_int rfl (by omega) (by omega) hown rfl rfl rfl rfl (by simp [Value.oneCell']) (by omega) hsz ?_; intro v4 w4 hown4 hg4; have K4 := hA1'.out v4 _ w4 hown4 hg4; have hown5 := K4.own; have hsz5 := K4.siz; have z5 := hblk.out _ _ _ K4 0; have z6 := hblk.out _ _ _ K4 1; have hq5 : (LL j ++ [m + dd]).length ≤ 1001 := (by rw [List.length_append, hNN]; simp; omega); have hA5 := Lib.hid (fun v' x w' ho hg => hAp.out _ v' _ x _ w' K4 ho hg)) | (at_builtin; refine wpList_app rfl (.tmp 43) (.tmp 47) 22 rfl Tryz.underlying22 info_int rfl (by omega) (by omega) hown5 rfl rfl rfl rfl (by simp [Value.oneCell']) (by omega) hsz5 ?_; intro v7 w7 hown7 hg7; have K7 := hA5.out v7 _ w7 hown7 hg7))
        go_roundw
        case rel => exact ⟨j + 1, dd + 1, by omega, Lib.hid (by rw [hdd.out]; push_cast; rfl), by go_num, by rw [hst.out, hlA.out, hlB.out]; exact K7⟩
        case measure => simp [intOf]; omega
      · have hlA := Lib.hid (show laneA lo hi m (j + 1) = [m + dd] by unfold laneA; rw [← hdd.out, if_pos c1])
        have hlB := Lib.hid (show laneB lo hi m (j + 1) = [] by unfold laneB; rw [← hdd.out, if_neg c2])
        go_wp2_with (at_builtin; refine wpList_app rfl (.tmp 31) (.tmp 35) 22 rfl Tryz.underlying22 info_int rfl (by omega) (by omega) hown rfl rfl rfl rfl (by simp [Value.oneCell']) (by omega) hsz ?_; intro v4 w4 hown4 hg4; have K4 := hA1'.out v4 _ w4 hown4 hg4; have hown5 := K4.own; have hsz5 := K4.siz; have z5 := hblk.out _ _ _ K4 0; have z6 := hblk.out _ _ _ K4 1; have hq5 : (LL j ++ [m + dd]).length ≤ 1001 := (by rw [List.length_append, hNN]; simp; omega); have hA5 := Lib.hid (fun v' x w' ho hg => hAp.out _ v' _ x _ w' K4 ho hg))
        go_roundw
        case rel => exact ⟨j + 1, dd + 1, by omega, Lib.hid (by rw [hdd.out]; push_cast; rfl), by go_num, by rw [hst.out, hlA.out, hlB.out, List.append_nil]; exact K4⟩
        case measure => simp [intOf]; omega
      · have hlA := Lib.hid (show laneA lo hi m (j + 1) = [] by unfold laneA; rw [← hdd.out, if_neg c1])
        have hlB := Lib.hid (show laneB lo hi m (j + 1) = [m - dd] by unfold laneB; rw [← hdd.out, if_pos c2])
        go_wp2_with (at_builtin; refine wpList_app rfl (.tmp 43) (.tmp 47) 22 rfl Tryz.underlying22 info_int rfl (by omega) (by omega) hown rfl rfl rfl rfl (by simp [Value.oneCell']) (by omega) hsz ?_; intro v7 w7 hown7 hg7; have K7 := hA1'.out v7 _ w7 hown7 hg7)
        go_roundw
        case rel => exact ⟨j + 1, dd + 1, by omega, Lib.hid (by rw [hdd.out]; push_cast; rfl), by go_num, by rw [hst.out, hlA.out, hlB.out, List.append_nil]; exact K7⟩
        case measure => simp [intOf]; omega
      · have hlA := Lib.hid (show laneA lo hi m (j + 1) = [] by unfold laneA; rw [← hdd.out, if_neg c1])
        have hlB := Lib.hid (show laneB lo hi m (j + 1) = [] by unfold laneB; rw [← hdd.out, if_neg c2])
        go_wp2
        go_roundw
        case rel => exact ⟨j + 1, dd + 1, by omega, Lib.hid (by rw [hdd.out]; push_cast; rfl), by go_num, by rw [hst.out, hlA.out, hlB.out, List.append_nil, List.append_nil]; exact K⟩
        case measure => simp [intOf]; omega
    · obtain rfl : j = T := by omega
      have q0 : ¬ ((LL j).length : Int) < hi - lo + 1 := by omega
      have hown := K.own
      have hbel := K.bel
      clear htt et' hln hdd
      go_wp2
      go_ret
      exact ⟨A, (LL j).length, c, rfl, by rw [eL'.out]; exact hown, by rw [eL'.out], hbel⟩
set_option maxHeartbeats 3200000 in
set_option maxRecDepth 100000 in
theorem lanesRef_c (p : Pl) (hp : PlOk p) (w : World) :
    Calls Tryz.prog 201 #[p.val] w fun e w' => ∃ A n c, e = .returned (.slice A n c) ∧ w'.ownsRow (w.heap.size + 1) 3 1 (.slice A n c) n (ints (laneV p.lo p.hi)) ∧ (laneV p.lo p.hi).length = n ∧ Below w.heap.size w w' := by
  have hK0 := Lib.hid (LO.start w p)
  have hlen := Lib.hid (fun d => laneL_len (mid_bd hp.1.2).1 (mid_bd hp.1.2).2 d)
  have hAp := Lib.hid (fun (u v' : Value) (L : List Int) (x : Int) (wx w' : World) (h : LO w p u L wx) ho hg => h.app (x := x) (v' := v') (w' := w') ho hg)
  have hblk := Lib.hid (fun (u : Value) (L : List Int) (wx : World) (h : LO w p u L wx) => (blk_facts h.blk).1)
  obtain ⟨lo, hi, le, ci⟩ := p
  obtain ⟨⟨p1, p2⟩, p3, _, _⟩ := hp
  dsimp only [Pl.val, Pl.cells] at *
  obtain ⟨m1, m2⟩ := mid_bd p2
  have em : (lo + hi) / 2 = midL lo hi := rfl
  have eL : laneV lo hi = laneL lo hi (midL lo hi) (topL lo hi) := rfl
  have et : (topL lo hi : Int) = max (hi - midL lo hi) (midL lo hi - lo) := by unfold topL; omega
  have w1 : IntKind.i64.wrap (lo + hi) = lo + hi := IntWalk.i64_in _ (by omega)
  have w2 : IntKind.i64.wrap (midL lo hi + 1) = midL lo hi + 1 := IntWalk.i64_in _ (by omega)
  have w3 : IntKind.i64.wrap (midL lo hi - 1) = midL lo hi - 1 := IntWalk.i64_in _ (by omega)
  have w4 : IntKind.i64.wrap ((lo + hi) / 2) = (lo + hi) / 2 := IntWalk.i64_in _ (by omega)
  have w5 : (lo + hi).tdiv 2 = (lo + hi) / 2 := Int.tdiv_eq_ediv_of_nonneg (by omega)
  rw [em] at w4 w5
  have hz := (blk_facts (heap_alloc_new w (.cells #[.int .i64 lo, .int .i64 hi, .int .i64 le, .int .i64 ci] 131))).1
  have z0 := hz 0
  have z1 := hz 1
  have eL' := Lib.hid eL
  have et' := Lib.hid et
  clear em eL et hz
  generalize laneV lo hi = LV at *
  generalize midL lo hi = m at *
  generalize topL lo hi = T at *
  have hstep := Lib.hid (laneL_succ lo hi m)
  generalize hLL : laneL lo hi m = LL at *
  have hL0 : Hid (LL 0 = [m]) := Lib.hid (by rw [← hLL]; rfl)
  clear hLL
  go_enter Tryz.func201, Tryz.ntmps201
  go_wp2_with fail
  go_quiet (fail)
  go_wp2_with fail
  go_loopw [3, 4, 5] (fun lw hg out wr => ∃ (j : Nat) (v1 v2 : Int), j ≤ T ∧ lw = .int .i64 v1 ∧ hg = .int .i64 v2 ∧ Hid (v1 = max (m - ((j + 1 : Nat) : Int)) (lo - 1)) ∧ Hid (v2 = min (m + ((j + 1 : Nat) : Int)) (hi + 1)) ∧ LO w ⟨lo, hi, le, ci⟩ out (LL j) wr) (fun lw hg _ _ => (intOf lw - lo + 1).toNat + (hi + 1 - intOf hg).toNat)
  case atStart => exact ⟨0, m - 1, m + 1, Nat.zero_le _, rfl, rfl, Lib.hid (by push_cast; omega), Lib.hid (by push_cast; omega), by rw [hL0.out]; first | exact (hK0.out m).drewN _ | exact hK0.out m⟩
  case round =>
    clear hK0
    obtain ⟨j, v1, v2, hj, rfl, rfl, hv1, hv2, K⟩ := hrel
    have hln := hlen.out j
    have htt : (T : Int) ≤ max (hi - m) (m - lo) ∧ max (hi - m) (m - lo) ≤ (T : Int) := by have := et'.out; omega
    have hb : (lo - 1 ≤ v1 ∧ v1 ≤ hi) ∧ (lo ≤ v2 ∧ v2 ≤ hi + 1) := by have := hv1.out; have := hv2.out; push_cast at *; omega
    obtain ⟨⟨b1, b2⟩, b3, b4⟩ := hb
    have z0 := hblk.out _ _ _ K 0
    have z1 := hblk.out _ _ _ K 1
    obtain ⟨A, c, rfl⟩ := own_shape K.own
    have hA1' := Lib.hid (fun v' x w' ho hg => hAp.out _ v' (LL j) x _ w' K ho hg)
    have hst := Lib.hid (hstep.out j)
    have hown := K.own
    have hsz := K.siz
    have qn : (LL j).length ≤ 1000 := by omega
    have w6 : IntKind.i64.wrap (v2 + 1) = v2 + 1 := IntWalk.i64_in _ (by omega)
    have w7 : IntKind.i64.wrap (v1 - 1) = v1 - 1 := IntWalk.i64_in _ (by omega)
    generalize hNN : (LL j).length = N at *
    by_cases c1 : v2 ≤ hi <;> by_cases c2 : lo ≤ v1
    · have hlt : j < T := by have := hv1.out; have := hv2.out; push_cast at *; omega
      have hlA := Lib.hid (show laneA lo hi m (j + 1) = [v2] by have h9 := hv2.out; unfold laneA; rw [if_pos (by omega)]; congr 1; omega)
      have hlB := Lib.hid (show laneB lo hi m (j + 1) = [v1] by have h9 := hv1.out; unfold laneB; rw [if_pos (by omega)]; congr 1; omega)
      have hn1 := Lib.hid (show v1 - 1 = max (m - ((j + 1 + 1 : Nat) : Int)) (lo - 1) by have := hv1.out; push_cast at *; omega)
      have hn2 := Lib.hid (show v2 + 1 = min (m + ((j + 1 + 1 : Nat) : Int)) (hi + 1) by have := hv2.out; push_cast at *; omega)
      clear htt hln hv1 hv2
      go_wp2_with (first | (at_builtin; refine wpList_app rfl (.tmp 37) (.tmp 39) 22 rfl Tryz.underlying22 info_int rfl (by omega) (by omega) hown rfl rfl rfl rfl (by simp [Value.oneCell']) (by omega) hsz ?_; intro v4 w4 hown4 hg4; have K4 := hA1'.out v4 _ w4 hown4 hg4; have hown5 := K4.own; have hsz5 := K4.siz; have z5 := hblk.out _ _ _ K4 0; have z6 := hblk.out _ _ _ K4 1; have hq5 : (LL j ++ [v2]).length ≤ 1001 := (by rw [List.length_append, hNN]; simp; omega); have hA5 := Lib.hid (fun v' x w' ho hg => hAp.out _ v' _ x _ w' K4 ho hg)) | (at_builtin; refine wpList_app rfl (.tmp 47) (.tmp 49) 22 rfl Tryz.underlying22 info_int rfl (by omega) (by omega) hown5 rfl rfl rfl rfl (by simp [Value.oneCell']) (by omega) hsz5 ?_; intro v7 w7 hown7 hg7; have K7 := hA5.out v7 _ w7 hown7 hg7))
      go_roundw
      case rel => exact ⟨j + 1, _, _, by omega, rfl, rfl, hn1, hn2, by rw [hst.out, hlA.out, hlB.out]; exact K7⟩
      case measure => simp only [intOf]; omega
    · have hlt : j < T := by have := hv1.out; have := hv2.out; push_cast at *; omega
      have hlA := Lib.hid (show laneA lo hi m (j + 1) = [v2] by have h9 := hv2.out; unfold laneA; rw [if_pos (by omega)]; congr 1; omega)
      have hlB := Lib.hid (show laneB lo hi m (j + 1) = [] by have h9 := hv1.out; unfold laneB; rw [if_neg (by omega)])
      have hn1 := Lib.hid (show v1 = max (m - ((j + 1 + 1 : Nat) : Int)) (lo - 1) by have := hv1.out; push_cast at *; omega)
      have hn2 := Lib.hid (show v2 + 1 = min (m + ((j + 1 + 1 : Nat) : Int)) (hi + 1) by have := hv2.out; push_cast at *; omega)
      clear htt hln hv1 hv2
      go_wp2_with (at_builtin; refine wpList_app rfl (.tmp 37) (.tmp 39) 22 rfl Tryz.underlying22 info_int rfl (by omega) (by omega) hown rfl rfl rfl rfl (by simp [Value.oneCell']) (by omega) hsz ?_; intro v4 w4 hown4 hg4; have K4 := hA1'.out v4 _ w4 hown4 hg4; have hown5 := K4.own; have hsz5 := K4.siz; have z5 := hblk.out _ _ _ K4 0; have z6 := hblk.out _ _ _ K4 1; have hq5 : (LL j ++ [v2]).length ≤ 1001 := (by rw [List.length_append, hNN]; simp; omega); have hA5 := Lib.hid (fun v' x w' ho hg => hAp.out _ v' _ x _ w' K4 ho hg))
      go_roundw
      case rel => exact ⟨j + 1, _, _, by omega, rfl, rfl, hn1, hn2, by rw [hst.out, hlA.out, hlB.out, List.append_nil]; exact K4⟩
      case measure => simp only [intOf]; omega
    · have hlt : j < T := by have := hv1.out; have := hv2.out; push_cast at *; omega
      have hlA := Lib.hid (show laneA lo hi m (j + 1) = [] by have h9 := hv2.out; unfold laneA; rw [if_neg (by omega)])
      have hlB := Lib.hid (show laneB lo hi m (j + 1) = [v1] by have h9 := hv1.out; unfold laneB; rw [if_pos (by omega)]; congr 1; omega)
      have hn1 := Lib.hid (show v1 - 1 = max (m - ((j + 1 + 1 : Nat) : Int)) (lo - 1) by have := hv1.out; push_cast at *; omega)
      have hn2 := Lib.hid (show v2 = min (m + ((j + 1 + 1 : Nat) : Int)) (hi + 1) by have := hv2.out; push_cast at *; omega)
      clear htt hln hv1 hv2
      go_wp2_with (at_builtin; refine wpList_app rfl (.tmp 47) (.tmp 49) 22 rfl Tryz.underlying22 info_int rfl (by omega) (by omega) hown rfl rfl rfl rfl (by simp [Value.oneCell']) (by omega) hsz ?_; intro v7 w7 hown7 hg7; have K7 := hA1'.out v7 _ w7 hown7 hg7)
      go_roundw
      case rel => exact ⟨j + 1, _, _, by omega, rfl, rfl, hn1, hn2, by rw [hst.out, hlA.out, hlB.out, List.append_nil]; exact K7⟩
      case measure => simp only [intOf]; omega
    · obtain rfl : j = T := by have := hv1.out; have := hv2.out; push_cast at *; omega
      have hbel := K.bel
      clear htt hln hv1 hv2
      go_wp2
      go_ret
      exact ⟨A, N, c, rfl, by rw [eL'.out]; exact hown, by rw [eL'.out]; exact hNN, hbel⟩
end Go.Proofs.YtklggnglaeagpaaGreatDoor
