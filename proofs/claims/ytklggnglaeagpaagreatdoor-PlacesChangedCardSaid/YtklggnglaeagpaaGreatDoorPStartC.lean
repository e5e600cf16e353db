/- Starts: heat.compareStarts, heat.checkStart, heat.CheckStarts. -/
import Derived.Test.YtklggnglaeagpaaGreatDoorPRankM
import Derived.Deep.RegionHeld3
namespace Go.Proofs.YtklggnglaeagpaaGreatDoor
open Go.RowKit Go.Shelf Go.Lib Go.Sort
open Go.Maps (Keyed string_keyed)
open Go.WideMaps (keyOf_string_mk)
set_option linter.unusedVariables false

structure Sp where
  who : ByteArray
  heat : Int
  lane : Int
instance : Inhabited Sp := ⟨⟨⟨#[]⟩, 0, 0⟩⟩
def spE (x : Sp) : List Value := [.string x.who, .int .i64 x.heat, .int .i64 x.lane]
theorem spE_len : ∀ x, (spE x).length = 3 := fun _ => rfl
abbrev RSp (w : World) (A : Option Addr) (n : Nat) (l : List Sp) : Prop := RN 3 spE 153 w A n l
theorem RSp_at3 {w : World} {A : Option Addr} {n : Nat} {l : List Sp} (h : RSp w A n l) {k : Nat} (hk : k < n) : ∃ b off x, A = some ⟨b, off, none⟩ ∧ b < w.heap.size ∧ l[k]? = some x ∧ w.cell? ⟨b, off + k * 3, none⟩ = some (.string x.who) ∧ w.cell? ⟨b, off + k * 3 + 1, none⟩ = some (.int .i64 x.heat) ∧ w.cell? ⟨b, off + k * 3 + 2, none⟩ = some (.int .i64 x.lane) := by
  obtain ⟨b, off, x, hA, hb, hx, hc⟩ := h.at_ hk
  exact ⟨b, off, x, hA, hb, hx, hc 0 _ rfl, hc 1 _ rfl, hc 2 _ rfl⟩
theorem info_start : (Tryz.prog.info? 153).map (fun i => (i.zero, i.size, i.bytes)) = some (some (.agg #[.string ⟨#[]⟩, .int .i64 0, .int .i64 0]), 3, 32) := by kernel_rfl
theorem orI2_c (A : Option Addr) (n c : Nat) (l : List Int) (w : World) (h : RI 3 w A n l) :
    Calls Tryz.prog 234 #[.slice A n c] w fun e w' => e = .returned (.int .i64 (orV l)) ∧ w = w' := by
  have hl := h.len
  have hb := h.bd
  go_enter Tryz.func234, Tryz.ntmps234
  go_wp2
  go_loop [8] (fun i => ∃ k : Nat, k ≤ n ∧ i = .int .i64 k ∧ Hid (orV (l.drop k) = orV l)) (fun i => n - (intOf i).toNat)
  case atStart => exact ⟨0, Nat.zero_le _, rfl, Lib.hid rfl⟩
  case round =>
    obtain ⟨k, hk, rfl, hF⟩ := hrel
    by_cases hlt : k < n
    · obtain ⟨b, off, x, rfl, _, hx, hcell⟩ := h.at_ hlt
      have hS := Lib.hid (orV_at hx)
      clear hx h hl
      go_wp2
      · go_ret
        exact ⟨ret_i (by rw [← hF.out, hS.out, if_pos (by first | omega | (simp_all; done) | (simp_all; omega))]), rfl⟩
      · go_round
        case rel => exact ⟨k + 1, by omega, by go_num, Lib.hid (by rw [← hF.out, hS.out, if_neg (by first | omega | (simp_all; done) | (simp_all; omega))])⟩
        case measure => simp [intOf]; omega
    · have hS : Hid (orV l = 0) := Lib.hid (by rw [← hF.out, drop_end (by omega)]; rfl)
      clear hl
      go_wp2
      go_ret
      exact ⟨ret_i (by rw [hS.out]), rfl⟩
def spCf (x y : Sp) : Int := orV [Lib.compareInt x.heat y.heat, Lib.compareInt x.lane y.lane]
theorem spCf_val (x y : Sp) : spCf x y = if Lib.compareInt x.heat y.heat ≠ 0 then Lib.compareInt x.heat y.heat else Lib.compareInt x.lane y.lane := by
  unfold spCf
  simp only [orV]
  split
  · rfl
  · split <;> omega
set_option maxRecDepth 100000 in
theorem compareStarts_c (x y : Sp) (W : World) : Calls Tryz.prog 350 (#[.agg (spE x).toArray, .agg (spE y).toArray] ++ #[]) W fun e w' => e = .returned (.int .i64 (spCf x y)) ∧ Below W.heap.size W w' ∧ W.drawn ≤ w'.drawn := by
  have hV := Lib.hid (show spCf x y = orV [Lib.compareInt x.heat y.heat, Lib.compareInt x.lane y.lane] from rfl)
  generalize spCf x y = V at *
  obtain ⟨a, b, c⟩ := x
  obtain ⟨a', b', c'⟩ := y
  dsimp only [spE] at *
  have hC1 := Lib.hid (fun W => show Calls Tryz.prog 121 #[.int .i64 b, .int .i64 b'] W fun e w' => e = .returned (.int .i64 (Lib.compareInt b b')) ∧ W = w' from (Tryz.cmp_Compare_int b b' W).mono fun _ _ ⟨h1, h2⟩ => ⟨h1, h2.symm⟩)
  have hC2 := Lib.hid (fun W => show Calls Tryz.prog 121 #[.int .i64 c, .int .i64 c'] W fun e w' => e = .returned (.int .i64 (Lib.compareInt c c')) ∧ W = w' from (Tryz.cmp_Compare_int c c' W).mono fun _ _ ⟨h1, h2⟩ => ⟨h1, h2.symm⟩)
  generalize hu : Lib.compareInt b b' = u at *
  generalize hv : Lib.compareInt c c' = v at *
  clear hu hv
  have hb0 := heap_alloc_new W (.cells #[.string a, .int .i64 b, .int .i64 c] 153)
  have hb1 := blk_alloc hb0 (.cells #[.string a', .int .i64 b', .int .i64 c'] 153)
  have hb2 := heap_alloc_new (W.alloc (.cells #[.string a, .int .i64 b, .int .i64 c] 153)) (.cells #[.string a', .int .i64 b', .int .i64 c'] 153)
  rw [alloc_size] at hb2
  have hBB := below_box (below_box (Below.refl ((W.alloc (.cells #[.string a, .int .i64 b, .int .i64 c] 153)).alloc (.cells #[.string a', .int .i64 b', .int .i64 c'] 153)).heap.size _))
  have hD : ((W.alloc (.cells #[.string a, .int .i64 b, .int .i64 c] 153)).alloc (.cells #[.string a', .int .i64 b', .int .i64 c'] 153)).drawn = W.drawn := rfl
  go_enter Tryz.func350, Tryz.ntmps350
  go_wp2_with fail
  generalize (W.alloc (.cells #[.string a, .int .i64 b, .int .i64 c] 153)).alloc (.cells #[.string a', .int .i64 b', .int .i64 c'] 153) = w5 at *
  generalize hbx : W.heap.size = bx at *
  have z1 := (blk_facts hb1).1 1
  have z2 := (blk_facts hb1).1 2
  have y1 := (blk_facts hb2).1 1
  have y2 := (blk_facts hb2).1 2
  clear hb0
  go_region_held3 (fun w' => w'.cell? ⟨bx, 1, none⟩ = some (.int .i64 b) ∧ w'.cell? ⟨bx, 2, none⟩ = some (.int .i64 c) ∧ w'.cell? ⟨bx + 1, 1, none⟩ = some (.int .i64 b') ∧ w'.cell? ⟨bx + 1, 2, none⟩ = some (.int .i64 c')) (go_keep)
    (first
      | (go_at_call 121; with_reducible refine (hC1.out _).mono ?_; rintro e w' ⟨rfl, rfl⟩)
      | (go_at_call 121; with_reducible refine (hC2.out _).mono ?_; rintro e w' ⟨rfl, rfl⟩)
      | (go_at_call 234; refine (orI2_c _ _ _ [u, v] _ (R1.litAt _ _ _ _ (by simp) rfl (by simp)).drew).mono ?_; rintro e w' ⟨rfl, rfl⟩))
  have hz := below_drewN (hBB.alloc (by have := hBB.size; omega) (.cells #[.int .i64 u, .int .i64 v] 3)) 1
  go_wp2
  go_ret
  exact ⟨ret_i hV.out.symm, hbx ▸ hz, by show W.drawn ≤ w5.drawn + 1; omega⟩
def prevSp (l : List Sp) (k : Nat) : Option Sp := if k = 0 then none else l[k - 1]?
def stErr (p : Pl) (prev : Option Sp) (x : Sp) : Int := if keyB x.who = false then 5 else if ¬ ((1 ≤ x.heat ∧ x.heat ≤ 60) ∧ (p.lo ≤ x.lane ∧ x.lane ≤ p.hi)) then 1 else match prev with
  | some y => if 0 ≤ spCf y x then 7 else 0
  | none => 0
set_option maxHeartbeats 3200000 in
set_option maxRecDepth 100000 in
theorem checkStart_c (p : Pl) (A : Option Addr) (n c : Nat) (l : List Sp) (k : Nat) (x : Sp) (hk : k < n) (w : World) (h : RSp w A n l) (hx : l[k]? = some x) (hn : n ≤ 300) :
    Calls Tryz.prog 281 #[p.val, .slice A n c, .int .i64 k] w fun e w' => e = .returned (.int .i64 (stErr p (prevSp l k) x)) ∧ Below w.heap.size w w' := by
  have hP0 : PoolB w.heap.size p (w.alloc (.cells p.cells 131)) := heap_alloc_new w _
  have hB0 := below_new w (.cells p.cells 131)
  obtain ⟨b, off, x', rfl, hbl, hx', c0, c1, c2⟩ := RSp_at3 (h.below hB0) hk
  rw [hx] at hx'
  obtain rfl := Option.some.inj hx'
  have hE := Lib.hid (show stErr p (prevSp l k) x = if keyB x.who = false then 5 else if ¬ ((1 ≤ x.heat ∧ x.heat ≤ 60) ∧ (p.lo ≤ x.lane ∧ x.lane ≤ p.hi)) then 1 else match prevSp l k with
    | some y => if 0 ≤ spCf y x then 7 else 0
    | none => 0 from rfl)
  generalize stErr p (prevSp l k) x = E at *
  have hprev : (k = 0 ∧ prevSp l k = none) ∨ (1 ≤ k ∧ ∃ y, prevSp l k = some y ∧ w.cell? ⟨b, off + (k - 1) * 3, none⟩ = some (.string y.who) ∧ w.cell? ⟨b, off + (k - 1) * 3 + 1, none⟩ = some (.int .i64 y.heat) ∧ w.cell? ⟨b, off + (k - 1) * 3 + 2, none⟩ = some (.int .i64 y.lane)) := by
    by_cases h0 : k = 0
    · exact .inl ⟨h0, if_pos h0⟩
    · obtain ⟨b', off', y, hA, _, hy, d0, d1, d2⟩ := RSp_at3 h (k := k - 1) (by omega)
      injection hA with hA
      injection hA with e1 e2
      subst e1 e2
      exact .inr ⟨by omega, y, by unfold prevSp; rw [if_neg h0]; exact hy, d0, d1, d2⟩
  have hlt0 : b < w.heap.size := by
    obtain ⟨b', o', cs, fz, hA, hb, _⟩ := h.2.2 (by omega)
    injection hA with hA
    injection hA with e1 e2
    subst e1
    exact (Array.getElem?_eq_some_iff.1 hb).1
  have hCm := Lib.hid (fun y W => compareStarts_c y x W)
  obtain ⟨who, heat, lane⟩ := x
  dsimp only [spE] at *
  have hb5 := heap_alloc_new (w.alloc (.cells p.cells 131)) (.cells #[.string who, .int .i64 heat, .int .i64 lane] 153)
  have hB5 := hB0.alloc hB0.size (.cells #[.string who, .int .i64 heat, .int .i64 lane] 153)
  have hFk := Lib.hid (fun v (B : Below ((w.alloc (.cells p.cells 131)).alloc (.cells #[.string who, .int .i64 heat, .int .i64 lane] 153)).heap.size ((w.alloc (.cells p.cells 131)).alloc (.cells #[.string who, .int .i64 heat, .int .i64 lane] 153)) v) => ((hP0.keep _ _ (below_new _ (.cells #[.string who, .int .i64 heat, .int .i64 lane] 153))).keep _ _ B).at_)
  have hPk := Lib.hid (fun v (B : Below w.heap.size w v) o u (hc : w.cell? ⟨b, o, none⟩ = some u) => show v.cell? ⟨b, o, none⟩ = some u from (B.cell (p := ⟨b, o, none⟩) hlt0).trans hc)
  clear hx hx' h hP0
  obtain ⟨lo, hi, le, ci⟩ := p
  dsimp only [Pl.val, Pl.cells] at *
  have hkey := Lib.hid (fun W => isKey_c who W)
  have k0 : (0 : Int) ≤ (k : Int) := by omega
  have kn : (k : Int) < (n : Int) := by omega
  rw [alloc_size] at hb5
  by_cases hkb : keyB who = false
  · obtain rfl : E = 5 := by rw [hE.out, if_pos hkb]
    rw [hkb] at hkey
    clear hE hkb hprev hPk hFk hCm
    go_enter Tryz.func281, Tryz.ntmps281
    go_wp2_with fail
    refine (hkey.out _).mono ?_; rintro e w6 ⟨rfl, B6⟩
    have hB6 := below_next hB5 B6
    go_wp2
    go_ret
    exact ⟨rfl, hB6⟩
  have hkt : keyB who = true := by simpa using hkb
  rw [hkt] at hkey
  have hE2 := Lib.hid (show E = if ¬ ((1 ≤ heat ∧ heat ≤ 60) ∧ (lo ≤ lane ∧ lane ≤ hi)) then 1 else match prevSp l k with
    | some y => if 0 ≤ spCf y ⟨who, heat, lane⟩ then 7 else 0
    | none => 0 by rw [hE.out, if_neg hkb])
  clear hE hkb hkt
  by_cases h1 : 1 ≤ heat ∧ heat ≤ 60
  rotate_left
  · obtain rfl : E = 1 := by rw [hE2.out, if_pos (fun h => h1 h.1)]
    have d1 : decide (1 ≤ heat ∧ heat ≤ 60) = false := decide_eq_false h1
    clear hE2 h1 hprev hPk hCm
    go_enter Tryz.func281, Tryz.ntmps281
    go_wp2_with fail
    refine (hkey.out _).mono ?_; rintro e w6 ⟨rfl, B6⟩
    have hb6 := blk_below hb5 B6
    obtain ⟨y0, y1, _, _⟩ := hFk.out _ B6
    have hB6 := below_next hB5 B6
    have x1 := (blk_facts hb6).1 1
    have x2 := (blk_facts hb6).1 2
    clear hFk hb5 hB5 B6 hkey
    go_wp2_with (go_at_call 128; refine (within_c _ _ _ _).mono ?_; rintro e w' ⟨rfl, rfl⟩; rw [d1])
    go_ret
    exact ⟨rfl, hB6⟩
  have d1 : decide (1 ≤ heat ∧ heat ≤ 60) = true := decide_eq_true h1
  by_cases h2 : lo ≤ lane ∧ lane ≤ hi
  rotate_left
  · obtain rfl : E = 1 := by rw [hE2.out, if_pos (fun h => h2 h.2)]
    have d2 : decide (lo ≤ lane ∧ lane ≤ hi) = false := decide_eq_false h2
    clear hE2 h1 h2 hprev hPk hCm
    go_enter Tryz.func281, Tryz.ntmps281
    go_wp2_with fail
    refine (hkey.out _).mono ?_; rintro e w6 ⟨rfl, B6⟩
    have hb6 := blk_below hb5 B6
    obtain ⟨y0, y1, _, _⟩ := hFk.out _ B6
    have hB6 := below_next hB5 B6
    have x1 := (blk_facts hb6).1 1
    have x2 := (blk_facts hb6).1 2
    clear hFk hb5 hB5 B6 hkey
    go_wp2_with (go_at_call 128; refine (within_c _ _ _ _).mono ?_; rintro e w' ⟨rfl, rfl⟩; first | rw [d1] | rw [d2])
    go_ret
    exact ⟨rfl, hB6⟩
  have d2 : decide (lo ≤ lane ∧ lane ≤ hi) = true := decide_eq_true h2
  have hE3 := Lib.hid (show E = match prevSp l k with
    | some y => if 0 ≤ spCf y ⟨who, heat, lane⟩ then 7 else 0
    | none => 0 by rw [hE2.out, if_neg (fun h => h ⟨h1, h2⟩)])
  clear hE2 h1 h2
  rcases hprev with ⟨h0, hn0⟩ | ⟨h0, y, hy, d3, d4, d5⟩
  · obtain rfl : E = 0 := by rw [hE3.out, hn0]
    have e8 : decide (0 < k) = false := decide_eq_false (by omega)
    have e9 : decide ((0 : Int) < (k : Int)) = false := decide_eq_false (by omega)
    clear hE3 h0 hn0 hPk hCm
    go_enter Tryz.func281, Tryz.ntmps281
    go_wp2_with fail
    refine (hkey.out _).mono ?_; rintro e w6 ⟨rfl, B6⟩
    have hb6 := blk_below hb5 B6
    obtain ⟨y0, y1, _, _⟩ := hFk.out _ B6
    have hB6 := below_next hB5 B6
    have x0 := (blk_facts hb6).1 0
    have x1 := (blk_facts hb6).1 1
    have x2 := (blk_facts hb6).1 2
    clear hFk hb5 hB5 B6 hkey
    go_wp2_with (go_at_call 128; refine (within_c _ _ _ _).mono ?_; rintro e w' ⟨rfl, rfl⟩; first | rw [d1] | rw [d2])
    go_quiet (fail)
    clear e8 e9
    go_wp2
    go_ret
    exact ⟨rfl, below_drewN hB6 _⟩
  · have hEv := Lib.hid (show E = if 0 ≤ spCf y ⟨who, heat, lane⟩ then 7 else 0 by rw [hE3.out, hy])
    have hCy := Lib.hid (fun W => hCm.out y W)
    obtain ⟨who2, heat2, lane2⟩ := y
    dsimp only at *
    generalize spCf ⟨who2, heat2, lane2⟩ ⟨who, heat, lane⟩ = V at *
    have e8 : decide (0 < k) = true := decide_eq_true (by omega)
    have e9 : decide ((0 : Int) < (k : Int)) = true := decide_eq_true (by omega)
    have u1 : IntKind.i64.wrap ((k : Int) - 1) = (k : Int) - 1 := IntWalk.i64_in _ (by omega)
    have u2 : 0 ≤ (k : Int) - 1 := by omega
    have u3 : ((k : Int) - 1).toNat = k - 1 := by omega
    have u4 : (k : Int) - 1 < n := by omega
    have u5 : (1 : Int) ≤ (k : Int) := by omega
    clear hE3 hy hCm
    go_enter Tryz.func281, Tryz.ntmps281
    go_wp2_with fail
    refine (hkey.out _).mono ?_; rintro e w6 ⟨rfl, B6⟩
    have hb6 := blk_below hb5 B6
    obtain ⟨y0, y1, _, _⟩ := hFk.out _ B6
    have hB6 := below_next hB5 B6
    have x0 := (blk_facts hb6).1 0
    have x1 := (blk_facts hb6).1 1
    have x2 := (blk_facts hb6).1 2
    have p0 := hPk.out _ hB6 _ _ d3
    have p1 := hPk.out _ hB6 _ _ d4
    have p2 := hPk.out _ hB6 _ _ d5
    clear hFk hb5 hB5 B6 hkey d3 d4 d5 c0 c1 c2
    go_wp2_with (go_at_call 128; refine (within_c _ _ _ _).mono ?_; rintro e w' ⟨rfl, rfl⟩; first | rw [d1] | rw [d2])
    have hbl6 : b < w6.heap.size := Nat.lt_of_lt_of_le hlt0 hB6.size
    have lb6 := lt_of_heap hb6
    generalize w.heap.size + 1 = b7 at *
    go_region_held3 (fun w' => w'.cell? ⟨b, off + (k - 1) * 3, none⟩ = some (.string who2) ∧ w'.cell? ⟨b, off + (k - 1) * 3 + 1, none⟩ = some (.int .i64 heat2) ∧ w'.cell? ⟨b, off + (k - 1) * 3 + 2, none⟩ = some (.int .i64 lane2) ∧ w'.cell? ⟨b7, 0, none⟩ = some (.string who) ∧ w'.cell? ⟨b7, 1, none⟩ = some (.int .i64 heat) ∧ w'.cell? ⟨b7, 2, none⟩ = some (.int .i64 lane))
      (first | go_keep | with_reducible exact ⟨g0, g1, g2, g3, g4, g5⟩)
      (first
        | (go_at_call 350; refine (hCy.out _).mono ?_; rintro e w8 ⟨rfl, B8, _⟩; have g0 := (B8.cell (p := ⟨b, off + (k - 1) * 3, none⟩) hbl6).trans p0; have g1 := (B8.cell (p := ⟨b, off + (k - 1) * 3 + 1, none⟩) hbl6).trans p1; have g2 := (B8.cell (p := ⟨b, off + (k - 1) * 3 + 2, none⟩) hbl6).trans p2; have g3 := (B8.cell (p := ⟨b7, 0, none⟩) lb6).trans x0; have g4 := (B8.cell (p := ⟨b7, 1, none⟩) lb6).trans x1; have g5 := (B8.cell (p := ⟨b7, 2, none⟩) lb6).trans x2))
    have hB8 := below_next (below_drewN hB6 1) B8
    clear g0 g1 g2 g3 g4 g5 p0 p1 p2 x0 x1 x2 e8 e9 B8 hB6
    by_cases hv : 0 ≤ V
    · obtain rfl : E = 7 := by rw [hEv.out, if_pos hv]
      clear hEv
      go_wp2
      go_ret
      exact ⟨rfl, hB8⟩
    · obtain rfl : E = 0 := by rw [hEv.out, if_neg hv]
      clear hEv
      go_wp2
      go_ret
      exact ⟨rfl, hB8⟩
def startsGo (p : Pl) : List ByteArray → Bool → Bool → Int → Option Sp → List Sp → Int
  | _, tw, gap, _, _, [] => if tw then 6 else if gap then 8 else 0
  | seen, tw, gap, last, prev, x :: r => if stErr p prev x ≠ 0 then stErr p prev x else startsGo p (x.who :: seen) (tw || seenB x.who seen) (gap || decide (last + 1 < x.heat)) x.heat (some x) r
def startsErr (p : Pl) (l : List Sp) : Int := if poolErr p ≠ 0 then poolErr p else if 300 < l.length then 2 else startsGo p [] false false 0 none l
theorem startsGo_at {p : Pl} {l : List Sp} {k : Nat} {x : Sp} (seen : List ByteArray) (tw gap : Bool) (last : Int) (h : l[k]? = some x) : startsGo p seen tw gap last (prevSp l k) (l.drop k) = if stErr p (prevSp l k) x ≠ 0 then stErr p (prevSp l k) x else startsGo p (x.who :: seen) (tw || seenB x.who seen) (gap || decide (last + 1 < x.heat)) x.heat (prevSp l (k + 1)) (l.drop (k + 1)) := by
  have e : prevSp l (k + 1) = some x := by unfold prevSp; rw [if_neg (by omega)]; exact h
  rw [drop_at h, e]
  rfl
theorem stErr_ok {p : Pl} {o : Option Sp} {x : Sp} (h : stErr p o x = 0) : keyB x.who = true ∧ (1 ≤ x.heat ∧ x.heat ≤ 60) ∧ (p.lo ≤ x.lane ∧ x.lane ≤ p.hi) := by
  unfold stErr at h
  split at h
  · cases h
  · rename_i h1
    split at h
    · cases h
    · rename_i h2
      have h3 := Decidable.not_not.1 h2
      exact ⟨by simpa using h1, h3⟩
structure SB (w : World) (p : Pl) (bm q : Nat) (D : DataW Unit) (wx : World) : Prop where
  m : MB wx bm q D
  pb : PoolB w.heap.size p wx
  l1 : w.heap.size < bm
  bel : Below w.heap.size w wx
  lz : bm < wx.heap.size
section
variable {w wx w' : World} {p : Pl} {bm q : Nat} {D : DataW Unit}
theorem SB.below (h : SB w p bm q D wx) (B : Below wx.heap.size wx w') : SB w p bm q D w' :=
  ⟨h.m.kept (row := none) (grown_of_below B) (by simp), h.pb.keep _ _ B, h.l1, below_next h.bel B, Nat.lt_of_lt_of_le h.lz B.size⟩
theorem SB.put (h : SB w p bm q D wx) {q' : Nat} {D' : DataW Unit} (ho : MB w' bm q' D') (hg : wx.grownBy w' (some bm)) : SB w p bm q' D' w' := by
  have h1 := h.l1
  exact ⟨ho, blk_grown h.pb hg (fun e => by injection e with e; omega), h1, h.bel.trans (grown_below hg (by omega) h.bel.size), Nat.lt_of_lt_of_le h.lz hg.size⟩
end
set_option maxHeartbeats 6400000 in
set_option maxRecDepth 100000 in
theorem checkStarts_c (p : Pl) (hpb : PlBd p) (A : Option Addr) (n c : Nat) (l : List Sp) (w : World) (h : RSp w A n l) :
    Calls Tryz.prog 206 #[p.val, .slice A n c] w fun e w' => e = .returned (.int .i64 (startsErr p l)) ∧ Below w.heap.size w w' := by
  have hCP := Lib.hid (fun W => checkPool_c p hpb W)
  have hCS := Lib.hid (fun k x (hk : k < n) W h (hx : l[k]? = some x) hn => checkStart_c p A n c l k x hk W h hx hn)
  have hR := Lib.hid (fun W B => h.below (w' := W) B)
  have hbd := h.bd
  have hl := Lib.hid h.len
  have hE := Lib.hid (show startsErr p l = if poolErr p ≠ 0 then poolErr p else if 300 < n then 2 else startsGo p [] false false 0 none l by unfold startsErr; rw [h.len])
  have hGa := Lib.hid (fun seen tw gap last k x (h : l[k]? = some x) => startsGo_at (p := p) seen tw gap last h)
  have hG0 := Lib.hid (fun seen (tw gap : Bool) last o => show startsGo p seen tw gap last o [] = if tw then 6 else if gap then 8 else 0 from rfl)
  have hOk := Lib.hid (fun o x (h : stErr p o x = 0) => stErr_ok h)
  have hP0 : PoolB w.heap.size p (w.alloc (.cells p.cells 131)) := heap_alloc_new w _
  have hB0 := below_new w (.cells p.cells 131)
  have hPk := Lib.hid (fun a v (h : PoolB w.heap.size p a) B => PoolB.keep a v h B)
  have hPa := Lib.hid (fun v (h : PoolB w.heap.size p v) => h.at_)
  have hS0 := Lib.hid (fun v (h : PoolB w.heap.size p v) (B : Below w.heap.size w v) => show SB w p v.heap.size 0 (.map []) (v.alloc (.map #[] 0)) from ⟨mb_new v, blk_alloc h _, lt_of_heap h, B.alloc B.size _, by simp⟩)
  have hSb := Lib.hid (fun bm q D a v (h : SB w p bm q D a) B => SB.below (w' := v) h B)
  have hSp := Lib.hid (fun bm q D q' D' a v (h : SB w p bm q D a) ho hg => SB.put (w' := v) (q' := q') (D' := D') h ho hg)
  have hSm := Lib.hid (fun bm q D a (h : SB w p bm q D a) => And.intro h.m (And.intro h.pb (And.intro h.bel h.lz)))
  have hPut := Lib.hid (fun D seen (h : SeenM D seen) s => h.put s)
  have hKey := Lib.hid (fun (s : ByteArray) (h : keyB s = true) => key_small h)
  clear h
  generalize startsErr p l = E at *
  generalize startsGo p = SG at *
  generalize stErr p = SE at *
  obtain ⟨lo, hi, le, ci⟩ := p
  dsimp only [Pl.val, Pl.cells] at *
  obtain ⟨z0, z1, z2, z3⟩ := hPa.out _ hP0
  by_cases h0 : poolErr ⟨lo, hi, le, ci⟩ = 0
  rotate_left
  · obtain rfl : E = poolErr ⟨lo, hi, le, ci⟩ := by rw [hE.out, if_pos h0]
    have hd : (poolErr ⟨lo, hi, le, ci⟩ != 0) = true := by simpa using h0
    generalize poolErr ⟨lo, hi, le, ci⟩ = E at *
    clear hE h0 hGa hG0 hOk hS0 hSb hSp hSm
    go_enter Tryz.func206, Tryz.ntmps206
    go_wp2_with fail
    refine (hCP.out _).mono ?_; rintro e w1 ⟨rfl, B1⟩
    have hB1 := below_next hB0 B1
    go_wp2
    go_ret
    exact ⟨rfl, hB1⟩
  rw [h0] at hCP
  have hE1 := Lib.hid (show E = if 300 < n then 2 else SG [] false false 0 none l by rw [hE.out, h0, if_neg (by simp)])
  clear hE h0
  by_cases hbig : 300 < n
  · obtain rfl : E = 2 := by rw [hE1.out, if_pos hbig]
    have q0 : (300 : Int) < (n : Int) := by omega
    clear hE1 hGa hG0 hOk hS0 hSb hSp hSm
    go_enter Tryz.func206, Tryz.ntmps206
    go_wp2_with fail
    refine (hCP.out _).mono ?_; rintro e w1 ⟨rfl, B1⟩
    have hB1 := below_next hB0 B1
    go_wp2
    go_ret
    exact ⟨rfl, hB1⟩
  have q0 : ¬ (300 : Int) < (n : Int) := by omega
  have hE2 := Lib.hid (show E = SG [] false false 0 none l by rw [hE1.out, if_neg hbig])
  have hn : n ≤ 300 := by omega
  clear hE1 hbig
  have hmm := @run_makeMap Tryz.prog
  go_enter Tryz.func206, Tryz.ntmps206
  go_wp2_with fail
  refine (hCP.out _).mono ?_; rintro e w1 ⟨rfl, B1⟩
  have hB1 := below_next hB0 B1
  have hP1 := hPk.out _ _ hP0 B1
  have K0 := hS0.out _ hP1 hB1
  clear hP0 hB0 B1 hCP hB1 hP1 hS0 z0 z1 z2 z3
  go_wp2_with fail
  generalize hw3 : w1.alloc (.map #[] 0) = w3 at *
  generalize w1.heap.size = bm at *
  go_loopw [7, 8, 9, 24] (fun tw gp la i wr => ∃ (k q : Nat) (t gap : Bool) (last : Int) (seen : List ByteArray) (D : DataW Unit), k ≤ n ∧ i = .int .i64 k ∧ tw = .bool t ∧ gp = .bool gap ∧ la = .int .i64 last ∧ (0 ≤ last ∧ last ≤ 60) ∧ q ≤ k ∧ SB w ⟨lo, hi, le, ci⟩ bm q D wr ∧ Hid (SeenM D seen) ∧ Hid (SG seen t gap last (prevSp l k) (l.drop k) = SG [] false false 0 none l)) (fun _ _ _ i _ => n - (intOf i).toNat)
  case atStart => exact ⟨0, 0, false, false, 0, [], .map [], Nat.zero_le _, rfl, rfl, rfl, rfl, by omega, Nat.le_refl _, K0, Lib.hid SeenM.nil, Lib.hid rfl⟩
  case round =>
    clear K0 hw3
    obtain ⟨k, q, t, gap, last, seen, D, hk, rfl, rfl, rfl, rfl, ⟨la0, la1⟩, hq, K, hSM, hG⟩ := hrel
    obtain ⟨_, hpb0, hbel0, _⟩ := hSm.out _ _ _ _ K
    by_cases hlt : k < n
    · obtain ⟨b, off, x, rfl, hbl, hx, c0, c1, c2⟩ := RSp_at3 (hR.out _ hbel0) hlt
      have hst := Lib.hid (hGa.out seen t gap last k x hx)
      have hok := Lib.hid (fun h => hOk.out (prevSp l k) x h)
      have hCk := Lib.hid (fun W h => hCS.out k x hlt W h hx hn)
      obtain ⟨who, heat, lane⟩ := x
      dsimp only at *
      have hb5 := heap_alloc_new wr (.cells #[.string who, .int .i64 heat, .int .i64 lane] 153)
      have K5 := hSb.out _ _ _ _ _ K (below_new wr (.cells #[.string who, .int .i64 heat, .int .i64 lane] 153))
      obtain ⟨_, hpb5, hbel5, _⟩ := hSm.out _ _ _ _ K5
      obtain ⟨z0, z1, z2, z3⟩ := hPa.out _ hpb5
      generalize hse : SE (prevSp l k) ⟨who, heat, lane⟩ = se at *
      clear hx hse K hpb0 hbel0
      go_wp2_with fail
      refine (hCk.out _ (hR.out _ hbel5)).mono ?_; rintro e w6 ⟨rfl, B6⟩
      have K6 := hSb.out _ _ _ _ _ K5 B6
      have hb6 := blk_below hb5 B6
      obtain ⟨hm1, _, hbel6, hlz⟩ := hSm.out _ _ _ _ K6
      clear c0 c1 c2 hb5 K5 hpb5 hbel5 B6 z0 z1 z2 z3 hCk
      by_cases h1 : se = 0
      rotate_left
      · obtain rfl : E = se := by rw [hE2.out, ← hG.out, hst.out, if_pos h1]
        have hd : (E != 0) = true := by simpa using h1
        clear hst hok hG hE2 hSM K6 hm1 h1
        go_wp2
        go_ret
        exact ⟨rfl, hbel6⟩
      · obtain ⟨ky, ⟨hh0, hh1⟩, _⟩ := hok.out h1
        have hks := (hKey.out who ky).2
        have hst2 := Lib.hid (show SG (who :: seen) (t || seenB who seen) (gap || decide (last + 1 < heat)) heat (prevSp l (k + 1)) (l.drop (k + 1)) = SG [] false false 0 none l by rw [← hG.out, hst.out, if_neg (by simpa using h1)])
        subst h1
        obtain ⟨v, hrun, hat⟩ := mb_lookup hm1 who (by unfold maxLen; omega)
        rw [hSM.out.2 who] at hat
        have hv' : seenB who seen = v := by injection hat with e; injection e
        rw [hv'] at hst2
        have hSM2 := Lib.hid (hPut.out D seen hSM.out who)
        have x0 := (blk_facts hb6).1 0
        have x1 := (blk_facts hb6).1 1
        have lb6 := lt_of_heap hb6
        have e1 : IntKind.i64.wrap (last + 1) = last + 1 := IntWalk.i64_in _ (by omega)
        clear hat hv' hSM hst hok hG ky
        generalize hdd : decide (last + 1 < heat) = dd at *
        cases t
        · rw [Bool.false_or] at hst2
          cases gap
          · rw [Bool.false_or] at hst2
            have hbf := Lib.hid (fun W' (h : w6.grownBy W' (some bm)) => blk_grown hb6 h (fun e => by injection e with e; omega))
            go_wp2_with (at_mapUpdate; refine wpList_mapUpdate_own _ rfl _ _ _ 250 rfl 9 4 (string_keyed Tryz.underlying9) Tryz.underlying250 _ _ q _ rfl hm1 (by unfold maxLen; omega) _ _ _ rfl rfl (keyOf_string_mk Tryz.underlying9 (by unfold maxLen; omega)) _ [] (plainElem_bool Tryz.underlying4 true) ?_; intro w7 hown7 hg7; have hb7 := hbf.out _ hg7; have x0 := (blk_facts hb7).1 0; have x1 := (blk_facts hb7).1 1)
            have K7 := hSp.out _ _ _ _ _ _ _ K6 hown7 hg7
            clear hrun K6 hown7 hg7 hm1
            go_roundw
            case rel => exact ⟨k + 1, q + 1, v, dd, heat, who :: seen, _, by omega, by go_num, rfl, rfl, rfl, by omega, by omega, K7, hSM2, hst2⟩
            case measure => simp [intOf]; omega
          · rw [Bool.true_or] at hst2
            have hbf := Lib.hid (fun W' (h : w6.grownBy W' (some bm)) => blk_grown hb6 h (fun e => by injection e with e; omega))
            go_wp2_with (at_mapUpdate; refine wpList_mapUpdate_own _ rfl _ _ _ 250 rfl 9 4 (string_keyed Tryz.underlying9) Tryz.underlying250 _ _ q _ rfl hm1 (by unfold maxLen; omega) _ _ _ rfl rfl (keyOf_string_mk Tryz.underlying9 (by unfold maxLen; omega)) _ [] (plainElem_bool Tryz.underlying4 true) ?_; intro w7 hown7 hg7; have hb7 := hbf.out _ hg7; have x0 := (blk_facts hb7).1 0; have x1 := (blk_facts hb7).1 1)
            have K7 := hSp.out _ _ _ _ _ _ _ K6 hown7 hg7
            clear hrun K6 hown7 hg7 hm1
            go_roundw
            case rel => exact ⟨k + 1, q + 1, v, true, heat, who :: seen, _, by omega, by go_num, rfl, rfl, rfl, by omega, by omega, K7, hSM2, hst2⟩
            case measure => simp [intOf]; omega
        · rw [Bool.true_or] at hst2
          cases gap
          · rw [Bool.false_or] at hst2
            have hbf := Lib.hid (fun W' (h : w6.grownBy W' (some bm)) => blk_grown hb6 h (fun e => by injection e with e; omega))
            go_wp2_with (at_mapUpdate; refine wpList_mapUpdate_own _ rfl _ _ _ 250 rfl 9 4 (string_keyed Tryz.underlying9) Tryz.underlying250 _ _ q _ rfl hm1 (by unfold maxLen; omega) _ _ _ rfl rfl (keyOf_string_mk Tryz.underlying9 (by unfold maxLen; omega)) _ [] (plainElem_bool Tryz.underlying4 true) ?_; intro w7 hown7 hg7; have hb7 := hbf.out _ hg7; have x0 := (blk_facts hb7).1 0; have x1 := (blk_facts hb7).1 1)
            have K7 := hSp.out _ _ _ _ _ _ _ K6 hown7 hg7
            clear hrun K6 hown7 hg7 hm1
            go_roundw
            case rel => exact ⟨k + 1, q + 1, true, dd, heat, who :: seen, _, by omega, by go_num, rfl, rfl, rfl, by omega, by omega, K7, hSM2, hst2⟩
            case measure => simp [intOf]; omega
          · rw [Bool.true_or] at hst2
            have hbf := Lib.hid (fun W' (h : w6.grownBy W' (some bm)) => blk_grown hb6 h (fun e => by injection e with e; omega))
            go_wp2_with (at_mapUpdate; refine wpList_mapUpdate_own _ rfl _ _ _ 250 rfl 9 4 (string_keyed Tryz.underlying9) Tryz.underlying250 _ _ q _ rfl hm1 (by unfold maxLen; omega) _ _ _ rfl rfl (keyOf_string_mk Tryz.underlying9 (by unfold maxLen; omega)) _ [] (plainElem_bool Tryz.underlying4 true) ?_; intro w7 hown7 hg7; have hb7 := hbf.out _ hg7; have x0 := (blk_facts hb7).1 0; have x1 := (blk_facts hb7).1 1)
            have K7 := hSp.out _ _ _ _ _ _ _ K6 hown7 hg7
            clear hrun K6 hown7 hg7 hm1
            go_roundw
            case rel => exact ⟨k + 1, q + 1, true, true, heat, who :: seen, _, by omega, by go_num, rfl, rfl, rfl, by omega, by omega, K7, hSM2, hst2⟩
            case measure => simp [intOf]; omega
    · obtain rfl : k = n := by omega
      have hR9 := Lib.hid (show SG [] false false 0 none l = if t then 6 else if gap then 8 else 0 by rw [← hG.out, drop_end (by rw [hl.out]; exact Nat.le_refl _), hG0.out])
      clear hG K
      cases t
      · cases gap
        · obtain rfl : E = 0 := by rw [hE2.out, hR9.out]; rfl
          clear hE2 hR9
          go_wp2
          go_ret
          exact ⟨rfl, hbel0⟩
        · obtain rfl : E = 8 := by rw [hE2.out, hR9.out]; rfl
          clear hE2 hR9
          go_wp2
          go_ret
          exact ⟨rfl, hbel0⟩
      · obtain rfl : E = 6 := by rw [hE2.out, hR9.out]; rfl
        clear hE2 hR9
        go_wp2
        go_ret
        exact ⟨rfl, hbel0⟩
end Go.Proofs.YtklggnglaeagpaaGreatDoor
