import Derived.Test.YtlddeeagnlgciaaGreatDoorPassX
import Derived.BigGuardPart
import Derived.Laws.StructEq
import Derived.Test.YtlddeeagnlgciaaGreatDoorPassA
import Derived.Test.YtlddeeagnlgciaaGreatDoorAhead2
/- slices.Equal over fractions. -/
namespace Go.Proofs.YtlddeeagnlgciaaGreatDoor
open Go.RowKit
set_option linter.unusedVariables false

theorem RFr_atN {w : World} {A : Option Addr} {n : Nat} {l : List (Int × Int)} (h : RFr w A n l) {k : Nat} (hk : k < n) : ∃ b off x, A = some ⟨b, off, none⟩ ∧ b < w.heap.size ∧ l[k]? = some x ∧ w.cell? ⟨b, off + k * 2, none⟩ = some (.int .i64 x.1) ∧ w.cell? ⟨b, off + k * 2 + 1, none⟩ = some (.int .i64 x.2) := by
  obtain ⟨b, off, x, hA, hb, hx, hc⟩ := h.at_ hk
  exact ⟨b, off, x, hA, hb, hx, hc 0 _ rfl, hc 1 _ rfl⟩
set_option maxHeartbeats 1600000 in
set_option maxRecDepth 100000 in
theorem equalFr_c (A1 A2 : Option Addr) (n c m d : Nat) (l1 l2 : List (Int × Int)) (w : World) (h1 : RFr w A1 n l1) (h2 : RFr w A2 m l2) :
    Calls Tryz.prog 42 #[.slice A1 n c, .slice A2 m d] w fun e w' => e = .returned (.bool (decide (l1 = l2))) ∧ ∃ q, w' = w.drewN q := by
  have b1 := h1.bd
  have b2 := h2.bd
  by_cases hnm : n = m
  rotate_left
  · have hd : decide (l1 = l2) = false := by simp; rintro rfl; have := h1.len; have := h2.len; omega
    have hne : ((n : Int) != (m : Int)) = true := by rw [bne_iff_ne]; omega
    rw [hd]
    clear hd
    go_enter Tryz.func42, Tryz.ntmps42
    go_wp2
    go_ret
    exact ⟨rfl, 0, rfl⟩
  subst hnm
  have hL1 := Lib.hid h1.len
  have hL2 := Lib.hid h2.len
  go_enter Tryz.func42, Tryz.ntmps42
  go_wp2
  go_loopw [13] (fun i wr => ∃ k q : Nat, k ≤ n ∧ i = .int .i64 k ∧ wr = w.drewN q ∧ Hid (∀ j, j < k → l1[j]? = l2[j]?)) (fun i _ => n - (intOf i).toNat)
  case atStart => exact ⟨0, 0, Nat.zero_le _, rfl, rfl, Lib.hid (fun j h => absurd h (by omega))⟩
  case round =>
    obtain ⟨k, q0, hk, rfl, rfl, hF⟩ := hrel
    by_cases hlt : k < n
    · obtain ⟨b, off, x, rfl, hbl, hx, c0, c1⟩ := RFr_atN h1 hlt
      obtain ⟨b', off', y, rfl, hbl', hy, e0, e1⟩ := RFr_atN h2 hlt
      have hx' := Lib.hid hx
      have hy' := Lib.hid hy
      clear hx hy
      by_cases hxy : x = y
      · subst hxy
        go_wp2
        go_quiet (fail)
        go_wp2
        go_roundw
        case rel => exact ⟨k + 1, _, by omega, by go_num, rfl, Lib.hid (fun j hj => by
          by_cases hjk : j = k
          · subst hjk; rw [hx'.out, hy'.out]
          · exact hF.out j (by omega))⟩
        case measure => simp [intOf]; omega
      · obtain ⟨x0, x1⟩ := x
        obtain ⟨y0, y1⟩ := y
        dsimp only at c0 c1 e0 e1
        have hcases : (x0 == y0) = false ∨ (x0 = y0 ∧ ((x1 == y1) = false)) := by
          by_cases q0 : x0 = y0
          · exact .inr ⟨q0, beq_eq_false_iff_ne.2 (fun q2 => hxy (by rw [q0, q2]))⟩
          · exact .inl (beq_eq_false_iff_ne.2 q0)
        have hfin : Hid (decide (l1 = l2) = false) := Lib.hid (by
          simp only [decide_eq_false_iff_not]
          rintro rfl
          rw [hx'.out] at hy'
          exact hxy (Option.some.inj hy'.out))
        clear hxy
        rcases hcases with h0 | ⟨rfl, h1⟩
        all_goals
          go_wp2
          go_quiet (fail)
          go_wp2
          go_ret
          exact ⟨ret_b (by rw [hfin.out]), _, by rw [World.drewN_drewN]⟩
    · have hfin : Hid (decide (l1 = l2) = true) := Lib.hid (by
        simp only [decide_eq_true_eq]
        apply List.ext_getElem?; intro j
        by_cases hj : j < n
        · exact hF.out j (by omega)
        · rw [List.getElem?_eq_none (by rw [hL1.out]; omega), List.getElem?_eq_none (by rw [hL2.out]; omega)])
      go_wp2
      go_ret
      exact ⟨ret_b (by rw [hfin.out]), _, rfl⟩
end Go.Proofs.YtlddeeagnlgciaaGreatDoor

/- race.Passes with its errors. -/
namespace Go.Proofs.YtlddeeagnlgciaaGreatDoor
open Go.RowKit
set_option linter.unusedVariables false

/-- two swimmers of a race, by their splits -/
theorem two_of {r : Race} {a b : List Int} (ha : wholeErr r a = 0) (hb : wholeErr r b = 0) : Two2 r.course (r.metres * r.legs) a b (min (a.getD (a.length - 1) 0) (b.getD (b.length - 1) 0)) := by
  have h0 := (wholeErr_ok ha).2.1
  have hla := whole_len ha
  have hlb := whole_len hb
  have hl := lenV_bd h0
  obtain ⟨_, _, _, _, _, hc, _, _, _, _, _, _, _, hm⟩ := raceErr_ok h0
  have hcp : 0 < r.course := by omega
  have hmm : r.metres = r.course * (r.metres / r.course) := by have := Int.emod_add_mul_ediv r.metres r.course; omega
  have ht : r.metres * r.legs = r.course * lenV r := by unfold lenV; rw [← Int.mul_assoc, ← hmm]
  have pa : 0 < a.length := by omega
  have pb : 0 < b.length := by omega
  have ea : a[a.length - 1]? = some (a.getD (a.length - 1) 0) := by rw [List.getD_eq_getElem?_getD, List.getElem?_eq_getElem (by omega)]; rfl
  have eb : b[b.length - 1]? = some (b.getD (b.length - 1) 0) := by rw [List.getD_eq_getElem?_getD, List.getElem?_eq_getElem (by omega)]; rfl
  have ma := List.mem_of_getElem? ea
  have mb := List.mem_of_getElem? eb
  refine ⟨hcp, whole_rise ha, whole_rise hb, by rw [ht, hla], by rw [ht, hlb], pa, pb, ?_, ⟨_, ma, by omega⟩, ⟨_, mb, by omega⟩⟩
  rcases Int.le_total (a.getD (a.length - 1) 0) (b.getD (b.length - 1) 0) with h | h
  · rw [Int.min_eq_left h]; exact List.mem_append.2 (.inl ma)
  · rw [Int.min_eq_right h]; exact List.mem_append.2 (.inr mb)
def finP (a b : List Int) : Int := min (a.getD (a.length - 1) 0) (b.getD (b.length - 1) 0)
/-- the error of race.Passes -/
def passE (r : Race) (l : List Sw) (wa wb : ByteArray) : Int := if fieldErr r l = 0 then (if (spOf wa l).isNone || (spOf wb l).isNone then 8 else if wa = wb then 6 else 0) else fieldErr r l
def passD (r : Race) (l : List Sw) (wa wb : ByteArray) : List (Int × Int) :=
  if fieldErr r l = 0 ∧ wa ≠ wb then
    match spOf wa l, spOf wb l with
    | some x, some y => passL r.course (r.metres * r.legs) x.sp y.sp (finP x.sp y.sp)
    | _, _ => []
  else []
theorem passE_err {r : Race} {l : List Sw} (wa wb : ByteArray) (h : fieldErr r l ≠ 0) : passE r l wa wb = fieldErr r l ∧ passD r l wa wb = [] := ⟨if_neg h, by unfold passD; rw [if_neg (by rintro ⟨h1, _⟩; exact h h1)]⟩
theorem passE_a {r : Race} {l : List Sw} {wa wb : ByteArray} (h : fieldErr r l = 0) (ha : spOf wa l = none) : passE r l wa wb = 8 ∧ passD r l wa wb = [] := ⟨by unfold passE; rw [if_pos h, ha]; rfl, by unfold passD; split; (rw [ha]); rfl⟩
theorem passE_b {r : Race} {l : List Sw} {wa wb : ByteArray} (h : fieldErr r l = 0) (hb : spOf wb l = none) : passE r l wa wb = 8 ∧ passD r l wa wb = [] := ⟨by unfold passE; rw [if_pos h, hb]; simp, by unfold passD; split; (rw [hb]; split; (rename_i e1 e2; cases e2); rfl); rfl⟩
theorem passE_same {r : Race} {l : List Sw} {wa : ByteArray} {x : Sw} (h : fieldErr r l = 0) (ha : spOf wa l = some x) : passE r l wa wa = 6 ∧ passD r l wa wa = [] := ⟨by unfold passE; rw [if_pos h, ha]; simp, by unfold passD; rw [if_neg (by rintro ⟨_, h1⟩; exact h1 rfl)]⟩
theorem passE_ok {r : Race} {l : List Sw} {wa wb : ByteArray} {x y : Sw} (h : fieldErr r l = 0) (ha : spOf wa l = some x) (hb : spOf wb l = some y) (hne : wa ≠ wb) : passE r l wa wb = 0 ∧ passD r l wa wb = passL r.course (r.metres * r.legs) x.sp y.sp (finP x.sp y.sp) := ⟨by unfold passE; rw [if_pos h, ha, hb, if_neg (by simp), if_neg hne], by unfold passD; rw [if_pos ⟨h, hne⟩, ha, hb]⟩
/-- fractions and an error come back -/
def RetFr (w : World) (E : Int) (D : List (Int × Int)) (e : Ending) (w' : World) : Prop := ∃ A' n' c', e = .returned (.tuple #[.slice A' n' c', .int .i64 E]) ∧ RFr w' A' n' D ∧ Below w.heap.size w w'
set_option maxHeartbeats 3200000 in
set_option maxRecDepth 100000 in
theorem Passes_c (r : Race) (A : Option Addr) (n c : Nat) (l : List Sw) (wa wb : ByteArray) (w : World) (h : RSw w A n l) :
    Calls Tryz.prog 37 #[r.val, .slice A n c, .string wa, .string wb] w (RetFr w (passE r l wa wb) (passD r l wa wb)) := by
  by_cases h0 : fieldErr r l = 0
  rotate_left
  · obtain ⟨hE, hD⟩ := passE_err wa wb h0
    rw [hE, hD]
    have hF := Lib.hid (fun W h => checkField_c r A n c l W h)
    clear hE hD
    generalize fieldErr r l = E at *
    have hne : (E != 0) = true := by simpa using h0
    clear h0
    obtain ⟨key, metres, stroke, course, legs, sex, young, old⟩ := r
    dsimp only [Race.val, Race.cells] at *
    have hb0 := heap_alloc_new w (.cells #[.string key, .int .i64 metres, .int .i64 stroke, .int .i64 course, .int .i64 legs, .int .i64 sex, .int .i64 young, .int .i64 old] 27)
    have zz := (blk_facts hb0).1
    go_enter Tryz.func37, Tryz.ntmps37
    go_wp2_with fail
    refine (hF.out _ (h.alloc _)).mono ?_; rintro e w1 ⟨rfl, B1⟩
    have hB1 := below_box B1
    clear hb0 zz B1
    go_wp2
    go_ret2
    exact ⟨none, 0, 0, rfl, RN.nil_ _ _ _ _ _, hB1⟩
  · obtain ⟨hrc, hll, hwe⟩ := fieldErr_ok h0
    have hn : n ≤ 20 := by rw [h.len] at hll; exact hll
    have hFi := Lib.hid (fun w0 W hW => find_c A n c l w0 W hW (by omega))
    have hF := Lib.hid (fun W h => checkField_c r A n c l W h)
    rw [h0] at hF
    have hPa := Lib.hid (fun (x y : Sw) (hx : x ∈ l) (hy : y ∈ l) W (g1 : RI 3 W x.A x.n x.sp) (g2 : RI 3 W y.A y.n y.sp) => by
      have hx0 := hwe x hx
      have hy0 := hwe y hy
      have bx := splits_bd (wholeErr_ok hx0).1
      have by_ := splits_bd (wholeErr_ok hy0).1
      have lx := g1.len
      have ly := g2.len
      exact passes_c r x.A y.A x.n x.c y.n y.c x.sp y.sp (finP x.sp y.sp) W g1 g2 hx0 hy0 (by omega) (by omega) (by omega) (by omega) (by unfold finP; rw [lx, ly]) (by unfold finP; exact two_of hx0 hy0))
    have hEa := Lib.hid (passE_a (wb := wb) (wa := wa) h0)
    have hEb := Lib.hid (passE_b (wb := wb) (wa := wa) h0)
    have hEs := Lib.hid (fun x => passE_same (wa := wa) (x := x) h0)
    have hEo := Lib.hid (fun x y => passE_ok (wa := wa) (wb := wb) (x := x) (y := y) h0)
    have hca := Lib.hid (fstW_spOf wa l 0)
    have hcb := Lib.hid (fstW_spOf wb l 0)
    generalize passE r l = PE at *
    generalize passD r l = PD at *
    clear h0 hrc hll hwe
    obtain ⟨key, metres, stroke, course, legs, sex, young, old⟩ := r
    dsimp only [Race.val, Race.cells] at *
    have hb0 := heap_alloc_new w (.cells #[.string key, .int .i64 metres, .int .i64 stroke, .int .i64 course, .int .i64 legs, .int .i64 sex, .int .i64 young, .int .i64 old] 27)
    have zz := (blk_facts hb0).1
    go_enter Tryz.func37, Tryz.ntmps37
    go_wp2_with fail
    refine (hF.out _ (h.alloc _)).mono ?_; rintro e w1 ⟨rfl, B1⟩
    have hb1 := blk_below hb0 B1
    have hB1 := below_box B1
    have h1 := h.below hB1
    clear hb0 zz B1 hF
    go_wp2_with fail
    refine (hFi.out wa _ h1).mono ?_; rintro e w2 ⟨rfl, B2⟩
    have hb2 := blk_below hb1 B2
    have hB2 := below_next hB1 B2
    have h2 := h1.below B2
    clear hb1 hB1 h1 B2
    go_wp2_with fail
    refine (hFi.out wb _ h2).mono ?_; rintro e w3 ⟨rfl, B3⟩
    have hb3 := blk_below hb2 B3
    have hB3 := below_next hB2 B3
    have h3 := h2.below B3
    clear hb2 hB2 h2 B3 hFi
    generalize hv1 : fstW wa l 0 = v1
    generalize hv2 : fstW wb l 0 = v2
    have hv1' := Lib.hid hv1
    have hv2' := Lib.hid hv2
    clear hv1 hv2
    rcases hca.out with ⟨ha1, ha2⟩ | ⟨j, x, ha1, hx, ha3, ha4⟩
    · obtain ⟨q1, q2⟩ := hEa.out ha1
      have hv : v1 = -1 := by rw [← hv1'.out]; exact ha2
      subst hv
      have q1' := Lib.hid q1
      have q2' := Lib.hid q2
      clear q1 q2 ha1 ha2 hb3 h3
      go_wp2
      go_ret2
      exact ⟨none, 0, 0, by rw [q1'.out]; rfl, by rw [q2'.out]; exact RN.nil_ _ _ _ _ _, hB3⟩
    · have hv : v1 = (j : Int) := by rw [← hv1'.out]; have := ha1; simpa using this
      subst hv
      rcases hcb.out with ⟨hb1, hb2⟩ | ⟨i, y, hb1, hy, hb4, hb5⟩
      · obtain ⟨q1, q2⟩ := hEb.out hb1
        have hv : v2 = -1 := by rw [← hv2'.out]; exact hb2
        subst hv
        have q1' := Lib.hid q1
        have q2' := Lib.hid q2
        clear q1 q2 ha1 hb1 hb2 ha3 ha4 hx hb3 h3
        go_wp2
        go_ret2
        exact ⟨none, 0, 0, by rw [q1'.out]; rfl, by rw [q2'.out]; exact RN.nil_ _ _ _ _ _, hB3⟩
      · have hv : v2 = (i : Int) := by rw [← hv2'.out]; have := hb1; simpa using this
        subst hv
        by_cases hab : wa = wb
        · subst hab
          obtain ⟨q1, q2⟩ := hEs.out x ha3
          have q1' := Lib.hid q1
          have q2' := Lib.hid q2
          clear q1 q2 ha1 hb1 hb4 hb5 ha3 ha4 hx hy hb3 h3
          go_wp2
          go_ret2
          exact ⟨none, 0, 0, by rw [q1'.out]; rfl, by rw [q2'.out]; exact RN.nil_ _ _ _ _ _, hB3⟩
        · obtain ⟨q1, q2⟩ := hEo.out x y ha3 hb4 hab
          have q1' := Lib.hid q1
          have q2' := Lib.hid q2
          have hne : (wa.toList == wb.toList) = false := str_neWh hab
          have hj := lt_of_at hx
          have hi := lt_of_at hy
          have hln := h3.len
          obtain ⟨bS, oS, x', rfl, lS, hx', _, cx, rx⟩ := h3.at2 (k := j) (by omega)
          rw [hx] at hx'
          injection hx' with hx'
          subst hx'
          obtain ⟨bS', oS', y', hA', _, hy', _, cy, ry⟩ := h3.at2 (k := i) (by omega)
          rw [hy] at hy'
          injection hy' with hy'
          subst hy'
          injection hA' with hA'
          injection hA' with hA1 hA2
          subst hA1 hA2
          have hPx := Lib.hid (fun W => hPa.out x y (List.mem_of_getElem? hx) (List.mem_of_getElem? hy) W)
          have hjn : (j : Int) < n := by omega
          have hin : (i : Int) < n := by omega
          obtain ⟨who, xA, xn, xc, xs⟩ := x
          obtain ⟨who2, yA, yn, yc, ys⟩ := y
          dsimp only at *
          have hb3' : w3.drew.heap[w.heap.size]? = _ := hb3
          have zz := (blk_facts hb3').1
          have z0 := zz 0
          have z1 := zz 1
          have z2 := zz 2
          have z3 := zz 3
          have z4 := zz 4
          have z5 := zz 5
          have z6 := zz 6
          have z7 := zz 7
          have zx : w3.drew.cell? ⟨bS, oS + j * 2 + 1, none⟩ = some (.slice xA xn xc) := cx
          have zy : w3.drew.cell? ⟨bS, oS + i * 2 + 1, none⟩ = some (.slice yA yn yc) := cy
          have rx' : RI 3 w3.drew xA xn xs := rx
          have ry' : RI 3 w3.drew yA yn ys := ry
          have lS' : bS < w3.drew.heap.size := lS
          have hB4 : Below w.heap.size w w3.drew := below_drewN hB3 1
          clear q1 q2 hx hy hab ha1 ha3 ha4 hb1 hb4 hb5 hb3 zz cx cy hEa hEb hEs hEo hca hcb hPa h3 rx ry h hv1' hv2'
          go_wp2
          go_region_held3 (fun w' => w'.cell? ⟨w.heap.size, 0, none⟩ = some (.string key) ∧ w'.cell? ⟨w.heap.size, 1, none⟩ = some (.int .i64 metres) ∧ w'.cell? ⟨w.heap.size, 2, none⟩ = some (.int .i64 stroke) ∧ w'.cell? ⟨w.heap.size, 3, none⟩ = some (.int .i64 course) ∧ w'.cell? ⟨w.heap.size, 4, none⟩ = some (.int .i64 legs) ∧ w'.cell? ⟨w.heap.size, 5, none⟩ = some (.int .i64 sex) ∧ w'.cell? ⟨w.heap.size, 6, none⟩ = some (.int .i64 young) ∧ w'.cell? ⟨w.heap.size, 7, none⟩ = some (.int .i64 old) ∧ w'.cell? ⟨bS, oS + j * 2 + 1, none⟩ = some (.slice xA xn xc) ∧ w'.cell? ⟨bS, oS + i * 2 + 1, none⟩ = some (.slice yA yn yc)) (first | go_keep | with_reducible exact ⟨z0, z1, z2, z3, z4, z5, z6, z7, zx, zy⟩ | with_reducible exact ⟨y0, y1, y2, y3, y4, y5, y6, y7, yx, yy⟩)
            (first
              | (go_at_call 114; with_reducible refine (hPx.out _ rx' ry').mono ?_; rintro e w6 ⟨A9, n9, c9, rfl, hFr, B6⟩; have y0 := (blk_facts (blk_below hb3' B6)).1 0; have y1 := (blk_facts (blk_below hb3' B6)).1 1; have y2 := (blk_facts (blk_below hb3' B6)).1 2; have y3 := (blk_facts (blk_below hb3' B6)).1 3; have y4 := (blk_facts (blk_below hb3' B6)).1 4; have y5 := (blk_facts (blk_below hb3' B6)).1 5; have y6 := (blk_facts (blk_below hb3' B6)).1 6; have y7 := (blk_facts (blk_below hb3' B6)).1 7; have yx := (B6.cell (p := ⟨bS, oS + j * 2 + 1, none⟩) lS').trans zx; have yy := (B6.cell (p := ⟨bS, oS + i * 2 + 1, none⟩) lS').trans zy))
          have hB6 := below_next hB4 B6
          clear hb3' z0 z1 z2 z3 z4 z5 z6 z7 zx zy y0 y1 y2 y3 y4 y5 y6 y7 yx yy B6 hPx
          go_wp2
          go_ret2
          exact ⟨A9, n9, c9, by rw [q1'.out]; rfl, by rw [q2'.out]; exact hFr, hB6⟩
end Go.Proofs.YtlddeeagnlgciaaGreatDoor
