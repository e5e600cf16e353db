/- The reference's WheresOf: swims sorted by their spots. -/
import Derived.Test.YtmnidnmdjkfhnaaGreatDoorWhereA
import Derived.Test.YtmnidnmdjkfhnaaGreatDoorLineAt
import Derived.Test.YtmnidnmdjkfhnaaGreatDoorFielded
namespace Go.Proofs.YtmnidnmdjkfhnaaGreatDoor
open Go.RowKit Go.Shelf Go.Lib Go.Sort
set_option linter.unusedVariables false

set_option maxHeartbeats 1600000 in
set_option maxRecDepth 100000 in
theorem farAtG_c (r : Race) (A : Option Addr) (n c : Nat) (l : List Int) (t : Int) (w : World) (h : RI 3 w A n l) (h0 : wholeErr r l = 0) (ht0 : 0 ≤ t) (ht1 : t ≤ 360000) :
    Calls Tryz.prog 67 #[r.val, .slice A n c, .int .i64 t] w fun e w' => e = .returned (.agg #[.int .i64 (farP r.course (r.metres * r.legs) l t).1, .int .i64 (farP r.course (r.metres * r.legs) l t).2]) ∧ Below w.heap.size w w' ∧ w.drawn ≤ w'.drawn := by
  have hsp := splits_bd (wholeErr_ok h0).1
  have hri := whole_rise h0
  obtain ⟨_, _, _, _, _, hco, hl0, hl1, hm0, hm1, _⟩ := raceErr_ok (wholeErr_ok h0).2.1
  have hn : n ≤ 240 := by rw [← h.len]; exact hsp.2.1
  have hbd := Lib.hid hsp.2.2
  have hP : Hid (farP r.course (r.metres * r.legs) l t = farGo r.course (r.metres * r.legs) t l 0 0) := Lib.hid rfl
  have hG := Lib.hid (fun k x i last (hx : l[k]? = some x) => farGo_at (c := r.course) (tot := r.metres * r.legs) (t := t) (i := i) (last := last) hx)
  have hG0 := Lib.hid (show ∀ i last, farGo r.course (r.metres * r.legs) t [] i last = (r.metres * r.legs, 1) from fun _ _ => rfl)
  obtain ⟨key, metres, stroke, course, legs, sex, young, old⟩ := r
  dsimp only [Race.val, Race.cells] at *
  obtain ⟨mt0, mt1⟩ := mul_bd (show 0 ≤ metres by omega) hm1 (show 0 ≤ legs by omega) hl1
  generalize hfP : farP course (metres * legs) l t = FP at *
  generalize hfG : farGo course (metres * legs) t = FG at *
  clear hfP hfG hsp
  have hri' := Lib.hid hri
  clear hri h0
  have hc0 : 0 ≤ course := by omega
  have hc1 : course ≤ 50 := by omega
  clear hco
  have hb := heap_alloc_new (w.alloc (.cells #[.string key, .int .i64 metres, .int .i64 stroke, .int .i64 course, .int .i64 legs, .int .i64 sex, .int .i64 young, .int .i64 old] 27)) (.cells #[.int .i64 0, .int .i64 0] 117)
  have ha := blk_alloc (heap_alloc_new w (.cells #[.string key, .int .i64 metres, .int .i64 stroke, .int .i64 course, .int .i64 legs, .int .i64 sex, .int .i64 young, .int .i64 old] 27)) (.cells #[.int .i64 0, .int .i64 0] 117)
  have hB : Below w.heap.size w ((w.alloc (.cells #[.string key, .int .i64 metres, .int .i64 stroke, .int .i64 course, .int .i64 legs, .int .i64 sex, .int .i64 young, .int .i64 old] 27)).alloc (.cells #[.int .i64 0, .int .i64 0] 117)) := ((Below.refl _ _).alloc (Nat.le_refl _) _).alloc (by simp) _
  have h2 := (h.alloc (.cells #[.string key, .int .i64 metres, .int .i64 stroke, .int .i64 course, .int .i64 legs, .int .i64 sex, .int .i64 young, .int .i64 old] 27)).alloc (.cells #[.int .i64 0, .int .i64 0] 117)
  have hD : ((w.alloc (.cells #[.string key, .int .i64 metres, .int .i64 stroke, .int .i64 course, .int .i64 legs, .int .i64 sex, .int .i64 young, .int .i64 old] 27)).alloc (.cells #[.int .i64 0, .int .i64 0] 117)).drawn = w.drawn := rfl
  obtain ⟨Z, Y⟩ := blk_facts hb
  obtain ⟨ZA, YA⟩ := blk_facts ha
  simp only [alloc_size] at Z Y ZA YA
  clear hb ha
  go_enter Tryz.func67, Tryz.ntmps67
  go_wp2_with fail
  generalize (w.alloc (.cells #[.string key, .int .i64 metres, .int .i64 stroke, .int .i64 course, .int .i64 legs, .int .i64 sex, .int .i64 young, .int .i64 old] 27)).alloc (.cells #[.int .i64 0, .int .i64 0] 117) = W at *
  go_loop [7, 12] (fun la i => ∃ (k : Nat) (last : Int), k ≤ n ∧ i = .int .i64 k ∧ la = .int .i64 last ∧ 0 ≤ last ∧ last ≤ t ∧ Hid (FG (l.drop k) k last = FP) ∧ Hid (risingF (l.drop k) last = true)) (fun _ i => n - (intOf i).toNat)
  case atStart => exact ⟨0, 0, Nat.zero_le _, rfl, rfl, by omega, ht0, Lib.hid (by rw [hP.out]; rfl), hri'⟩
  case round =>
    obtain ⟨k, last, hk, rfl, rfl, l0, l1, hF, hR⟩ := hrel
    by_cases hlt : k < n
    · obtain ⟨b, off, x, rfl, hbl, hx, c0⟩ := h2.at_ hlt
      have hxb := hbd.out x (List.mem_of_getElem? hx)
      have hS := Lib.hid (hG.out k x k last hx)
      have hRx := hR.out
      rw [rising_at hx] at hRx
      have hxl : last < x := by
        by_cases h1 : x ≤ last
        · rw [if_pos h1] at hRx; cases hRx
        · omega
      rw [if_neg (by omega)] at hRx
      have hR2 := Lib.hid hRx
      clear hx hRx
      obtain ⟨m0, m1⟩ := mul_bd (show (0 : Int) ≤ k by omega) (show (k : Int) ≤ 240 by omega) hc0 hc1
      obtain ⟨m2, m3⟩ := mul_bd m0 m1 (show 0 ≤ x - last by omega) (show x - last ≤ 360000 by omega)
      obtain ⟨m4, m5⟩ := mul_bd hc0 hc1 (show 0 ≤ t - last by omega) (show t - last ≤ 360000 by omega)
      by_cases htx : t < x
      · have hfin := Lib.hid (show FP = (k * course * (x - last) + course * (t - last), x - last) by rw [← hF.out, hS.out, if_pos htx])
        go_wp2
        refine bodyPost_ret (v := .agg #[.int .i64 (k * course * (x - last) + course * (t - last)), .int .i64 (x - last)]) (by simp [results, Tryz.results67, go_sem, Z]) rfl ⟨by rw [hfin.out], ?_⟩
        exact ⟨(hB.setCell (by simp) _).setCell (by simp) _, by simp [hD]⟩
      · have hF2 := Lib.hid (show FG (l.drop (k + 1)) ((k + 1 : Nat) : Int) x = FP by rw [← hF.out, hS.out, if_neg htx]; push_cast; rfl)
        go_wp2
        go_round
        case rel => exact ⟨k + 1, x, by omega, by go_num, rfl, by omega, by omega, hF2, hR2⟩
        case measure => simp [intOf]; omega
    · have hfin := Lib.hid (show FP = (metres * legs, 1) by rw [← hF.out, drop_end (by rw [h.len]; omega), hG0.out])
      go_wp2
      refine bodyPost_ret (v := .agg #[.int .i64 (metres * legs), .int .i64 1]) (by simp [results, Tryz.results67, go_sem, Z]) rfl ⟨by rw [hfin.out], ?_⟩
      exact ⟨(hB.setCell (by simp) _).setCell (by simp) _, by simp [hD]⟩
theorem compareSpots_c (a b c d : Int) (W : World) (ha0 : 0 ≤ a) (ha1 : a ≤ 4400000000) (hb0 : 0 ≤ b) (hb1 : b ≤ 360000) (hc0 : 0 ≤ c) (hc1 : c ≤ 4400000000) (hd0 : 0 ≤ d) (hd1 : d ≤ 360000) :
    Calls Tryz.prog 66 #[.agg #[.int .i64 a, .int .i64 b], .agg #[.int .i64 c, .int .i64 d]] W fun e w' => e = .returned (.int .i64 (Lib.compareInt (a * d) (c * b))) ∧ Below W.heap.size W w' ∧ W.drawn ≤ w'.drawn := by
  have w1 : IntKind.i64.wrap (a * d) = a * d := by have := mul_in ha0 ha1 hd0 hd1; exact IntWalk.i64_in _ (by omega)
  have w2 : IntKind.i64.wrap (c * b) = c * b := by have := mul_in hc0 hc1 hb0 hb1; exact IntWalk.i64_in _ (by omega)
  have hcon := Lib.hid (fun W' => Tryz.cmp_Compare_int (a * d) (c * b) W')
  go_enter Tryz.func66, Tryz.ntmps66
  go_wp2_with fail
  refine (hcon.out _).mono ?_; rintro e w' ⟨rfl, rfl⟩
  go_wp2
  go_ret
  exact ⟨rfl, below_box (below_box (Below.refl _ _)), by simp⟩
set_option maxHeartbeats 3200000 in
set_option maxRecDepth 100000 in
theorem swCl_c (r : Race) (t : Int) (x y : Sw) (W : World) (b3 b5 : Nat) (h3 : W.heap[b3]? = some (.cells r.cells 27 (0, 0))) (h5 : W.heap[b5]? = some (.cells #[.int .i64 t] 3 (0, 0))) (hx : RI 3 W x.A x.n x.sp) (hy : RI 3 W y.A y.n y.sp) (hx0 : wholeErr r x.sp = 0) (hy0 : wholeErr r y.sp = 0) (ht0 : 0 ≤ t) (ht1 : t ≤ 360000) :
    Calls Tryz.prog 65 (#[.agg (swE x).toArray, .agg (swE y).toArray] ++ #[.pointer (some ⟨b3, 0, none⟩), .pointer (some ⟨b5, 0, none⟩)]) W fun e w' => e = .returned (.int .i64 (swCf r t x y)) ∧ Below W.heap.size W w' ∧ W.drawn ≤ w'.drawn := by
  have hX := Lib.hid (fun W h => show Calls Tryz.prog 67 #[r.val, .slice x.A x.n x.c, .int .i64 t] W fun e w' => e = .returned (.agg #[.int .i64 (atP r t x.sp).1, .int .i64 (atP r t x.sp).2]) ∧ Below W.heap.size W w' ∧ W.drawn ≤ w'.drawn from farAtG_c r x.A x.n x.c x.sp t W h hx0 ht0 ht1)
  have hY := Lib.hid (fun W h => show Calls Tryz.prog 67 #[r.val, .slice y.A y.n y.c, .int .i64 t] W fun e w' => e = .returned (.agg #[.int .i64 (atP r t y.sp).1, .int .i64 (atP r t y.sp).2]) ∧ Below W.heap.size W w' ∧ W.drawn ≤ w'.drawn from farAtG_c r y.A y.n y.c y.sp t W h hy0 ht0 ht1)
  have bx := farP_bd hx0 ht0 ht1
  have by_ := farP_bd hy0 ht0 ht1
  have hS := Lib.hid (fun W => compareSpots_c (atP r t y.sp).1 (atP r t y.sp).2 (atP r t x.sp).1 (atP r t x.sp).2 W by_.1 by_.2.1 (Int.le_of_lt by_.2.2.1) by_.2.2.2 bx.1 bx.2.1 (Int.le_of_lt bx.2.2.1) bx.2.2.2)
  have hV : swCf r t x y = Lib.compareInt ((atP r t y.sp).1 * (atP r t x.sp).2) ((atP r t x.sp).1 * (atP r t y.sp).2) := rfl
  generalize swCf r t x y = V at *
  rw [← hV] at hS
  clear hV bx by_ hx0 hy0
  generalize atP r t x.sp = px at *
  generalize atP r t y.sp = py at *
  obtain ⟨key, metres, stroke, course, legs, sex, young, old⟩ := r
  dsimp only [Race.val, Race.cells, swE] at *
  have lt3 := lt_of_heap h3
  have lt5 := lt_of_heap h5
  have h3' := blk_alloc (blk_alloc h3 (.cells #[.string x.who, .slice x.A x.n x.c] 34)) (.cells #[.string y.who, .slice y.A y.n y.c] 34)
  have h5' := blk_alloc (blk_alloc h5 (.cells #[.string x.who, .slice x.A x.n x.c] 34)) (.cells #[.string y.who, .slice y.A y.n y.c] 34)
  have hbx := blk_alloc (heap_alloc_new W (.cells #[.string x.who, .slice x.A x.n x.c] 34)) (.cells #[.string y.who, .slice y.A y.n y.c] 34)
  have hby := heap_alloc_new (W.alloc (.cells #[.string x.who, .slice x.A x.n x.c] 34)) (.cells #[.string y.who, .slice y.A y.n y.c] 34)
  rw [alloc_size] at hby
  have hIx := (hx.alloc (.cells #[.string x.who, .slice x.A x.n x.c] 34)).alloc (.cells #[.string y.who, .slice y.A y.n y.c] 34)
  have hIy := (hy.alloc (.cells #[.string x.who, .slice x.A x.n x.c] 34)).alloc (.cells #[.string y.who, .slice y.A y.n y.c] 34)
  have hB2 := (below_new W (.cells #[.string x.who, .slice x.A x.n x.c] 34)).trans ((below_new (W.alloc (.cells #[.string x.who, .slice x.A x.n x.c] 34)) (.cells #[.string y.who, .slice y.A y.n y.c] 34)).mono (by simp))
  have hD2 : ((W.alloc (.cells #[.string x.who, .slice x.A x.n x.c] 34)).alloc (.cells #[.string y.who, .slice y.A y.n y.c] 34)).drawn = W.drawn := rfl
  go_enter Tryz.func65, Tryz.ntmps65
  go_wp2_with fail
  generalize (W.alloc (.cells #[.string x.who, .slice x.A x.n x.c] 34)).alloc (.cells #[.string y.who, .slice y.A y.n y.c] 34) = w5 at *
  generalize hbd : W.heap.size = bx at *
  have z0 := (blk_facts h3').1 0
  have z1 := (blk_facts h3').1 1
  have z2 := (blk_facts h3').1 2
  have z3 := (blk_facts h3').1 3
  have z4 := (blk_facts h3').1 4
  have z5 := (blk_facts h3').1 5
  have z6 := (blk_facts h3').1 6
  have z7 := (blk_facts h3').1 7
  have z8 := (blk_facts h5').1 0
  have z9 := (blk_facts hbx).1 1
  have z10 := (blk_facts hby).1 1
  have l3 : b3 < w5.drew.heap.size := lt_of_heap (w := w5.drew) h3'
  have l5 : b5 < w5.drew.heap.size := lt_of_heap (w := w5.drew) h5'
  have lx : bx < w5.drew.heap.size := lt_of_heap (w := w5.drew) hbx
  have ly : bx + 1 < w5.drew.heap.size := lt_of_heap (w := w5.drew) hby
  have d0 : w5.drew.cell? ⟨b3, 0, none⟩ = some (.string key) := by rw [World.cell?_drew]; exact z0
  have d1 : w5.drew.cell? ⟨b3, 1, none⟩ = some (.int .i64 metres) := by rw [World.cell?_drew]; exact z1
  have d2 : w5.drew.cell? ⟨b3, 2, none⟩ = some (.int .i64 stroke) := by rw [World.cell?_drew]; exact z2
  have d3 : w5.drew.cell? ⟨b3, 3, none⟩ = some (.int .i64 course) := by rw [World.cell?_drew]; exact z3
  have d4 : w5.drew.cell? ⟨b3, 4, none⟩ = some (.int .i64 legs) := by rw [World.cell?_drew]; exact z4
  have d5 : w5.drew.cell? ⟨b3, 5, none⟩ = some (.int .i64 sex) := by rw [World.cell?_drew]; exact z5
  have d6 : w5.drew.cell? ⟨b3, 6, none⟩ = some (.int .i64 young) := by rw [World.cell?_drew]; exact z6
  have d7 : w5.drew.cell? ⟨b3, 7, none⟩ = some (.int .i64 old) := by rw [World.cell?_drew]; exact z7
  have d8 : w5.drew.cell? ⟨b5, 0, none⟩ = some (.int .i64 t) := by rw [World.cell?_drew]; exact z8
  have d9 : w5.drew.cell? ⟨bx, 1, none⟩ = some (.slice x.A x.n x.c) := by rw [World.cell?_drew]; exact z9
  have d10 : w5.drew.cell? ⟨bx + 1, 1, none⟩ = some (.slice y.A y.n y.c) := by rw [World.cell?_drew]; exact z10
  clear h3 h5 hx hy h3' h5' hbx hby
  go_region_held3 (fun w' => w'.cell? ⟨b3, 0, none⟩ = some (.string key) ∧ w'.cell? ⟨b3, 1, none⟩ = some (.int .i64 metres) ∧ w'.cell? ⟨b3, 2, none⟩ = some (.int .i64 stroke) ∧ w'.cell? ⟨b3, 3, none⟩ = some (.int .i64 course) ∧ w'.cell? ⟨b3, 4, none⟩ = some (.int .i64 legs) ∧ w'.cell? ⟨b3, 5, none⟩ = some (.int .i64 sex) ∧ w'.cell? ⟨b3, 6, none⟩ = some (.int .i64 young) ∧ w'.cell? ⟨b3, 7, none⟩ = some (.int .i64 old) ∧ w'.cell? ⟨b5, 0, none⟩ = some (.int .i64 t) ∧ w'.cell? ⟨bx, 1, none⟩ = some (.slice x.A x.n x.c) ∧ w'.cell? ⟨bx + 1, 1, none⟩ = some (.slice y.A y.n y.c))
    (first
      | go_keep
      | with_reducible exact ⟨z0, z1, z2, z3, z4, z5, z6, z7, z8, z9, z10⟩
      | with_reducible exact ⟨y0, y1, y2, y3, y4, y5, y6, y7, y8, y9, y10⟩
      | with_reducible exact ⟨p0, p1, p2, p3, p4, p5, p6, p7, p8, p9, p10⟩
      | with_reducible exact ⟨q0, q1, q2, q3, q4, q5, q6, q7, q8, q9, q10⟩
    )
    (first
      | (go_at_call 67; with_reducible refine (hY.out _ hIy.drew).mono ?_; rintro e w6 ⟨rfl, B6, D6⟩; obtain ⟨hc6, hf6⟩ := bcell B6; have k6 := B6.size; have y0 := (hc6 b3 0 l3).trans d0; have y1 := (hc6 b3 1 l3).trans d1; have y2 := (hc6 b3 2 l3).trans d2; have y3 := (hc6 b3 3 l3).trans d3; have y4 := (hc6 b3 4 l3).trans d4; have y5 := (hc6 b3 5 l3).trans d5; have y6 := (hc6 b3 6 l3).trans d6; have y7 := (hc6 b3 7 l3).trans d7; have y8 := (hc6 b5 0 l5).trans d8; have y9 := (hc6 bx 1 lx).trans d9; have y10 := (hc6 (bx + 1) 1 ly).trans d10; have hIx6 := hIx.drew.below B6)
      | (go_at_call 67; with_reducible refine (hX.out _ hIx6).mono ?_; rintro e w7 ⟨rfl, B7, D7⟩; obtain ⟨hc7, hf7⟩ := bcell B7; have k7 := B7.size; have p0 := (hc7 b3 0 (Nat.lt_of_lt_of_le l3 k6)).trans y0; have p1 := (hc7 b3 1 (Nat.lt_of_lt_of_le l3 k6)).trans y1; have p2 := (hc7 b3 2 (Nat.lt_of_lt_of_le l3 k6)).trans y2; have p3 := (hc7 b3 3 (Nat.lt_of_lt_of_le l3 k6)).trans y3; have p4 := (hc7 b3 4 (Nat.lt_of_lt_of_le l3 k6)).trans y4; have p5 := (hc7 b3 5 (Nat.lt_of_lt_of_le l3 k6)).trans y5; have p6 := (hc7 b3 6 (Nat.lt_of_lt_of_le l3 k6)).trans y6; have p7 := (hc7 b3 7 (Nat.lt_of_lt_of_le l3 k6)).trans y7; have p8 := (hc7 b5 0 (Nat.lt_of_lt_of_le l5 k6)).trans y8; have p9 := (hc7 bx 1 (Nat.lt_of_lt_of_le lx k6)).trans y9; have p10 := (hc7 (bx + 1) 1 (Nat.lt_of_lt_of_le ly k6)).trans y10)
      | (go_at_call 66; with_reducible refine (hS.out _).mono ?_; rintro e w8 ⟨rfl, B8, D8⟩; obtain ⟨hc8, hf8⟩ := bcell B8; have q0 := (hc8 b3 0 (Nat.lt_of_lt_of_le (Nat.lt_of_lt_of_le l3 k6) k7)).trans p0; have q1 := (hc8 b3 1 (Nat.lt_of_lt_of_le (Nat.lt_of_lt_of_le l3 k6) k7)).trans p1; have q2 := (hc8 b3 2 (Nat.lt_of_lt_of_le (Nat.lt_of_lt_of_le l3 k6) k7)).trans p2; have q3 := (hc8 b3 3 (Nat.lt_of_lt_of_le (Nat.lt_of_lt_of_le l3 k6) k7)).trans p3; have q4 := (hc8 b3 4 (Nat.lt_of_lt_of_le (Nat.lt_of_lt_of_le l3 k6) k7)).trans p4; have q5 := (hc8 b3 5 (Nat.lt_of_lt_of_le (Nat.lt_of_lt_of_le l3 k6) k7)).trans p5; have q6 := (hc8 b3 6 (Nat.lt_of_lt_of_le (Nat.lt_of_lt_of_le l3 k6) k7)).trans p6; have q7 := (hc8 b3 7 (Nat.lt_of_lt_of_le (Nat.lt_of_lt_of_le l3 k6) k7)).trans p7; have q8 := (hc8 b5 0 (Nat.lt_of_lt_of_le (Nat.lt_of_lt_of_le l5 k6) k7)).trans p8; have q9 := (hc8 bx 1 (Nat.lt_of_lt_of_le (Nat.lt_of_lt_of_le lx k6) k7)).trans p9; have q10 := (hc8 (bx + 1) 1 (Nat.lt_of_lt_of_le (Nat.lt_of_lt_of_le ly k6) k7)).trans p10))
  have hBz := below_next (below_next (below_next (below_drewN (hbd ▸ hB2) 1) B6) B7) B8
  rw [World.drawn_drew] at D6
  have hDz : W.drawn ≤ w8.drawn := by omega
  clear d0 d1 d2 d3 d4 d5 d6 d7 d8 d9 d10 z0 z1 z2 z3 z4 z5 z6 z7 z8 z9 z10 y0 y1 y2 y3 y4 y5 y6 y7 y8 y9 y10 p0 p1 p2 p3 p4 p5 p6 p7 p8 p9 p10 q0 q1 q2 q3 q4 q5 q6 q7 q8 q9 q10 hc6 hc7 hc8 hf6 hf7 hf8
  go_wp2
  go_ret
  exact ⟨rfl, hBz, hDz⟩
theorem flat_get {α : Type} {enc : α → List Value} {size : Nat} (hs : ∀ x, (enc x).length = size) (hp : 0 < size) {l : List α} {j : Nat} {u : Value} (h : (l.flatMap enc)[j]? = some u) : ∃ x, l[j / size]? = some x ∧ (enc x)[j % size]? = some u := by
  have hlt := (List.getElem?_eq_some_iff.mp h).1
  rw [flat_len hs] at hlt
  obtain ⟨x, hx⟩ := at_of_lt (l := l) (k := j / size) (by rw [Nat.div_lt_iff_lt_mul hp]; exact hlt)
  obtain ⟨v, hv⟩ := at_of_lt (l := enc x) (k := j % size) (by rw [hs]; exact Nat.mod_lt _ hp)
  have h2 := flat_at hs l (j / size) x (j % size) v hx hv
  rw [show j / size * size + j % size = j by rw [Nat.mul_comm]; exact Nat.div_add_mod j size, h] at h2
  exact ⟨x, hx, by rw [hv, h2]⟩
theorem RN.flat {α : Type} {enc : α → List Value} {size : Nat} (hs : ∀ x, (enc x).length = size) (hp : 0 < size) {e : TypeId} {w : World} {b off n : Nat} {l : List α} (h : RN size enc e w (some ⟨b, off, none⟩) n l) {j : Nat} {u : Value} (hj : (l.flatMap enc)[j]? = some u) : w.cell? ⟨b, off + j, none⟩ = some u := by
  obtain ⟨x, hx, hu⟩ := flat_get hs hp hj
  obtain ⟨b', off', x', hA, _, hx', hc⟩ := h.at_ (h.mem_at hx)
  injection hA with hA
  injection hA with e1 e2 _
  subst e1 e2
  rw [hx] at hx'
  injection hx' with hx'
  subst hx'
  have := hc _ _ hu
  rw [show off + j / size * size + j % size = off + j by rw [Nat.add_assoc, Nat.mul_comm, Nat.div_add_mod]] at this
  exact this
/-- slices.Clone of swims -/
theorem swClone_c (A : Option Addr) (n c : Nat) (l : List Sw) (w : World) (h : RN 2 swE 34 w A n l) (hn : n ≤ 1000) :
    Calls Tryz.prog 63 #[.slice A n c] w fun e w' => ∃ A' c', e = .returned (.slice A' n c') ∧ w'.ownsRow w.heap.size 34 2 (.slice A' n c') n (l.flatMap swE) ∧ Below w.heap.size w w' := by
  have hl := h.len
  rcases A with _ | ad
  · have h0 : n = 0 := by
      rcases Nat.eq_zero_or_pos n with h0 | hp
      · exact h0
      · obtain ⟨b, off, x, e, _⟩ := h.at_ (k := 0) hp
        cases e
    subst h0
    obtain rfl : l = [] := List.eq_nil_of_length_eq_zero hl
    exact (AnyE.slices_Clone_nil Tryz.laysCS 0 c w).mono fun _ _ ⟨he, hw⟩ => ⟨none, 0, he, by rw [hw]; exact World.ownsRow_nil _ _ _ _, by rw [hw]; exact Below.refl _ _⟩
  · obtain ⟨i0, hi, hz0, hz1, hz2⟩ := info_parts info_swim
    rcases Nat.eq_zero_or_pos n with h0 | hp
    · subst h0
      obtain rfl : l = [] := List.eq_nil_of_length_eq_zero hl
      have hown0 : (w.alloc (.cells #[] 34)).ownsRow w.heap.size 34 2 (.slice (some ⟨w.heap.size, 0, none⟩) 0 0) 0 [] := by simpa using World.ownsRow_made w #[] 0 (Nat.le_refl _) (Nat.zero_le _) (by simp) (e := 34) (size := 2)
      have q22 : ∀ (w : World) (a : Option Addr) (n c n' c' : Nat), (binOp .eql 29 (.slice a n c) (.slice none n' c')).run Tryz.prog w = .ok (.bool a.isNone) w := fun w a n c n' c' => Lib.run_eql_slice_nil w _ _ a n c n' c' Tryz.underlying29
      go_enter Tryz.func63, Tryz.ntmps63
      go_wp2_with (at_builtin; refine wpList_append_own _ rfl _ _ 29 rfl w.heap.size 34 i0 _ 2 40 Tryz.underlying29 hi hz0 hz1 hz2 rfl (by decide) _ _ _ rfl hown0 ad 0 c [] rfl rfl (by intro j u hj; simp at hj) (by intro u hu; cases hu) (by unfold maxLen; omega) (by omega) (by simp) ?_)
      intro v' w1 hown hgrow hnil
      obtain ⟨A', c', rfl⟩ := own_shape hown
      go_wp2
      go_ret
      exact ⟨A', c', rfl, by simpa using hown, ((Below.refl _ w).alloc (Nat.le_refl _) _).grown hgrow (by simp) (by intro k hk; simp [Value.ownBlock] at hk; omega)⟩
    · obtain ⟨b, off, x0, hA, _, _⟩ := h.at_ (k := 0) hp
      injection hA with hA
      subst hA
      refine (AnyE.slices_Clone Tryz.laysCS i0 _ 2 40 hi hz0 hz1 hz2 rfl (by decide) Tryz.sizeOf34 b off n c (l.flatMap swE) w ?_ ?_ ?_ ?_ ?_).mono fun _ _ ⟨v, he, ho, _, hB⟩ => ?_
      · rw [flat_len swE_len, hl]
      · unfold maxLen; omega
      · omega
      · intro j u hj
        exact h.flat swE_len (by decide) hj
      · intro u hu
        obtain ⟨y, hy, hu2⟩ := List.mem_flatMap.1 hu
        simp [swE] at hu2
        rcases hu2 with rfl | rfl <;> rfl
      · obtain ⟨A', c', rfl⟩ := own_shape ho
        exact ⟨A', c', he, ho, hB⟩
end Go.Proofs.YtmnidnmdjkfhnaaGreatDoor
