import Derived.Test.YtlddeeagnlgciaaGreatDoorTurns
import Derived.Test.YtlddeeagnlgciaaGreatDoorFadeR
import Derived.BigGuardPart
/- The reference's FarOf; LineAt's errors. -/
namespace Go.Proofs.YtlddeeagnlgciaaGreatDoor
open Go.RowKit
set_option linter.unusedVariables false

set_option maxHeartbeats 1600000 in
set_option maxRecDepth 100000 in
theorem farAt_c (r : Race) (A : Option Addr) (n c : Nat) (l : List Int) (t : Int) (w : World) (h : RI 3 w A n l) (h0 : wholeErr r l = 0) (ht0 : 0 ≤ t) (ht1 : t ≤ 360000) :
    Calls Tryz.prog 117 #[r.val, .slice A n c, .int .i64 t] w fun e w' => e = .returned (.agg #[.int .i64 (farP r.course (r.metres * r.legs) l t).1, .int .i64 (farP r.course (r.metres * r.legs) l t).2]) ∧ Below w.heap.size w w' := by
  have hsp := splits_bd (wholeErr_ok h0).1
  have hri := whole_rise h0
  obtain ⟨_, _, _, _, _, hco, hl0, hl1, hm0, hm1, _⟩ := raceErr_ok (wholeErr_ok h0).2.1
  have hn : n ≤ 240 := by rw [← h.len]; exact hsp.2.1
  have hbd := Lib.hid hsp.2.2
  have hP : Hid (farP r.course (r.metres * r.legs) l t = farGo r.course (r.metres * r.legs) t l 0 0) := Lib.hid rfl
  have hG := Lib.hid (fun k x i last (hx : l[k]? = some x) => farGo_at (c := r.course) (tot := r.metres * r.legs) (t := t) (i := i) (last := last) hx)
  have hG0 := Lib.hid (show ∀ i last, farGo r.course (r.metres * r.legs) t [] i last = (r.metres * r.legs, 1) from fun _ _ => rfl)
  obtain ⟨key, metres, stroke, course, legs, sex, young, old⟩ := r
  dsimp only [Race.val, Race.cells] at *
  obtain ⟨mt0, mt1⟩ := mul_bd (show 0 ≤ metres by omega) hm1 (show 0 ≤ legs by omega) hl1
  generalize hfP : farP course (metres * legs) l t = FP at *
  generalize hfG : farGo course (metres * legs) t = FG at *
  clear hfP hfG hsp
  have hri' := Lib.hid hri
  clear hri h0
  have hc0 : 0 ≤ course := by omega
  have hc1 : course ≤ 50 := by omega
  clear hco
  have hb := heap_alloc_new (w.alloc (.cells #[.string key, .int .i64 metres, .int .i64 stroke, .int .i64 course, .int .i64 legs, .int .i64 sex, .int .i64 young, .int .i64 old] 27)) (.cells #[.int .i64 0, .int .i64 0] 163)
  have ha := blk_alloc (heap_alloc_new w (.cells #[.string key, .int .i64 metres, .int .i64 stroke, .int .i64 course, .int .i64 legs, .int .i64 sex, .int .i64 young, .int .i64 old] 27)) (.cells #[.int .i64 0, .int .i64 0] 163)
  have hB : Below w.heap.size w ((w.alloc (.cells #[.string key, .int .i64 metres, .int .i64 stroke, .int .i64 course, .int .i64 legs, .int .i64 sex, .int .i64 young, .int .i64 old] 27)).alloc (.cells #[.int .i64 0, .int .i64 0] 163)) := ((Below.refl _ _).alloc (Nat.le_refl _) _).alloc (by simp) _
  have h2 := (h.alloc (.cells #[.string key, .int .i64 metres, .int .i64 stroke, .int .i64 course, .int .i64 legs, .int .i64 sex, .int .i64 young, .int .i64 old] 27)).alloc (.cells #[.int .i64 0, .int .i64 0] 163)
  obtain ⟨Z, Y⟩ := blk_facts hb
  obtain ⟨ZA, YA⟩ := blk_facts ha
  simp only [alloc_size] at Z Y ZA YA
  clear hb ha
  go_enter Tryz.func117, Tryz.ntmps117
  go_wp2_with fail
  generalize (w.alloc (.cells #[.string key, .int .i64 metres, .int .i64 stroke, .int .i64 course, .int .i64 legs, .int .i64 sex, .int .i64 young, .int .i64 old] 27)).alloc (.cells #[.int .i64 0, .int .i64 0] 163) = W at *
  go_loop [7, 12] (fun la i => ∃ (k : Nat) (last : Int), k ≤ n ∧ i = .int .i64 k ∧ la = .int .i64 last ∧ 0 ≤ last ∧ last ≤ t ∧ Hid (FG (l.drop k) k last = FP) ∧ Hid (risingF (l.drop k) last = true)) (fun _ i => n - (intOf i).toNat)
  case atStart => exact ⟨0, 0, Nat.zero_le _, rfl, rfl, by omega, ht0, Lib.hid (by rw [hP.out]; rfl), hri'⟩
  case round =>
    obtain ⟨k, last, hk, rfl, rfl, l0, l1, hF, hR⟩ := hrel
    by_cases hlt : k < n
    · obtain ⟨b, off, x, rfl, hbl, hx, c0⟩ := h2.at_ hlt
      have hxb := hbd.out x (List.mem_of_getElem? hx)
      have hS := Lib.hid (hG.out k x k last hx)
      have hRx := hR.out
      rw [rising_at hx] at hRx
      have hxl : last < x := by
        by_cases h1 : x ≤ last
        · rw [if_pos h1] at hRx; cases hRx
        · omega
      rw [if_neg (by omega)] at hRx
      have hR2 := Lib.hid hRx
      clear hx hRx
      obtain ⟨m0, m1⟩ := mul_bd (show (0 : Int) ≤ k by omega) (show (k : Int) ≤ 240 by omega) hc0 hc1
      obtain ⟨m2, m3⟩ := mul_bd m0 m1 (show 0 ≤ x - last by omega) (show x - last ≤ 360000 by omega)
      obtain ⟨m4, m5⟩ := mul_bd hc0 hc1 (show 0 ≤ t - last by omega) (show t - last ≤ 360000 by omega)
      by_cases htx : t < x
      · have hfin := Lib.hid (show FP = (k * course * (x - last) + course * (t - last), x - last) by rw [← hF.out, hS.out, if_pos htx])
        go_wp2
        refine bodyPost_ret (v := .agg #[.int .i64 (k * course * (x - last) + course * (t - last)), .int .i64 (x - last)]) (by simp [results, Tryz.results117, go_sem, Z]) rfl ⟨by rw [hfin.out], ?_⟩
        exact (hB.setCell (by simp) _).setCell (by simp) _
      · have hF2 := Lib.hid (show FG (l.drop (k + 1)) ((k + 1 : Nat) : Int) x = FP by rw [← hF.out, hS.out, if_neg htx]; push_cast; rfl)
        go_wp2
        go_round
        case rel => exact ⟨k + 1, x, by omega, by go_num, rfl, by omega, by omega, hF2, hR2⟩
        case measure => simp [intOf]; omega
    · have hfin := Lib.hid (show FP = (metres * legs, 1) by rw [← hF.out, drop_end (by rw [h.len]; omega), hG0.out])
      go_wp2
      refine bodyPost_ret (v := .agg #[.int .i64 (metres * legs), .int .i64 1]) (by simp [results, Tryz.results117, go_sem, Z]) rfl ⟨by rw [hfin.out], ?_⟩
      exact (hB.setCell (by simp) _).setCell (by simp) _
end Go.Proofs.YtlddeeagnlgciaaGreatDoor

/- LineAt whole: errors and value in one contract. -/
namespace Go.Proofs.YtlddeeagnlgciaaGreatDoor
open Go.RowKit
set_option linter.unusedVariables false

def lineE (r : Race) (l : List Int) (t : Int) : Int := if wholeErr r l = 0 then (if 0 ≤ t ∧ t ≤ 360000 then 0 else 1) else wholeErr r l
def lineN (r : Race) (l : List Int) (t : Int) : Int := if lineE r l t = 0 then fracN (farP r.course (r.metres * r.legs) l t).1 (farP r.course (r.metres * r.legs) l t).2 else 0
def lineD (r : Race) (l : List Int) (t : Int) : Int := if lineE r l t = 0 then fracD (farP r.course (r.metres * r.legs) l t).1 (farP r.course (r.metres * r.legs) l t).2 else 0
theorem lineE_ok {r : Race} {l : List Int} {t : Int} (h : lineE r l t = 0) : wholeErr r l = 0 ∧ 0 ≤ t ∧ t ≤ 360000 := by
  unfold lineE at h; split at h
  · rename_i h1; split at h
    · rename_i h2; exact ⟨h1, h2.1, h2.2⟩
    · cases h
  · rename_i h1; exact absurd h h1
set_option maxHeartbeats 1600000 in
set_option maxRecDepth 100000 in
theorem lineAt_err (r : Race) (A : Option Addr) (n c : Nat) (l : List Int) (t : Int) (w : World) (h : RI 3 w A n l) (hE : lineE r l t ≠ 0) :
    Calls Tryz.prog 119 #[r.val, .slice A n c, .int .i64 t] w fun e w' => e = .returned (.tuple #[.agg #[.int .i64 0, .int .i64 0], .int .i64 (lineE r l t)]) ∧ Below w.heap.size w w' := by
  have Hs := fun W h => checkWhole_c r A n c l W h
  unfold lineE at *
  generalize wholeErr r l = E at *
  have Hs' := Lib.hid Hs
  clear Hs
  obtain ⟨key, metres, stroke, course, legs, sex, young, old⟩ := r
  dsimp only [Race.val, Race.cells] at *
  have hb0 := heap_alloc_new (w.alloc (.cells #[.string key, .int .i64 metres, .int .i64 stroke, .int .i64 course, .int .i64 legs, .int .i64 sex, .int .i64 young, .int .i64 old] 27)) (.cells #[.int .i64 0, .int .i64 0] 86)
  by_cases h1 : E = 0
  · subst h1
    have h2 : ¬ (0 ≤ t ∧ t ≤ 360000) := by intro h2; simp [h2] at hE
    have hR := Lib.hid (show (if (0 : Int) = 0 then (if 0 ≤ t ∧ t ≤ 360000 then (0 : Int) else 1) else 0) = 1 by rw [if_pos rfl, if_neg h2])
    have hd : decide (0 ≤ t ∧ t ≤ 360000) = false := decide_eq_false h2
    rw [hR.out]
    clear hE hR h2
    go_enter Tryz.func119, Tryz.ntmps119
    go_wp2_with fail
    refine (Hs'.out _ ((h.alloc _).alloc _)).mono ?_; rintro e w1 ⟨rfl, B1⟩
    have hb1 := blk_below hb0 B1
    go_wp2_with fail
    refine (within_c _ _ _ _).mono ?_; rintro e w' ⟨rfl, rfl⟩
    obtain ⟨Z, Y⟩ := blk_facts hb1
    simp only [alloc_size] at Z Y
    have B := below_box (below_box B1)
    clear hb0 hb1 B1
    rw [hd]
    go_wp2
    refine bodyPost_ret (v := .tuple #[.agg #[.int .i64 0, .int .i64 0], .int .i64 1]) (by simp [results, Tryz.results119, go_sem, Z]) rfl ⟨rfl, ?_⟩
    exact (B.setCell (by simp) _).setCell (by simp) _
  · have hR := Lib.hid (show (if E = 0 then (if 0 ≤ t ∧ t ≤ 360000 then (0 : Int) else 1) else E) = E by rw [if_neg h1])
    rw [hR.out]
    clear hE hR
    go_enter Tryz.func119, Tryz.ntmps119
    go_wp2_with fail
    refine (Hs'.out _ ((h.alloc _).alloc _)).mono ?_; rintro e w1 ⟨rfl, B1⟩
    have hb1 := blk_below hb0 B1
    obtain ⟨Z, Y⟩ := blk_facts hb1
    simp only [alloc_size] at Z Y
    have B := below_box (below_box B1)
    clear hb0 hb1 B1
    have hne : (E != 0) = true := by simpa using h1
    have hbe := beq_eq_false_iff_ne.2 h1
    go_wp2
    refine bodyPost_ret (v := .tuple #[.agg #[.int .i64 0, .int .i64 0], .int .i64 E]) (by simp [results, Tryz.results119, go_sem, Z]) rfl ⟨rfl, ?_⟩
    exact (B.setCell (by simp) _).setCell (by simp) _
theorem lineAtA_c (r : Race) (A : Option Addr) (n c : Nat) (l : List Int) (t : Int) (w : World) (h : RI 3 w A n l) :
    Calls Tryz.prog 119 #[r.val, .slice A n c, .int .i64 t] w fun e w' => e = .returned (.tuple #[.agg #[.int .i64 (lineN r l t), .int .i64 (lineD r l t)], .int .i64 (lineE r l t)]) ∧ Below w.heap.size w w' := by
  by_cases h0 : lineE r l t = 0
  · obtain ⟨h1, h2, h3⟩ := lineE_ok h0
    have := lineAt_c r A n c l t w h h1 h2 h3
    unfold lineN lineD
    rw [h0, if_pos rfl, if_pos rfl]
    exact this
  · have := lineAt_err r A n c l t w h h0
    unfold lineN lineD
    rw [if_neg h0, if_neg h0]
    exact this
end Go.Proofs.YtlddeeagnlgciaaGreatDoor
