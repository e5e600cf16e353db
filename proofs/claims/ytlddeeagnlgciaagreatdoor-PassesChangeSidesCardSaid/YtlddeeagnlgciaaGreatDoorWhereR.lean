/- The reference's WheresOf: swims sorted by their spots. -/
import Derived.Test.YtlddeeagnlgciaaGreatDoorWhereA
import Derived.Test.YtlddeeagnlgciaaGreatDoorLineAt
import Derived.Test.YtlddeeagnlgciaaGreatDoorFielded
namespace Go.Proofs.YtlddeeagnlgciaaGreatDoor
open Go.RowKit Go.Shelf Go.Lib Go.Sort
set_option linter.unusedVariables false

set_option maxHeartbeats 1600000 in
set_option maxRecDepth 100000 in
theorem farAtG_c (r : Race) (A : Option Addr) (n c : Nat) (l : List Int) (t : Int) (w : World) (h : RI 3 w A n l) (h0 : wholeErr r l = 0) (ht0 : 0 ≤ t) (ht1 : t ≤ 360000) :
    Calls Tryz.prog 117 #[r.val, .slice A n c, .int .i64 t] w fun e w' => e = .returned (.agg #[.int .i64 (farP r.course (r.metres * r.legs) l t).1, .int .i64 (farP r.course (r.metres * r.legs) l t).2]) ∧ Below w.heap.size w w' ∧ w.drawn ≤ w'.drawn := by
  have hsp := splits_bd (wholeErr_ok h0).1
  have hri := whole_rise h0
  obtain ⟨_, _, _, _, _, hco, hl0, hl1, hm0, hm1, _⟩ := raceErr_ok (wholeErr_ok h0).2.1
  have hn : n ≤ 240 := by rw [← h.len]; exact hsp.2.1
  have hbd := Lib.hid hsp.2.2
  have hP : Hid (farP r.course (r.metres * r.legs) l t = farGo r.course (r.metres * r.legs) t l 0 0) := Lib.hid rfl
  have hG := Lib.hid (fun k x i last (hx : l[k]? = some x) => farGo_at (c := r.course) (tot := r.metres * r.legs) (t := t) (i := i) (last := last) hx)
  have hG0 := Lib.hid (show ∀ i last, farGo r.course (r.metres * r.legs) t [] i last = (r.metres * r.legs, 1) from fun _ _ => rfl)
  obtain ⟨key, metres, stroke, course, legs, sex, young, old⟩ := r
  dsimp only [Race.val, Race.cells] at *
  obtain ⟨mt0, mt1⟩ := mul_bd (show 0 ≤ metres by omega) hm1 (show 0 ≤ legs by omega) hl1
  generalize hfP : farP course (metres * legs) l t = FP at *
  generalize hfG : farGo course (metres * legs) t = FG at *
  clear hfP hfG hsp
  have hri' := Lib.hid hri
  clear hri h0
  have hc0 : 0 ≤ course := by omega
  have hc1 : course ≤ 50 := by omega
  clear hco
  have hb := heap_alloc_new (w.alloc (.cells #[.string key, .int .i64 metres, .int .i64 stroke, .int .i64 course, .int .i64 legs, .int .i64 sex, .int .i64 young, .int .i64 old] 27)) (.cells #[.int .i64 0, .int .i64 0] 163)
  have ha := blk_alloc (heap_alloc_new w (.cells #[.string key, .int .i64 metres, .int .i64 stroke, .int .i64 course, .int .i64 legs, .int .i64 sex, .int .i64 young, .int .i64 old] 27)) (.cells #[.int .i64 0, .int .i64 0] 163)
  have hB : Below w.heap.size w ((w.alloc (.cells #[.string key, .int .i64 metres, .int .i64 stroke, .int .i64 course, .int .i64 legs, .int .i64 sex, .int .i64 young, .int .i64 old] 27)).alloc (.cells #[.int .i64 0, .int .i64 0] 163)) := ((Below.refl _ _).alloc (Nat.le_refl _) _).alloc (by simp) _
  have h2 := (h.alloc (.cells #[.string key, .int .i64 metres, .int .i64 stroke, .int .i64 course, .int .i64 legs, .int .i64 sex, .int .i64 young, .int .i64 old] 27)).alloc (.cells #[.int .i64 0, .int .i64 0] 163)
  have hD : ((w.alloc (.cells #[.string key, .int .i64 metres, .int .i64 stroke, .int .i64 course, .int .i64 legs, .int .i64 sex, .int .i64 young, .int .i64 old] 27)).alloc (.cells #[.int .i64 0, .int .i64 0] 163)).drawn = w.drawn := rfl
  obtain ⟨Z, Y⟩ := blk_facts hb
  obtain ⟨ZA, YA⟩ := blk_facts ha
  simp only [alloc_size] at Z Y ZA YA
  clear hb ha
  go_enter Tryz.func117, Tryz.ntmps117
  go_wp2_with fail
  generalize (w.alloc (.cells #[.string key, .int .i64 metres, .int .i64 stroke, .int .i64 course, .int .i64 legs, .int .i64 sex, .int .i64 young, .int .i64 old] 27)).alloc (.cells #[.int .i64 0, .int .i64 0] 163) = W at *
  go_loop [7, 12] (fun la i => ∃ (k : Nat) (last : Int), k ≤ n ∧ i = .int .i64 k ∧ la = .int .i64 last ∧ 0 ≤ last ∧ last ≤ t ∧ Hid (FG (l.drop k) k last = FP) ∧ Hid (risingF (l.drop k) last = true)) (fun _ i => n - (intOf i).toNat)
  case atStart => exact ⟨0, 0, Nat.zero_le _, rfl, rfl, by omega, ht0, Lib.hid (by rw [hP.out]; rfl), hri'⟩
  case round =>
    obtain ⟨k, last, hk, rfl, rfl, l0, l1, hF, hR⟩ := hrel
    by_cases hlt : k < n
    · obtain ⟨b, off, x, rfl, hbl, hx, c0⟩ := h2.at_ hlt
      have hxb := hbd.out x (List.mem_of_getElem? hx)
      have hS := Lib.hid (hG.out k x k last hx)
      have hRx := hR.out
      rw [rising_at hx] at hRx
      have hxl : last < x := by
        by_cases h1 : x ≤ last
        · rw [if_pos h1] at hRx; cases hRx
        · omega
      rw [if_neg (by omega)] at hRx
      have hR2 := Lib.hid hRx
      clear hx hRx
      obtain ⟨m0, m1⟩ := mul_bd (show (0 : Int) ≤ k by omega) (show (k : Int) ≤ 240 by omega) hc0 hc1
      obtain ⟨m2, m3⟩ := mul_bd m0 m1 (show 0 ≤ x - last by omega) (show x - last ≤ 360000 by omega)
      obtain ⟨m4, m5⟩ := mul_bd hc0 hc1 (show 0 ≤ t - last by omega) (show t - last ≤ 360000 by omega)
      by_cases htx : t < x
      · have hfin := Lib.hid (show FP = (k * course * (x - last) + course * (t - last), x - last) by rw [← hF.out, hS.out, if_pos htx])
        go_wp2
        refine bodyPost_ret (v := .agg #[.int .i64 (k * course * (x - last) + course * (t - last)), .int .i64 (x - last)]) (by simp [results, Tryz.results117, go_sem, Z]) rfl ⟨by rw [hfin.out], ?_⟩
        exact ⟨(hB.setCell (by simp) _).setCell (by simp) _, by simp [hD]⟩
      · have hF2 := Lib.hid (show FG (l.drop (k + 1)) ((k + 1 : Nat) : Int) x = FP by rw [← hF.out, hS.out, if_neg htx]; push_cast; rfl)
        go_wp2
        go_round
        case rel => exact ⟨k + 1, x, by omega, by go_num, rfl, by omega, by omega, hF2, hR2⟩
        case measure => simp [intOf]; omega
    · have hfin := Lib.hid (show FP = (metres * legs, 1) by rw [← hF.out, drop_end (by rw [h.len]; omega), hG0.out])
      go_wp2
      refine bodyPost_ret (v := .agg #[.int .i64 (metres * legs), .int .i64 1]) (by simp [results, Tryz.results117, go_sem, Z]) rfl ⟨by rw [hfin.out], ?_⟩
      exact ⟨(hB.setCell (by simp) _).setCell (by simp) _, by simp [hD]⟩
theorem compareSpots_c (a b c d : Int) (W : World) (ha0 : 0 ≤ a) (ha1 : a ≤ 4400000000) (hb0 : 0 ≤ b) (hb1 : b ≤ 360000) (hc0 : 0 ≤ c) (hc1 : c ≤ 4400000000) (hd0 : 0 ≤ d) (hd1 : d ≤ 360000) :
    Calls Tryz.prog 116 #[.agg #[.int .i64 a, .int .i64 b], .agg #[.int .i64 c, .int .i64 d]] W fun e w' => e = .returned (.int .i64 (Lib.compareInt (a * d) (c * b))) ∧ Below W.heap.size W w' ∧ W.drawn ≤ w'.drawn := by
  have w1 : IntKind.i64.wrap (a * d) = a * d := by have := mul_in ha0 ha1 hd0 hd1; exact IntWalk.i64_in _ (by omega)
  have w2 : IntKind.i64.wrap (c * b) = c * b := by have := mul_in hc0 hc1 hb0 hb1; exact IntWalk.i64_in _ (by omega)
  have hcon := Lib.hid (fun W' => Tryz.cmp_Compare_int (a * d) (c * b) W')
  go_enter Tryz.func116, Tryz.ntmps116
  go_wp2_with fail
  refine (hcon.out _).mono ?_; rintro e w' ⟨rfl, rfl⟩
  go_wp2
  go_ret
  exact ⟨rfl, below_box (below_box (Below.refl _ _)), by simp⟩
theorem flat_get {α : Type} {enc : α → List Value} {size : Nat} (hs : ∀ x, (enc x).length = size) (hp : 0 < size) {l : List α} {j : Nat} {u : Value} (h : (l.flatMap enc)[j]? = some u) : ∃ x, l[j / size]? = some x ∧ (enc x)[j % size]? = some u := by
  have hlt := (List.getElem?_eq_some_iff.mp h).1
  rw [flat_len hs] at hlt
  obtain ⟨x, hx⟩ := at_of_lt (l := l) (k := j / size) (by rw [Nat.div_lt_iff_lt_mul hp]; exact hlt)
  obtain ⟨v, hv⟩ := at_of_lt (l := enc x) (k := j % size) (by rw [hs]; exact Nat.mod_lt _ hp)
  have h2 := flat_at hs l (j / size) x (j % size) v hx hv
  rw [show j / size * size + j % size = j by rw [Nat.mul_comm]; exact Nat.div_add_mod j size, h] at h2
  exact ⟨x, hx, by rw [hv, h2]⟩
theorem RN.flat {α : Type} {enc : α → List Value} {size : Nat} (hs : ∀ x, (enc x).length = size) (hp : 0 < size) {e : TypeId} {w : World} {b off n : Nat} {l : List α} (h : RN size enc e w (some ⟨b, off, none⟩) n l) {j : Nat} {u : Value} (hj : (l.flatMap enc)[j]? = some u) : w.cell? ⟨b, off + j, none⟩ = some u := by
  obtain ⟨x, hx, hu⟩ := flat_get hs hp hj
  obtain ⟨b', off', x', hA, _, hx', hc⟩ := h.at_ (h.mem_at hx)
  injection hA with hA
  injection hA with e1 e2 _
  subst e1 e2
  rw [hx] at hx'
  injection hx' with hx'
  subst hx'
  have := hc _ _ hu
  rw [show off + j / size * size + j % size = off + j by rw [Nat.add_assoc, Nat.mul_comm, Nat.div_add_mod]] at this
  exact this
end Go.Proofs.YtlddeeagnlgciaaGreatDoor
