/- race.far, LineAt; the reference's farAt, FarOf. -/
import Derived.Test.YtjfppcejcbfngaaDoorFar
namespace Go.Proofs.YtjfppcejcbfngaaDoor
open Go.RowKit
set_option linter.unusedVariables false

theorem farGo_bd {c tot t : Int} (hc : c = 25 ∨ c = 50) (ht : 0 ≤ tot ∧ tot ≤ 12000) (htt : t ≤ 360000) : ∀ (l : List Int) (i last : Int), 0 ≤ i → i + (l.length : Int) ≤ 240 → 0 ≤ last → last ≤ t → (∀ x ∈ l, 0 ≤ x ∧ x ≤ 360000) →
    0 ≤ (farGo c tot t l i last).1 ∧ (farGo c tot t l i last).1 ≤ 4400000000 ∧ 0 < (farGo c tot t l i last).2 ∧ (farGo c tot t l i last).2 ≤ 360000
  | [], _, _, _, _, _, _, _ => by unfold farGo; dsimp only; omega
  | x :: l, i, last, h0, h1, h2, h3, h4 => by
    have hx := h4 x (by simp)
    have e : ((x :: l).length : Int) = (l.length : Int) + 1 := by simp
    rw [e] at h1
    unfold farGo
    split
    · have m1 := mul_bd (a := i) (b := c) (A := 240) (B := 50) (by omega) (by omega) (by omega) (by omega)
      have m2 := mul_bd (a := i * c) (b := x - last) (A := 12000) (B := 360000) (by omega) (by omega) (by omega) (by omega)
      have m3 := mul_bd (a := c) (b := t - last) (A := 50) (B := 360000) (by omega) (by omega) (by omega) (by omega)
      dsimp only
      omega
    · exact farGo_bd hc ht htt l (i + 1) x (by omega) (by omega) (by omega) (by omega) (fun y hy => h4 y (by simp [hy]))
theorem farP_bd {r : Race} {l : List Int} {t : Int} (h : wholeErr r l = 0) (h0 : 0 ≤ t) (h1 : t ≤ 360000) : 0 ≤ (farP r.course (r.metres * r.legs) l t).1 ∧ (farP r.course (r.metres * r.legs) l t).1 ≤ 4400000000 ∧ 0 < (farP r.course (r.metres * r.legs) l t).2 ∧ (farP r.course (r.metres * r.legs) l t).2 ≤ 360000 := by
  obtain ⟨hc, hre, _, hs, _⟩ := wholeErr_ok h
  obtain ⟨hn1, hn, hbd⟩ := splits_bd hc
  obtain ⟨_, _, _, _, _, hco, _, _, _, _, _⟩ := raceErr_ok hre
  have htot := len_tot hre
  have := lenV_bd hre
  have hm := mul_bd (a := lenV r) (b := r.course) (A := 240) (B := 50) (by omega) (by omega) (by omega) (by omega)
  rw [htot] at hm
  exact farGo_bd hco ⟨hm.1, by omega⟩ h1 l 0 0 (by omega) (by omega) (by omega) h0 hbd

theorem alloc_size (w : World) (o : Obj) : (w.alloc o).heap.size = w.heap.size + 1 := by simp
theorem far_c (r : Race) (A : Option Addr) (n c : Nat) (l : List Int) (t : Int) (w : World) (h : RI 3 w A n l) (h0 : wholeErr r l = 0) (ht0 : 0 ≤ t) (ht1 : t ≤ 360000) :
    Calls Tryd.prog 136 #[r.val, .slice A n c, .int .i64 t] w fun e w' => e = .returned (fracV (farP r.course (r.metres * r.legs) l t).1 (farP r.course (r.metres * r.legs) l t).2) ∧ Below w.heap.size w w' := by
  have Hw := fun W h => where_c r A n c l t W h h0 ht0 ht1
  obtain ⟨b1, b2, b3, b4⟩ := farP_bd h0 ht0 ht1
  generalize farP r.course (r.metres * r.legs) l t = P at *
  obtain ⟨a, b⟩ := P
  dsimp only at *
  have hF := frac_c a b
  have eV : fracV a b = .agg #[.int .i64 (fracN a b), .int .i64 (fracD a b)] := rfl
  generalize fracV a b = V at *
  generalize fracN a b = x at *
  generalize fracD a b = y at *
  have Hw' := Lib.hid Hw
  have hF' := Lib.hid hF
  clear Hw hF h0
  obtain ⟨key, metres, stroke, course, legs, sex, young, old⟩ := r
  dsimp only [Race.val, Race.cells] at *
  subst eV
  have hb0 := heap_alloc_new (w.alloc (.cells #[.string key, .int .i64 metres, .int .i64 stroke, .int .i64 course, .int .i64 legs, .int .i64 sex, .int .i64 young, .int .i64 old] 27)) (.cells #[.int .i64 0, .int .i64 0] 51)
  go_enter Tryd.func136, Tryd.ntmps136
  go_wp2_with fail
  refine (Hw'.out _ ((h.alloc _).alloc _)).mono ?_; rintro e w1 ⟨rfl, B1⟩
  have hb1 := blk_below hb0 B1
  go_wp2_with fail
  refine (hF'.out _ b1 b3 (by omega) (by omega)).mono ?_; rintro e w2 ⟨rfl, B2⟩
  have hb2 := blk_below hb1 B2
  obtain ⟨Z, Y⟩ := blk_facts hb2
  simp only [alloc_size] at Z Y
  have B : Below w.heap.size w w2 := below_next (below_box (below_box B1)) B2
  clear hb0 hb1 hb2 B1 B2
  go_wp2
  refine bodyPost_ret (v := .agg #[.int .i64 x, .int .i64 y]) (by simp [results, Tryd.results136, go_sem, Z]) rfl ⟨rfl, ?_⟩
  exact (B.setCell (by simp) _).setCell (by simp) _

theorem lineAt_c (r : Race) (A : Option Addr) (n c : Nat) (l : List Int) (t : Int) (w : World) (h : RI 3 w A n l) (h0 : wholeErr r l = 0) (ht0 : 0 ≤ t) (ht1 : t ≤ 360000) :
    Calls Tryd.prog 78 #[r.val, .slice A n c, .int .i64 t] w fun e w' => e = .returned (.tuple #[fracV (farP r.course (r.metres * r.legs) l t).1 (farP r.course (r.metres * r.legs) l t).2, .int .i64 0]) ∧ Below w.heap.size w w' := by
  have Hw := fun W h => far_c r A n c l t W h h0 ht0 ht1
  have Hs := fun W h => checkWhole_c r A n c l W h
  rw [h0] at Hs
  generalize farP r.course (r.metres * r.legs) l t = P at *
  obtain ⟨a, b⟩ := P
  dsimp only at *
  have eV : fracV a b = .agg #[.int .i64 (fracN a b), .int .i64 (fracD a b)] := rfl
  generalize fracV a b = V at *
  generalize fracN a b = x at *
  generalize fracD a b = y at *
  have Hw' := Lib.hid Hw
  have Hs' := Lib.hid Hs
  clear Hw Hs h0
  obtain ⟨key, metres, stroke, course, legs, sex, young, old⟩ := r
  dsimp only [Race.val, Race.cells] at *
  subst eV
  have hb0 := heap_alloc_new (w.alloc (.cells #[.string key, .int .i64 metres, .int .i64 stroke, .int .i64 course, .int .i64 legs, .int .i64 sex, .int .i64 young, .int .i64 old] 27)) (.cells #[.int .i64 0, .int .i64 0] 51)
  go_enter Tryd.func78, Tryd.ntmps78
  go_wp2_with fail
  refine (Hs'.out _ ((h.alloc _).alloc _)).mono ?_; rintro e w1 ⟨rfl, B1⟩
  have hb1 := blk_below hb0 B1
  obtain ⟨ZA, YA⟩ := blk_facts (blk_below (blk_alloc (heap_alloc_new w (.cells #[.string key, .int .i64 metres, .int .i64 stroke, .int .i64 course, .int .i64 legs, .int .i64 sex, .int .i64 young, .int .i64 old] 27)) (.cells #[.int .i64 0, .int .i64 0] 51)) B1)
  have B1' := below_box (below_box B1)
  go_wp2_with fail
  refine (within_c _ _ _ _).mono ?_; rintro e w' ⟨rfl, rfl⟩
  go_wp2_with fail
  refine (Hw'.out _ (h.below B1')).mono ?_; rintro e w2 ⟨rfl, B2⟩
  have hb2 := blk_below hb1 B2
  obtain ⟨Z, Y⟩ := blk_facts hb2
  simp only [alloc_size] at Z Y
  have B : Below w.heap.size w w2 := below_next B1' B2
  clear hb0 hb1 hb2 B1 B2
  go_wp2
  refine bodyPost_ret (v := .tuple #[.agg #[.int .i64 x, .int .i64 y], .int .i64 0]) (by simp [results, Tryd.results78, go_sem, Z]) rfl ⟨rfl, ?_⟩
  exact (B.setCell (by simp) _).setCell (by simp) _
end Go.Proofs.YtjfppcejcbfngaaDoor
