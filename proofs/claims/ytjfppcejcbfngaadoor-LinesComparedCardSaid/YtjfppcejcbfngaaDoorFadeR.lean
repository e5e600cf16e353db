/- race.Fade. -/
import Derived.Test.YtjfppcejcbfngaaDoorFade
namespace Go.Proofs.YtjfppcejcbfngaaDoor
open Go.RowKit
set_option linter.unusedVariables false

def frac0 : Value := .agg #[.int .i64 0, .int .i64 0]
theorem fade_err (r : Race) (A : Option Addr) (n c : Nat) (l : List Int) (w : World) (h : RI 3 w A n l) (h0 : wholeErr r l ≠ 0) :
    Calls Tryd.prog 35 #[r.val, .slice A n c] w fun e w' => e = .returned (.tuple #[frac0, .int .i64 (wholeErr r l)]) ∧ Below w.heap.size w w' := by
  have Hs := fun W h => checkWhole_c r A n c l W h
  have hn : (wholeErr r l != 0) = true := by simpa using h0
  generalize wholeErr r l = x at *
  have Hs' := Lib.hid Hs
  clear h0 Hs
  obtain ⟨key, metres, stroke, course, legs, sex, young, old⟩ := r
  dsimp only [Race.val, Race.cells] at *
  have hb0 := heap_alloc_new (w.alloc (.cells #[.string key, .int .i64 metres, .int .i64 stroke, .int .i64 course, .int .i64 legs, .int .i64 sex, .int .i64 young, .int .i64 old] 27)) (.cells #[.int .i64 0, .int .i64 0] 51)
  go_enter Tryd.func35, Tryd.ntmps35
  go_wp2_with fail
  refine (Hs'.out _ ((h.alloc _).alloc _)).mono ?_; rintro e w1 ⟨rfl, B1⟩
  obtain ⟨Z, Y⟩ := blk_facts (blk_below hb0 B1)
  simp only [alloc_size] at Z Y
  have B := below_box (below_box B1)
  clear hb0 B1
  go_wp2
  refine bodyPost_ret (v := .tuple #[.agg #[.int .i64 0, .int .i64 0], .int .i64 x]) (by simp [results, Tryd.results35, go_sem, Z]) rfl ⟨rfl, ?_⟩
  repeat (with_reducible refine Below.setCell ?_ (by simp) _)
  exact B

theorem half_err {l : List Int} (h : halfE l ≠ 0) : halfV l = .tuple #[.int .i64 0, .int .i64 0, .int .i64 (halfE l)] := by
  unfold halfV halfB halfA; rw [if_neg h, if_neg h]
theorem fade_half (r : Race) (A : Option Addr) (n c : Nat) (l : List Int) (w : World) (h : RI 3 w A n l) (h0 : wholeErr r l = 0) (h1 : halfE l ≠ 0) :
    Calls Tryd.prog 35 #[r.val, .slice A n c] w fun e w' => e = .returned (.tuple #[frac0, .int .i64 (halfE l)]) ∧ Below w.heap.size w w' := by
  have Hs := fun W h => checkWhole_c r A n c l W h
  rw [h0] at Hs
  have Hh := fun W h => halves_c r A n c l W h (wholeErr_ok h0).1
  rw [half_err h1] at Hh
  have hn : (halfE l != 0) = true := by simpa using h1
  generalize halfE l = x at *
  have Hs' := Lib.hid Hs
  have Hh' := Lib.hid Hh
  clear h0 Hs h1 Hh
  obtain ⟨key, metres, stroke, course, legs, sex, young, old⟩ := r
  dsimp only [Race.val, Race.cells] at *
  have hb0 := heap_alloc_new (w.alloc (.cells #[.string key, .int .i64 metres, .int .i64 stroke, .int .i64 course, .int .i64 legs, .int .i64 sex, .int .i64 young, .int .i64 old] 27)) (.cells #[.int .i64 0, .int .i64 0] 51)
  have ha0 := blk_alloc (heap_alloc_new w (.cells #[.string key, .int .i64 metres, .int .i64 stroke, .int .i64 course, .int .i64 legs, .int .i64 sex, .int .i64 young, .int .i64 old] 27)) (.cells #[.int .i64 0, .int .i64 0] 51)
  go_enter Tryd.func35, Tryd.ntmps35
  go_wp2_with fail
  refine (Hs'.out _ ((h.alloc _).alloc _)).mono ?_; rintro e w1 ⟨rfl, B1⟩
  have hb1 := blk_below hb0 B1
  obtain ⟨ZA, YA⟩ := blk_facts (blk_below ha0 B1)
  have B1' := below_box (below_box B1)
  go_wp2_with fail
  refine (Hh'.out _ (h.below B1')).mono ?_; rintro e w2 ⟨rfl, B2⟩
  obtain ⟨Z, Y⟩ := blk_facts (blk_below hb1 B2)
  simp only [alloc_size] at Z Y
  have B := below_next B1' B2
  clear hb0 hb1 ha0 B1 B2 B1' ZA YA
  go_wp2
  refine bodyPost_ret (v := .tuple #[.agg #[.int .i64 0, .int .i64 0], .int .i64 x]) (by simp [results, Tryd.results35, go_sem, Z]) rfl ⟨rfl, ?_⟩
  repeat (with_reducible refine Below.setCell ?_ (by simp) _)
  exact B

theorem half_bd {r : Race} {l : List Int} (h : wholeErr r l = 0) (h1 : halfE l = 0) : 0 < halfA l ∧ halfA l ≤ 360000 ∧ 0 ≤ halfB l ∧ halfB l ≤ 360000 := by
  obtain ⟨hn1, hn, hbd⟩ := splits_bd (wholeErr_ok h).1
  have hr := whole_rise h
  have e0 := h1
  unfold halfE at h1
  split at h1
  · cases h1
  · rename_i hodd
    have hla := last_at (l := l) rfl (by omega)
    obtain ⟨x, hx⟩ := at_of_lt (l := l) (k := l.length / 2 - 1) (by omega)
    have eA : halfA l = x := by unfold halfA; rw [if_pos e0, getD_of hx]
    have eB : halfB l = l.getLastD 0 - x := by unfold halfB; rw [if_pos e0, eA]
    have h2 := rise_lt hr (by omega) hx hla
    have h3 := rise_gt hr hx
    have h4 := hbd _ (mem_of_at hla)
    rw [eA, eB]
    omega
theorem fade_c (r : Race) (A : Option Addr) (n c : Nat) (l : List Int) (w : World) (h : RI 3 w A n l) (h0 : wholeErr r l = 0) (h1 : halfE l = 0) :
    Calls Tryd.prog 35 #[r.val, .slice A n c] w fun e w' => e = .returned (.tuple #[fracV (halfB l) (halfA l), .int .i64 0]) ∧ Below w.heap.size w w' := by
  have Hs := fun W h => checkWhole_c r A n c l W h
  rw [h0] at Hs
  have Hh := fun W h => halves_c r A n c l W h (wholeErr_ok h0).1
  have hv : halfV l = .tuple #[.int .i64 (halfA l), .int .i64 (halfB l), .int .i64 0] := by unfold halfV; rw [h1]
  rw [hv] at Hh
  obtain ⟨b1, b2, b3, b4⟩ := half_bd h0 h1
  generalize halfA l = a at *
  generalize halfB l = b at *
  have hF := frac_c b a
  have eV : fracV b a = .agg #[.int .i64 (fracN b a), .int .i64 (fracD b a)] := rfl
  generalize fracV b a = V at *
  generalize fracN b a = x at *
  generalize fracD b a = y at *
  have Hs' := Lib.hid Hs
  have Hh' := Lib.hid Hh
  have hF' := Lib.hid hF
  clear h0 Hs h1 Hh hv hF
  subst eV
  obtain ⟨key, metres, stroke, course, legs, sex, young, old⟩ := r
  dsimp only [Race.val, Race.cells] at *
  have hb0 := heap_alloc_new (w.alloc (.cells #[.string key, .int .i64 metres, .int .i64 stroke, .int .i64 course, .int .i64 legs, .int .i64 sex, .int .i64 young, .int .i64 old] 27)) (.cells #[.int .i64 0, .int .i64 0] 51)
  have ha0 := blk_alloc (heap_alloc_new w (.cells #[.string key, .int .i64 metres, .int .i64 stroke, .int .i64 course, .int .i64 legs, .int .i64 sex, .int .i64 young, .int .i64 old] 27)) (.cells #[.int .i64 0, .int .i64 0] 51)
  go_enter Tryd.func35, Tryd.ntmps35
  go_wp2_with fail
  refine (Hs'.out _ ((h.alloc _).alloc _)).mono ?_; rintro e w1 ⟨rfl, B1⟩
  have hb1 := blk_below hb0 B1
  obtain ⟨ZA, YA⟩ := blk_facts (blk_below ha0 B1)
  have B1' := below_box (below_box B1)
  go_wp2_with fail
  refine (Hh'.out _ (h.below B1')).mono ?_; rintro e w2 ⟨rfl, B2⟩
  have hb2 := blk_below hb1 B2
  go_wp2_with fail
  refine (hF'.out _ b3 b1 (by omega) (by omega)).mono ?_; rintro e w3 ⟨rfl, B3⟩
  obtain ⟨Z, Y⟩ := blk_facts (blk_below hb2 B3)
  simp only [alloc_size] at Z Y
  have B := below_next (below_next B1' B2) B3
  clear hb0 hb1 ha0 B1 B2 B1' ZA YA hb2 B3
  go_wp2
  refine bodyPost_ret (v := .tuple #[.agg #[.int .i64 x, .int .i64 y], .int .i64 0]) (by simp [results, Tryd.results35, go_sem, Z]) rfl ⟨rfl, ?_⟩
  repeat (with_reducible refine Below.setCell ?_ (by simp) _)
  exact B
end Go.Proofs.YtjfppcejcbfngaaDoor
