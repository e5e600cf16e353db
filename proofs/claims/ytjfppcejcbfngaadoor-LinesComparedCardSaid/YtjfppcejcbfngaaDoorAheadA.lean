import Derived.Test.YtjfppcejcbfngaaDoorAhead2
import Derived.Test.YtjfppcejcbfngaaDoorLens
import Derived.Deep.DeepCutAuto
/- How many hundredths all have for the rest: the reference's and the program's. -/
namespace Go.Proofs.YtjfppcejcbfngaaDoor
open Go.RowKit
set_option linter.unusedVariables false

def needV (t : Int) (q : Nat) (sp : List Int) : Int := if q = 0 then t else t - sp.getD (q - 1) 0
def needsL (t : Int) (q : Nat) (l : List Sw) : List Pr := l.map fun x => ⟨x.who, itoaS (needV t q x.sp)⟩
theorem needsL_at {t : Int} {q : Nat} {l : List Sw} {k : Nat} {x : Sw} (h : l[k]? = some x) : needsL t q (l.drop k) = ⟨x.who, itoaS (needV t q x.sp)⟩ :: needsL t q (l.drop (k + 1)) := by rw [drop_at h]; rfl
set_option maxHeartbeats 3200000 in
set_option maxRecDepth 100000 in
theorem needsOf_c (A : Option Addr) (n c q : Nat) (t : Int) (l : List Sw) (w : World) (h : RSw w A n l) (htab : Tb w) (hn : n ≤ 1000) (ht0 : 1 ≤ t) (ht1 : t ≤ 360000) (hx1 : ∀ x ∈ l, q ≤ x.n) (hbx : ∀ x ∈ l, ∀ y ∈ x.sp, 0 ≤ y ∧ y ≤ 360000) :
    Calls Tryd.prog 85 #[.slice A n c, .int .i64 t, .int .i64 q] w fun e w' => ∃ A' c', e = .returned (.slice A' n c') ∧ RPr w' A' n (needsL t q l) ∧ Below w.heap.size w w' := by
  have hbx' := Lib.hid hbx
  have hx1' := Lib.hid hx1
  clear hbx hx1
  go_enter Tryd.func85, Tryd.ntmps85
  go_wp2
  go_loopw [7, 13] (fun out i wr => ∃ (k : Nat) (acc : List Pr), k ≤ n ∧ i = .int .i64 k ∧ acc.length = k ∧ wr.ownsRow w.heap.size 106 2 out k (acc.flatMap prE) ∧ Below w.heap.size w wr ∧ Hid (acc ++ needsL t q (l.drop k) = needsL t q l)) (fun _ i _ => n - (intOf i).toNat)
  case atStart => exact ⟨0, [], Nat.zero_le _, rfl, rfl, World.ownsRow_nil _ _ _ _, Below.refl _ _, Lib.hid rfl⟩
  case round =>
    obtain ⟨k, acc, hk, rfl, hl, hown, hB, hD⟩ := hrel
    have hl' := Lib.hid hl
    clear hl
    by_cases hlt : k < n
    · obtain ⟨b, off, x, rfl, hbl, hx, c0, c1, hI⟩ := (h.below hB).at2 hlt
      have hT := Lib.hid (needsL_at (t := t) (q := q) hx)
      have hxm := List.mem_of_getElem? hx
      have hxn := hx1'.out x hxm
      have hxb := hbx'.out x hxm
      have hVd : Hid (needV t q x.sp = if q = 0 then t else t - x.sp.getD (q - 1) 0) := Lib.hid rfl
      obtain ⟨who, xA, xn, xc, xs⟩ := x
      dsimp only at *
      have hxnb := hI.bd
      have hz := hB.size
      have hneS : ∀ i, u7.ownBlock = some i → w.heap.size ≤ i ∧ i < wr.heap.size := hown.lt
      clear hx hxm
      obtain ⟨v, hv, hv0, hv1⟩ : ∃ v : Int, needV t q xs = v ∧ -400000 ≤ v ∧ v ≤ 400000 := ⟨_, rfl, by
        rw [hVd.out]; split
        · omega
        · obtain ⟨y, hy⟩ := at_of_lt (l := xs) (k := q - 1) (by rw [hI.len]; omega)
          rw [getD_of hy]; have := hxb y (List.mem_of_getElem? hy); omega, by
        rw [hVd.out]; split
        · omega
        · obtain ⟨y, hy⟩ := at_of_lt (l := xs) (k := q - 1) (by rw [hI.len]; omega)
          rw [getD_of hy]; have := hxb y (List.mem_of_getElem? hy); omega⟩
      rw [hv] at hT
      go_upto_if 19 with (fail)
      have hown5 := hown.alloc (.cells #[.string who, .slice xA xn xc] 143)
      have hB5 := hB.alloc hz (.cells #[.string who, .slice xA xn xc] 143)
      have hI5 := hI.alloc (.cells #[.string who, .slice xA xn xc] 143)
      have hx5 := heap_alloc_new wr (.cells #[.string who, .slice xA xn xc] 143)
      have lx5 := lt_of_heap hx5
      have hT5 := htab.below hB5
      have hz5 := hB5.size
      clear c0 c1 hown hB hI
      generalize hW : wr.alloc (.cells #[.string who, .slice xA xn xc] 143) = w5 at *
      generalize wr.heap.size = b7 at *
      clear hW
      have z0 := (blk_facts hx5).1 0
      have z1 := (blk_facts hx5).1 1
      obtain ⟨i0, hi0, hz0, hz1, hz2⟩ := info_parts info_pair
      have hcut0 : True := trivial
      go_cut [10] (fun s wx => s = .int .i64 v ∧ w5 = wx)
      case first =>
        rcases Nat.eq_zero_or_pos q with hq | hq
        · have hV : v = t := by rw [← hv, hVd.out, if_pos hq]
          subst hq hV
          clear hVd hv
          go_wp2
          go_meet
          case rel => exact ⟨rfl, rfl⟩
        · obtain ⟨bX, oX, y, rfl, lX, hy, cX⟩ := hI5.at_ (k := q - 1) (by omega)
          have hyb := hxb y (List.mem_of_getElem? hy)
          have hV : v = t - y := by rw [← hv, hVd.out, if_neg (by omega), getD_of hy]
          have e2 : 0 ≤ (q : Int) - 1 := by omega
          have e2' : (1 : Int) ≤ (q : Int) := by omega
          have e4 : (q : Int) - 1 < xn := by omega
          have e5 : (q : Int) ≤ xn := by omega
          have e1 : IntKind.i64.wrap ((q : Int) - 1) = (q : Int) - 1 := IntWalk.i64_in _ (by omega)
          have e3 : ((q : Int) - 1).toNat = q - 1 := by omega
          have e6 : 0 < q := hq
          subst hV
          clear hVd hv hy
          go_wp2
          go_meet
          case rel => exact ⟨rfl, rfl⟩
      case rest =>
        obtain ⟨rfl, rfl⟩ := hcut
        go_wp2_with fail
        go_region_held3 (fun w' => w'.cell? ⟨b7, 0, none⟩ = some (.string who))
          (first
            | go_keep
            | with_reducible exact y0
            | with_reducible exact q0)
          (first
            | (go_at_call 139; refine (itoa_c v _ hT5.drew (by omega) (by omega)).mono ?_; rintro e w6 ⟨rfl, B6⟩; obtain ⟨hc6, hf6⟩ := bcell B6; have y0 := (hc6 b7 0 lx5).trans z0; have hown6 := own_below hown5.drew B6; have hz6 : w5.heap.size ≤ w6.heap.size := B6.size)
            | (refine step_append_lies _ (by rfl) _ _ _ (by rfl) w.heap.size 106 i0 _ 2 32 Tryd.underlying100 hi0 hz0 hz1 hz2 rfl (by omega) _ k (acc.flatMap prE) (by rfl) (hown6.alloc _) ⟨w6.heap.size, 0, none⟩ 1 1 [.string who, .string (itoaS v)] (by rfl) (by rfl) (World.news_of_block (cs := #[.string who, .string (itoaS v)]) (t := 106) (fr := (0, 0)) (heap_alloc_new w6 _)) (by simp [Value.oneCell']) (by omega) (by unfold maxLen; omega) (by omega) (by simp; omega) (w6.heap.size + 1) (by simp) ?_; intro gg cap w7 hown7 hgrow hat hlt7; have q0 := (hgrow.cell_far ⟨b7, 0, none⟩ (by simp; omega) (fun e => by have := hneS b7 e.symm; omega)).trans ((World.cell?_alloc_lt w6 _ ⟨b7, 0, none⟩ (by show b7 < w6.heap.size; omega)).trans y0)))
        have hB6 := below_next (below_drewN hB5 1) B6
        have hB7 := below_own (hB6.alloc hB6.size _) (hown6.alloc _) hgrow (by have := hB6.size; simp; omega) (Nat.le_refl _)
        have hown7' : w7.ownsRow w.heap.size 106 2 (.slice (some ⟨gg, 0, none⟩) (k + 1) cap) (k + 1) ((acc ++ [(⟨who, itoaS v⟩ : Pr)]).flatMap prE) := by rw [← flat_snoc]; exact hown7
        clear hown7 hgrow hat hlt7 q0 y0 z0 z1 hi0 hz0 hz1 hz2 hc6 hf6 hown6 hown5 hB5 B6 hB6
        go_wp2
        go_roundw
        case rel => exact ⟨k + 1, acc ++ [(⟨who, itoaS v⟩ : Pr)], by omega, by go_num, by rw [List.length_append, hl'.out]; rfl, hown7', hB7, Lib.hid (by rw [← hD.out, hT.out]; simp)⟩
        case measure => simp [intOf]; omega
    · obtain rfl : k = n := by omega
      have hD' : Hid (acc = needsL t q l) := Lib.hid (by rw [← hD.out, drop_end (by rw [h.len]; omega)]; simp [needsL])
      obtain ⟨A', c', rfl⟩ := own_shape hown
      go_wp2
      go_ret
      exact ⟨A', c', rfl, by rw [← hD'.out]; exact RN.of_own prE_len hown hl'.out (by omega), hB⟩
end Go.Proofs.YtjfppcejcbfngaaDoor

/- How many hundredths all have for the rest: the program's. -/
namespace Go.Proofs.YtjfppcejcbfngaaDoor
open Go.RowKit
set_option linter.unusedVariables false

def needsErr (r : Race) (l : List Sw) (t len : Int) : Int := if fieldErr r l ≠ 0 then fieldErr r l else if ¬ (1 ≤ t ∧ t ≤ 360000) ∨ ¬ (0 ≤ len ∧ len ≤ lenV r) then 1 else 0
set_option maxHeartbeats 1600000 in
set_option maxRecDepth 100000 in
theorem needs_err (r : Race) (A : Option Addr) (n c : Nat) (t len : Int) (l : List Sw) (w : World) (h : RSw w A n l) (h0 : needsErr r l t len ≠ 0) :
    Calls Tryd.prog 84 #[r.val, .slice A n c, .int .i64 t, .int .i64 len] w fun e w' => e = .returned (.tuple #[.slice none 0 0, .int .i64 (needsErr r l t len)]) ∧ Below w.heap.size w w' := by
  have hE : needsErr r l t len = if fieldErr r l ≠ 0 then fieldErr r l else if ¬ (1 ≤ t ∧ t ≤ 360000) ∨ ¬ (0 ≤ len ∧ len ≤ lenV r) then 1 else 0 := rfl
  have hF := Lib.hid (fun W h => checkField_c r A n c l W h)
  have hrr := fun (h : fieldErr r l = 0) => (fieldErr_ok h).1
  have hL := fun W (h : fieldErr r l = 0) => Lengths_ok r W (hrr h)
  generalize needsErr r l t len = E at *
  generalize fieldErr r l = FE at *
  generalize lenV r = LV at *
  obtain ⟨key, metres, stroke, course, legs, sex, young, old⟩ := r
  dsimp only [Race.val, Race.cells] at *
  clear hrr
  have hb := heap_alloc_new w (.cells #[.string key, .int .i64 metres, .int .i64 stroke, .int .i64 course, .int .i64 legs, .int .i64 sex, .int .i64 young, .int .i64 old] 27)
  by_cases hf : FE = 0
  rotate_left
  · obtain rfl : E = FE := by rw [hE, if_pos hf]
    have ht : (E != 0) = true := by simpa using h0
    clear h0 hE hf hL
    go_enter Tryd.func84, Tryd.ntmps84
    go_wp2_with fail
    refine (hF.out _ (h.alloc _)).mono ?_; rintro e w1 ⟨rfl, B1⟩
    go_wp2
    go_ret2
    exact ⟨rfl, below_box B1⟩
  have hL' := Lib.hid (fun W => hL W hf)
  subst hf
  rw [if_neg (by simp)] at hE
  by_cases hq : ¬ (1 ≤ t ∧ t ≤ 360000) ∨ ¬ (0 ≤ len ∧ len ≤ LV)
  rotate_left
  · rw [if_neg hq] at hE; exact absurd hE h0
  rw [if_pos hq] at hE
  subst hE
  clear h0 hL
  by_cases h1 : 1 ≤ t ∧ t ≤ 360000
  · have d1 := Lib.hid (show decide (1 ≤ t ∧ t ≤ 360000) = true by simpa using h1)
    have d2 := Lib.hid (show decide (0 ≤ len ∧ len ≤ LV) = false by simp; omega)
    clear hq h1
    go_enter Tryd.func84, Tryd.ntmps84
    go_wp2_with fail
    refine (hF.out _ (h.alloc _)).mono ?_; rintro e w1 ⟨rfl, B1⟩
    replace hb := blk_below hb B1
    have zr := (blk_facts hb).1
    go_wp2_with fail
    refine (hL'.out _).mono ?_; rintro e w2 ⟨rfl, B2⟩
    go_wp2_with fail
    refine (within_c _ _ _ _).mono ?_; rintro e w' ⟨rfl, rfl⟩
    rw [d1.out]
    go_wp2_with fail
    refine (within_c _ _ _ _).mono ?_; rintro e w' ⟨rfl, rfl⟩
    rw [d2.out]
    go_wp2
    go_ret2
    exact ⟨rfl, below_next (below_box B1) B2⟩
  · have d1 := Lib.hid (show decide (1 ≤ t ∧ t ≤ 360000) = false by simpa using h1)
    clear hq h1
    go_enter Tryd.func84, Tryd.ntmps84
    go_wp2_with fail
    refine (hF.out _ (h.alloc _)).mono ?_; rintro e w1 ⟨rfl, B1⟩
    replace hb := blk_below hb B1
    have zr := (blk_facts hb).1
    go_wp2_with fail
    refine (hL'.out _).mono ?_; rintro e w2 ⟨rfl, B2⟩
    go_wp2_with fail
    refine (within_c _ _ _ _).mono ?_; rintro e w' ⟨rfl, rfl⟩
    rw [d1.out]
    go_wp2
    go_ret2
    exact ⟨rfl, below_next (below_box B1) B2⟩
theorem field_needs {r : Race} {l : List Sw} {w : World} {A : Option Addr} {n q : Nat} (h : RSw w A n l) (hf : fieldErr r l = 0) (hq : (q : Int) ≤ lenV r) : n ≤ 1000 ∧ (∀ x ∈ l, q ≤ x.n) ∧ ∀ x ∈ l, ∀ y ∈ x.sp, 0 ≤ y ∧ y ≤ 360000 := by
  obtain ⟨_, hn20, hxe⟩ := fieldErr_ok hf
  rw [h.len] at hn20
  refine ⟨by omega, fun x hx => ?_, fun x hx => (splits_bd (wholeErr_ok (hxe x hx)).1).2.2⟩
  have h1 := whole_len (hxe x hx)
  have h2 := (h.2 x hx).len
  omega
set_option maxHeartbeats 3200000 in
set_option maxRecDepth 100000 in
theorem needs_c (r : Race) (A : Option Addr) (n c q : Nat) (t : Int) (l : List Sw) (w0 : World) (h0 : RSw w0 A n l) (htab0 : Tb w0) (hE : needsErr r l t q = 0) :
    Calls Tryd.prog 84 #[r.val, .slice A n c, .int .i64 t, .int .i64 q] w0 fun e w' => ∃ A' c', e = .returned (.tuple #[.slice A' n c', .int .i64 0]) ∧ RPr w' A' n (needsL t q l) ∧ Below w0.heap.size w0 w' := by
  obtain ⟨hfe, ht0, ht1, hql⟩ : fieldErr r l = 0 ∧ 1 ≤ t ∧ t ≤ 360000 ∧ (q : Int) ≤ lenV r := by
    unfold needsErr at hE; split at hE
    · rename_i h1; exact absurd hE h1
    · split at hE
      · cases hE
      · rename_i h1 h2; exact ⟨by simpa using h1, by omega, by omega, by omega⟩
  have hF := Lib.hid (fun W h => checkField_c r A n c l W h)
  have hF2 := hF.out
  rw [hfe] at hF2
  have hF3 := Lib.hid hF2
  have hL := Lib.hid (fun W => Lengths_ok r W (fieldErr_ok hfe).1)
  obtain ⟨hn, hx1, hbx⟩ := field_needs h0 hfe hql
  have hlb := lenV_bd (fieldErr_ok hfe).1
  have d1 := Lib.hid (show decide (1 ≤ t ∧ t ≤ 360000) = true from decide_eq_true ⟨ht0, ht1⟩)
  have d2 := Lib.hid (show decide (0 ≤ (q : Int) ∧ (q : Int) ≤ lenV r) = true from decide_eq_true ⟨by omega, hql⟩)
  clear hF hF2 hE hfe
  generalize lenV r = LV at *
  obtain ⟨key, metres, stroke, course, legs, sex, young, old⟩ := r
  dsimp only [Race.val, Race.cells] at *
  have hbx' := Lib.hid hbx
  have hx1' := Lib.hid hx1
  clear hbx hx1
  have hb := heap_alloc_new w0 (.cells #[.string key, .int .i64 metres, .int .i64 stroke, .int .i64 course, .int .i64 legs, .int .i64 sex, .int .i64 young, .int .i64 old] 27)
  go_enter Tryd.func84, Tryd.ntmps84
  go_wp2_with fail
  refine (hF3.out _ (h0.alloc _)).mono ?_; rintro e w1 ⟨rfl, B1⟩
  replace hb := blk_below hb B1
  have zr := (blk_facts hb).1
  go_wp2_with fail
  refine (hL.out _).mono ?_; rintro e w ⟨rfl, B2⟩
  have hB0 := below_next (below_box B1) B2
  have h := h0.below hB0
  have htab := htab0.below hB0
  clear B1 B2 hb zr hF3 hL h0 htab0
  go_wp2_with fail
  refine (within_c _ _ _ _).mono ?_; rintro e w' ⟨rfl, rfl⟩
  rw [d1.out]
  go_wp2_with fail
  refine (within_c _ _ _ _).mono ?_; rintro e w' ⟨rfl, rfl⟩
  rw [d2.out]
  go_wp2
  go_loopw [13, 39] (fun out i wr => ∃ (k : Nat) (acc : List Pr), k ≤ n ∧ i = .int .i64 k ∧ acc.length = k ∧ wr.ownsRow w.heap.size 106 2 out k (acc.flatMap prE) ∧ Below w.heap.size w wr ∧ Hid (acc ++ needsL t q (l.drop k) = needsL t q l)) (fun _ i _ => n - (intOf i).toNat)
  case atStart => exact ⟨0, [], Nat.zero_le _, rfl, rfl, World.ownsRow_nil _ _ _ _, Below.refl _ _, Lib.hid rfl⟩
  case round =>
    obtain ⟨k, acc, hk, rfl, hl, hown, hB, hD⟩ := hrel
    have hl' := Lib.hid hl
    clear hl
    by_cases hlt : k < n
    · obtain ⟨b, off, x, rfl, hbl, hx, c0, c1, hI⟩ := (h.below hB).at2 hlt
      have hT := Lib.hid (needsL_at (t := t) (q := q) hx)
      have hxm := List.mem_of_getElem? hx
      have hxn := hx1'.out x hxm
      have hxb := hbx'.out x hxm
      have hVd : Hid (needV t q x.sp = if q = 0 then t else t - x.sp.getD (q - 1) 0) := Lib.hid rfl
      obtain ⟨who, xA, xn, xc, xs⟩ := x
      dsimp only at *
      have hxnb := hI.bd
      have hz := hB.size
      have hneS : ∀ i, u13.ownBlock = some i → w.heap.size ≤ i ∧ i < wr.heap.size := hown.lt
      clear hx hxm
      obtain ⟨v, hv, hv0, hv1⟩ : ∃ v : Int, needV t q xs = v ∧ -400000 ≤ v ∧ v ≤ 400000 := ⟨_, rfl, by
        rw [hVd.out]; split
        · omega
        · obtain ⟨y, hy⟩ := at_of_lt (l := xs) (k := q - 1) (by rw [hI.len]; omega)
          rw [getD_of hy]; have := hxb y (List.mem_of_getElem? hy); omega, by
        rw [hVd.out]; split
        · omega
        · obtain ⟨y, hy⟩ := at_of_lt (l := xs) (k := q - 1) (by rw [hI.len]; omega)
          rw [getD_of hy]; have := hxb y (List.mem_of_getElem? hy); omega⟩
      rw [hv] at hT
      go_upto_if 45 with (fail)
      have hown5 := hown.alloc (.cells #[.string who, .slice xA xn xc] 143)
      have hB5 := hB.alloc hz (.cells #[.string who, .slice xA xn xc] 143)
      have hI5 := hI.alloc (.cells #[.string who, .slice xA xn xc] 143)
      have hx5 := heap_alloc_new wr (.cells #[.string who, .slice xA xn xc] 143)
      have lx5 := lt_of_heap hx5
      have hT5 := htab.below hB5
      have hz5 := hB5.size
      clear c0 c1 hown hB hI
      generalize hW : wr.alloc (.cells #[.string who, .slice xA xn xc] 143) = w5 at *
      generalize wr.heap.size = b7 at *
      clear hW
      have z0 := (blk_facts hx5).1 0
      have z1 := (blk_facts hx5).1 1
      obtain ⟨i0, hi0, hz0, hz1, hz2⟩ := info_parts info_pair
      have hcut0 : True := trivial
      go_cut [16] (fun s wx => s = .int .i64 v ∧ w5 = wx)
      case first =>
        rcases Nat.eq_zero_or_pos q with hq | hq
        · have hV : v = t := by rw [← hv, hVd.out, if_pos hq]
          subst hq hV
          clear hVd hv
          go_wp2
          go_meet
          case rel => exact ⟨rfl, rfl⟩
        · obtain ⟨bX, oX, y, rfl, lX, hy, cX⟩ := hI5.at_ (k := q - 1) (by omega)
          have hyb := hxb y (List.mem_of_getElem? hy)
          have hV : v = t - y := by rw [← hv, hVd.out, if_neg (by omega), getD_of hy]
          have e2 : 0 ≤ (q : Int) - 1 := by omega
          have e2' : (1 : Int) ≤ (q : Int) := by omega
          have e4 : (q : Int) - 1 < xn := by omega
          have e5 : (q : Int) ≤ xn := by omega
          have e1 : IntKind.i64.wrap ((q : Int) - 1) = (q : Int) - 1 := IntWalk.i64_in _ (by omega)
          have e3 : ((q : Int) - 1).toNat = q - 1 := by omega
          have e6 : 0 < q := hq
          subst hV
          clear hVd hv hy
          go_wp2
          go_meet
          case rel => exact ⟨rfl, rfl⟩
      case rest =>
        obtain ⟨rfl, rfl⟩ := hcut
        go_wp2_with fail
        go_region_held3 (fun w' => w'.cell? ⟨b7, 0, none⟩ = some (.string who))
          (first
            | go_keep
            | with_reducible exact y0
            | with_reducible exact q0)
          (first
            | (go_at_call 139; refine (itoa_c v _ hT5.drew (by omega) (by omega)).mono ?_; rintro e w6 ⟨rfl, B6⟩; obtain ⟨hc6, hf6⟩ := bcell B6; have y0 := (hc6 b7 0 lx5).trans z0; have hown6 := own_below hown5.drew B6; have hz6 : w5.heap.size ≤ w6.heap.size := B6.size)
            | (refine step_append_lies _ (by rfl) _ _ _ (by rfl) w.heap.size 106 i0 _ 2 32 Tryd.underlying100 hi0 hz0 hz1 hz2 rfl (by omega) _ k (acc.flatMap prE) (by rfl) (hown6.alloc _) ⟨w6.heap.size, 0, none⟩ 1 1 [.string who, .string (itoaS v)] (by rfl) (by rfl) (World.news_of_block (cs := #[.string who, .string (itoaS v)]) (t := 106) (fr := (0, 0)) (heap_alloc_new w6 _)) (by simp [Value.oneCell']) (by omega) (by unfold maxLen; omega) (by omega) (by simp; omega) (w6.heap.size + 1) (by simp) ?_; intro gg cap w7 hown7 hgrow hat hlt7; have q0 := (hgrow.cell_far ⟨b7, 0, none⟩ (by simp; omega) (fun e => by have := hneS b7 e.symm; omega)).trans ((World.cell?_alloc_lt w6 _ ⟨b7, 0, none⟩ (by show b7 < w6.heap.size; omega)).trans y0)))
        have hB6 := below_next (below_drewN hB5 1) B6
        have hB7 := below_own (hB6.alloc hB6.size _) (hown6.alloc _) hgrow (by have := hB6.size; simp; omega) (Nat.le_refl _)
        have hown7' : w7.ownsRow w.heap.size 106 2 (.slice (some ⟨gg, 0, none⟩) (k + 1) cap) (k + 1) ((acc ++ [(⟨who, itoaS v⟩ : Pr)]).flatMap prE) := by rw [← flat_snoc]; exact hown7
        clear hown7 hgrow hat hlt7 q0 y0 z0 z1 hi0 hz0 hz1 hz2 hc6 hf6 hown6 hown5 hB5 B6 hB6
        go_wp2
        go_roundw
        case rel => exact ⟨k + 1, acc ++ [(⟨who, itoaS v⟩ : Pr)], by omega, by go_num, by rw [List.length_append, hl'.out]; rfl, hown7', hB7, Lib.hid (by rw [← hD.out, hT.out]; simp)⟩
        case measure => simp [intOf]; omega
    · obtain rfl : k = n := by omega
      have hD' : Hid (acc = needsL t q l) := Lib.hid (by rw [← hD.out, drop_end (by rw [h.len]; omega)]; simp [needsL])
      obtain ⟨A', c', rfl⟩ := own_shape hown
      go_wp2
      go_ret2
      exact ⟨A', c', rfl, by rw [← hD'.out]; exact RN.of_own prE_len hown hl'.out (by omega), below_next hB0 hB⟩
end Go.Proofs.YtjfppcejcbfngaaDoor

/- Ahead and Needs whole: errors and lists in one contract each; their reference twins under 'no error'. -/
namespace Go.Proofs.YtjfppcejcbfngaaDoor
open Go.RowKit
set_option linter.unusedVariables false

def aheadLs (r : Race) (l : List Sw) (sp : List Int) : List Pr := if aheadE r l sp = 0 then aheadL (sp.getLastD 0) l else []
def needsLs (r : Race) (l : List Sw) (t len : Int) : List Pr := if needsErr r l t len = 0 then needsL t len.toNat l else []
theorem aheadA_c (r : Race) (A B : Option Addr) (n c m d : Nat) (l : List Sw) (sp : List Int) (w : World) (h : RSw w A n l) (hs : RI 3 w B m sp) (htab : Tb w) :
    Calls Tryd.prog 81 #[r.val, .slice A n c, .slice B m d] w fun e w' => ∃ A' n' c', e = .returned (.tuple #[.slice A' n' c', .int .i64 (aheadE r l sp)]) ∧ RPr w' A' n' (aheadLs r l sp) ∧ Below w.heap.size w w' := by
  unfold aheadLs
  by_cases h0 : aheadE r l sp = 0
  · rw [if_pos h0, h0]
    refine (ahead_c r A B n c m d l sp w h hs htab h0).mono ?_
    rintro e w' ⟨A', c', he, hr, hB⟩
    exact ⟨A', n, c', he, hr, hB⟩
  · rw [if_neg h0]
    refine (ahead_err r A B n c m d l sp w h hs h0).mono ?_
    rintro e w' ⟨he, hB⟩
    exact ⟨none, 0, 0, he, RN.nil_ _ _ _ _ _, hB⟩
theorem aheadOfA_c (r : Race) (A B : Option Addr) (n c m d : Nat) (l : List Sw) (sp : List Int) (w : World) (h : RSw w A n l) (hs : RI 3 w B m sp) (htab : Tb w) (hE : aheadE r l sp = 0) :
    Calls Tryd.prog 82 #[.slice A n c, .slice B m d] w fun e w' => ∃ A' n' c', e = .returned (.slice A' n' c') ∧ RPr w' A' n' (aheadLs r l sp) ∧ Below w.heap.size w w' := by
  unfold aheadLs
  rw [if_pos hE]
  obtain ⟨hfe, hwe⟩ : fieldErr r l = 0 ∧ wholeErr r sp = 0 := by
    unfold aheadE at hE; split at hE <;> omega
  obtain ⟨_, hn20, hxe⟩ := fieldErr_ok hfe
  rw [h.len] at hn20
  have hsb := splits_bd (wholeErr_ok hwe).1
  have hlv := whole_len hwe
  have hx1 : ∀ x ∈ l, 1 ≤ x.n := fun x hx => by
    have h1 := whole_len (hxe x hx)
    have h2 := (h.2 x hx).len
    have h3 := hsb.1
    omega
  have hbx : ∀ x ∈ l, ∀ y ∈ x.sp, 0 ≤ y ∧ y ≤ 360000 := fun x hx => (splits_bd (wholeErr_ok (hxe x hx)).1).2.2
  refine (aheadOf_c A B n c m d l sp w h hs htab (by omega) (by rw [← hs.len]; exact hsb.1) hx1 hsb.2.2 hbx).mono ?_
  rintro e w' ⟨A', c', he, hr, hB⟩
  exact ⟨A', n, c', he, hr, hB⟩
theorem needsE_ok {r : Race} {l : List Sw} {t len : Int} (hE : needsErr r l t len = 0) : fieldErr r l = 0 ∧ 1 ≤ t ∧ t ≤ 360000 ∧ 0 ≤ len ∧ len ≤ lenV r := by
  unfold needsErr at hE; split at hE
  · rename_i h1; exact absurd hE h1
  · split at hE
    · cases hE
    · rename_i h1 h2; exact ⟨by simpa using h1, by omega, by omega, by omega, by omega⟩
theorem needsA_c (r : Race) (A : Option Addr) (n c : Nat) (t len : Int) (l : List Sw) (w : World) (h : RSw w A n l) (htab : Tb w) :
    Calls Tryd.prog 84 #[r.val, .slice A n c, .int .i64 t, .int .i64 len] w fun e w' => ∃ A' n' c', e = .returned (.tuple #[.slice A' n' c', .int .i64 (needsErr r l t len)]) ∧ RPr w' A' n' (needsLs r l t len) ∧ Below w.heap.size w w' := by
  unfold needsLs
  by_cases h0 : needsErr r l t len = 0
  · rw [if_pos h0, h0]
    obtain ⟨_, _, _, hq, _⟩ := needsE_ok h0
    obtain ⟨q, rfl⟩ : ∃ q : Nat, len = q := ⟨len.toNat, by omega⟩
    refine (needs_c r A n c q t l w h htab h0).mono ?_
    rintro e w' ⟨A', c', he, hr, hB⟩
    exact ⟨A', n, c', he, hr, hB⟩
  · rw [if_neg h0]
    refine (needs_err r A n c t len l w h h0).mono ?_
    rintro e w' ⟨he, hB⟩
    exact ⟨none, 0, 0, he, RN.nil_ _ _ _ _ _, hB⟩
theorem needsOfA_c (r : Race) (A : Option Addr) (n c : Nat) (t len : Int) (l : List Sw) (w : World) (h : RSw w A n l) (htab : Tb w) (hE : needsErr r l t len = 0) :
    Calls Tryd.prog 85 #[.slice A n c, .int .i64 t, .int .i64 len] w fun e w' => ∃ A' n' c', e = .returned (.slice A' n' c') ∧ RPr w' A' n' (needsLs r l t len) ∧ Below w.heap.size w w' := by
  unfold needsLs
  rw [if_pos hE]
  obtain ⟨hfe, ht0, ht1, hq, hql⟩ := needsE_ok hE
  obtain ⟨q, rfl⟩ : ∃ q : Nat, len = q := ⟨len.toNat, by omega⟩
  obtain ⟨hn, hx1, hbx⟩ := field_needs h hfe hql
  refine (needsOf_c A n c q t l w h htab hn ht0 ht1 hx1 hbx).mono ?_
  rintro e w' ⟨A', c', he, hr, hB⟩
  exact ⟨A', n, c', he, hr, hB⟩
/-- the reference's way to the fault of Needs -/
theorem needs_way {r : Race} {l : List Sw} {t len : Int} : (if orV [fieldErr r l, timeErr t] = 0 then spanErr len 0 (lenV r) else orV [fieldErr r l, timeErr t]) = needsErr r l t len := by
  rw [orV_two]
  unfold needsErr timeErr spanErr
  by_cases h1 : fieldErr r l = 0
  · by_cases h2 : 1 ≤ t ∧ t ≤ 360000
    · by_cases h3 : 0 ≤ len ∧ len ≤ lenV r
      · simp [h1, h2, h3]
      · simp [h1, h2, h3]
    · simp [h1, h2]
  · simp [h1]
theorem ahead_way {r : Race} {l : List Sw} {sp : List Int} : orV [fieldErr r l, wholeErr r sp] = aheadE r l sp := by
  rw [orV_two]; rfl
end Go.Proofs.YtjfppcejcbfngaaDoor
