/- Fixes: the struct, the order, CheckFixes and FixesFault. Printed by wip/genfx.py. -/
import Derived.Test.YtnkhdofcmanipaaGreatDoorFaSigD
import Derived.Test.YtnkhdofcmanipaaGreatDoorFaRegAp
import Derived.Test.YtnkhdofcmanipaaGreatDoorFaRows2
import Derived.Deep.RegionHeld3
namespace Go.Proofs.YtnkhdofcmanipaaGreatDoor
open Go.RowKit Go.Shelf Go.Lib Go.Sort
set_option linter.unusedVariables false

structure Fx where
  rc : ByteArray
  ht : Int
  ln : Int
  le : Int
  tm : Int
  vr : Int
  by_ : ByteArray
instance : Inhabited Fx := ⟨⟨⟨#[]⟩, 0, 0, 0, 0, 0, ⟨#[]⟩⟩⟩
def fxE (x : Fx) : List Value := [.string x.rc, .int .i64 x.ht, .int .i64 x.ln, .int .i64 x.le, .int .i64 x.tm, .int .i64 x.vr, .string x.by_]
theorem fxE_len : ∀ x, (fxE x).length = 7 := fun _ => rfl
abbrev RFx (w : World) (A : Option Addr) (n : Nat) (l : List Fx) : Prop := RN 7 fxE 69 w A n l
theorem RFx_at7 {w : World} {A : Option Addr} {n : Nat} {l : List Fx} (h : RFx w A n l) {k : Nat} (hk : k < n) : ∃ b off x, A = some ⟨b, off, none⟩ ∧ b < w.heap.size ∧ l[k]? = some x ∧ w.cell? ⟨b, off + k * 7, none⟩ = some (.string x.rc) ∧ w.cell? ⟨b, off + k * 7 + 1, none⟩ = some (.int .i64 x.ht) ∧ w.cell? ⟨b, off + k * 7 + 2, none⟩ = some (.int .i64 x.ln) ∧ w.cell? ⟨b, off + k * 7 + 3, none⟩ = some (.int .i64 x.le) ∧ w.cell? ⟨b, off + k * 7 + 4, none⟩ = some (.int .i64 x.tm) ∧ w.cell? ⟨b, off + k * 7 + 5, none⟩ = some (.int .i64 x.vr) ∧ w.cell? ⟨b, off + k * 7 + 6, none⟩ = some (.string x.by_) := by
  obtain ⟨b, off, x, hA, hb, hx, hc⟩ := h.at_ hk
  exact ⟨b, off, x, hA, hb, hx, hc 0 _ rfl, hc 1 _ rfl, hc 2 _ rfl, hc 3 _ rfl, hc 4 _ rfl, hc 5 _ rfl, hc 6 _ rfl⟩
theorem info_fix : (Tryz.prog.info? 69).map (fun i => (i.zero, i.size, i.bytes)) = some (some (.agg #[.string ⟨#[]⟩, .int .i64 0, .int .i64 0, .int .i64 0, .int .i64 0, .int .i64 0, .string ⟨#[]⟩]), 7, 72) := by kernel_rfl
/-- the order of fixes -/
def fxCf (x y : Fx) : Int := orV [cmpB x.rc y.rc, Lib.compareInt x.ht y.ht, Lib.compareInt x.ln y.ln, Lib.compareInt x.le y.le, Lib.compareInt x.vr y.vr]
def CX (rc : ByteArray) (ht ln le vr : Int) (rc' : ByteArray) (ht' ln' le' vr' : Int) (u v1 v2 v3 v4 : Int) (bx : Nat) (j : Nat) (w : World) (v : Value) : Prop :=
  match j with
  | 0 => v = .pointer (some ⟨bx, 0, none⟩)
  | 1 => v = .string rc
  | 2 => v = .pointer (some ⟨bx + 1, 0, none⟩)
  | 3 => v = .string rc'
  | 4 => v = .int .i64 u
  | 5 => v = .pointer (some ⟨bx, 1, none⟩)
  | 6 => v = .int .i64 ht
  | 7 => v = .pointer (some ⟨bx + 1, 1, none⟩)
  | 8 => v = .int .i64 ht'
  | 9 => v = .int .i64 v1
  | 10 => v = .pointer (some ⟨bx, 2, none⟩)
  | 11 => v = .int .i64 ln
  | 12 => v = .pointer (some ⟨bx + 1, 2, none⟩)
  | 13 => v = .int .i64 ln'
  | 14 => v = .int .i64 v2
  | 15 => v = .pointer (some ⟨bx, 3, none⟩)
  | 16 => v = .int .i64 le
  | 17 => v = .pointer (some ⟨bx + 1, 3, none⟩)
  | 18 => v = .int .i64 le'
  | 19 => v = .int .i64 v3
  | 20 => v = .pointer (some ⟨bx, 5, none⟩)
  | 21 => v = .int .i64 vr
  | 22 => v = .pointer (some ⟨bx + 1, 5, none⟩)
  | 23 => v = .int .i64 vr'
  | 24 => v = .int .i64 v4
  | 25 => ∃ z, v = .slice (some ⟨z, 0, none⟩) 5 5 ∧ w.heap[z]? = some (.cells #[.int .i64 u, .int .i64 v1, .int .i64 v2, .int .i64 v3, .int .i64 v4] 3 (0, 0))
  | 26 | 27 => v = .int .i64 (orV [u, v1, v2, v3, v4])
  | _ => True
theorem CX.mono {rc : ByteArray} {ht ln le vr : Int} {rc' : ByteArray} {ht' ln' le' vr' : Int} {u v1 v2 v3 v4 : Int} {bx : Nat} {w w1 : World} (hR : ∀ (z : Nat) (cs : Array Value), w.heap[z]? = some (.cells cs 3 (0, 0)) → w1.heap[z]? = some (.cells cs 3 (0, 0))) (j : Nat) (v : Value) (h : CX rc ht ln le vr rc' ht' ln' le' vr' u v1 v2 v3 v4 bx j w v) : CX rc ht ln le vr rc' ht' ln' le' vr' u v1 v2 v3 v4 bx j w1 v := by
  unfold CX at h ⊢
  split at h <;> first | exact h | (obtain ⟨z, h1, h2⟩ := h; exact ⟨z, h1, hR _ _ h2⟩)
set_option maxHeartbeats 1600000 in
set_option maxRecDepth 100000 in
theorem fxCompare_c (x y : Fx) (W : World) : Calls Tryz.prog 61 #[.agg (fxE x).toArray, .agg (fxE y).toArray] W fun e w' => e = .returned (.int .i64 (fxCf x y)) ∧ Below W.heap.size W w' ∧ W.drawn ≤ w'.drawn := by
  have hV := Lib.hid (show fxCf x y = orV [cmpB x.rc y.rc, Lib.compareInt x.ht y.ht, Lib.compareInt x.ln y.ln, Lib.compareInt x.le y.le, Lib.compareInt x.vr y.vr] from rfl)
  generalize fxCf x y = V at *
  obtain ⟨rc, ht, ln, le, tm, vr, by_⟩ := x
  obtain ⟨rc', ht', ln', le', tm', vr', by_'⟩ := y
  dsimp only [fxE] at *
  have hC := Lib.hid (fun p q W => show Calls Tryz.prog 56 #[.int .i64 p, .int .i64 q] W fun e w' => e = .returned (.int .i64 (Lib.compareInt p q)) ∧ W = w' from (Tryz.cmp_Compare_int p q W).mono fun _ _ ⟨h1, h2⟩ => ⟨h1, h2.symm⟩)
  have hS := Lib.hid (fun W => show Calls Tryz.prog 75 #[.string rc, .string rc'] W fun e w' => e = .returned (.int .i64 (cmpB rc rc')) ∧ W = w' from (Tryz.strings_Compare rc rc' W).mono fun _ _ ⟨h1, h2⟩ => ⟨h1, h2.symm⟩)
  have hP1 := Lib.hid (fun W => hC.out ht ht' W)
  have hP2 := Lib.hid (fun W => hC.out ln ln' W)
  have hP3 := Lib.hid (fun W => hC.out le le' W)
  have hP4 := Lib.hid (fun W => hC.out vr vr' W)
  clear hC
  generalize hu : cmpB rc rc' = u at *
  generalize hv1 : Lib.compareInt ht ht' = v1 at *
  generalize hv2 : Lib.compareInt ln ln' = v2 at *
  generalize hv3 : Lib.compareInt le le' = v3 at *
  generalize hv4 : Lib.compareInt vr vr' = v4 at *
  clear hu hv1 hv2 hv3 hv4
  have hb0 := heap_alloc_new W (.cells #[.string rc, .int .i64 ht, .int .i64 ln, .int .i64 le, .int .i64 tm, .int .i64 vr, .string by_] 69)
  have hb1 := blk_alloc hb0 (.cells #[.string rc', .int .i64 ht', .int .i64 ln', .int .i64 le', .int .i64 tm', .int .i64 vr', .string by_'] 69)
  have hb2 := heap_alloc_new (W.alloc (.cells #[.string rc, .int .i64 ht, .int .i64 ln, .int .i64 le, .int .i64 tm, .int .i64 vr, .string by_] 69)) (.cells #[.string rc', .int .i64 ht', .int .i64 ln', .int .i64 le', .int .i64 tm', .int .i64 vr', .string by_'] 69)
  rw [alloc_sizeS] at hb2
  have hBB := below_box (below_box (Below.refl ((W.alloc (.cells #[.string rc, .int .i64 ht, .int .i64 ln, .int .i64 le, .int .i64 tm, .int .i64 vr, .string by_] 69)).alloc (.cells #[.string rc', .int .i64 ht', .int .i64 ln', .int .i64 le', .int .i64 tm', .int .i64 vr', .string by_'] 69)).heap.size _))
  have hD : ((W.alloc (.cells #[.string rc, .int .i64 ht, .int .i64 ln, .int .i64 le, .int .i64 tm, .int .i64 vr, .string by_] 69)).alloc (.cells #[.string rc', .int .i64 ht', .int .i64 ln', .int .i64 le', .int .i64 tm', .int .i64 vr', .string by_'] 69)).drawn = W.drawn := rfl
  go_enter Tryz.func61, Tryz.ntmps61
  go_wp2_with fail
  generalize (W.alloc (.cells #[.string rc, .int .i64 ht, .int .i64 ln, .int .i64 le, .int .i64 tm, .int .i64 vr, .string by_] 69)).alloc (.cells #[.string rc', .int .i64 ht', .int .i64 ln', .int .i64 le', .int .i64 tm', .int .i64 vr', .string by_'] 69) = w5 at *
  generalize hbx : W.heap.size = bx at *
  have z0 := (blk_facts hb1).1 0
  have y0 := (blk_facts hb2).1 0
  have z1 := (blk_facts hb1).1 1
  have y1 := (blk_facts hb2).1 1
  have z2 := (blk_facts hb1).1 2
  have y2 := (blk_facts hb2).1 2
  have z3 := (blk_facts hb1).1 3
  have y3 := (blk_facts hb2).1 3
  have z5 := (blk_facts hb1).1 5
  have y5 := (blk_facts hb2).1 5
  clear hb0
  have lb1 := lt_of_heap hb1
  have lb2 := lt_of_heap hb2
  refine wp_region_inv (by kernel_rfl) (fun listed a w' => ∃ xs : Nat → Value, a = { tmps := #[.agg #[.string rc, .int .i64 ht, .int .i64 ln, .int .i64 le, .int .i64 tm, .int .i64 vr, .string by_], .agg #[.string rc', .int .i64 ht', .int .i64 ln', .int .i64 le', .int .i64 tm', .int .i64 vr', .string by_'], .pointer (some ⟨bx, 0, none⟩), .pointer (some ⟨bx + 1, 0, none⟩), xs 27, xs 0, xs 1, xs 2, xs 3, xs 4, xs 5, xs 6, xs 7, xs 8, xs 9, xs 10, xs 11, xs 12, xs 13, xs 14, xs 15, xs 16, xs 17, xs 18, xs 19, xs 20, xs 21, xs 22, xs 23, xs 24, xs 25, xs 26], defers := [] } ∧ (∀ j, listed.getD j false = true → CX rc ht ln le vr rc' ht' ln' le' vr' u v1 v2 v3 v4 bx j w' (xs j)) ∧ (Below w5.heap.size w5 w' ∧ w5.drawn ≤ w'.drawn)) ?h0 (AllOps.of ?hs) ?he
  case h0 => exact ⟨fun j => match j with | 0 => undef | 1 => undef | 2 => undef | 3 => undef | 4 => undef | 5 => undef | 6 => undef | 7 => undef | 8 => undef | 9 => undef | 10 => undef | 11 => undef | 12 => undef | 13 => undef | 14 => undef | 15 => undef | 16 => undef | 17 => undef | 18 => undef | 19 => undef | 20 => undef | 21 => undef | 22 => undef | 23 => undef | 24 => undef | 25 => undef | 26 => undef | 27 => .int .i64 0 | _ => undef, rfl, (fun j hj => by rw [rep_false] at hj; cases hj), ⟨below_drewN (Below.refl _ _) 1, Nat.le_succ _⟩⟩
  case hs =>
    refine ⟨?_, ?_, ?_, ?_, ?_, ?_, ?_, ?_, ?_, ?_, ?_, ?_, ?_, ?_, ?_, ?_, ?_, ?_, ?_, ?_, ?_, ?_, ?_, ?_, ?_, ?_, ?_, ?_, trivial⟩
    · intro listed a w' hs hI h0 hd K' hK
      obtain ⟨xs, rfl, hC, hW⟩ := hI
      have hK2 := Lib.hid hK
      have hC2 := Lib.hid hC
      clear hd hK hC h0
      go_simp
      exact hK2.out _ _ ⟨updV xs 0 (.pointer (some ⟨bx, 0, none⟩)), by simp [updV], cond_set hC2.out (fun _ _ h => h) rfl, hW⟩
    · intro listed a w' hs hI h0 hd K' hK
      obtain ⟨xs, rfl, hC, hW⟩ := hI
      have e0 : xs 0 = .pointer (some ⟨bx, 0, none⟩) := hC 0 (hd ⟨0, .data⟩ (by simp) rfl)
      have hK2 := Lib.hid hK
      have hC2 := Lib.hid hC
      have c9 := (hW.1.cell (p := ⟨bx, 0, none⟩) lb1).trans z0
      clear hd hK hC h0
      go_simp
      exact hK2.out _ _ ⟨updV xs 1 (.string rc), by simp [updV, e0], cond_set hC2.out (fun _ _ h => h) rfl, hW⟩
    · intro listed a w' hs hI h0 hd K' hK
      obtain ⟨xs, rfl, hC, hW⟩ := hI
      have hK2 := Lib.hid hK
      have hC2 := Lib.hid hC
      clear hd hK hC h0
      go_simp
      exact hK2.out _ _ ⟨updV xs 2 (.pointer (some ⟨bx + 1, 0, none⟩)), by simp [updV], cond_set hC2.out (fun _ _ h => h) rfl, hW⟩
    · intro listed a w' hs hI h0 hd K' hK
      obtain ⟨xs, rfl, hC, hW⟩ := hI
      have e2 : xs 2 = .pointer (some ⟨bx + 1, 0, none⟩) := hC 2 (hd ⟨2, .data⟩ (by simp) rfl)
      have hK2 := Lib.hid hK
      have hC2 := Lib.hid hC
      have c9 := (hW.1.cell (p := ⟨bx + 1, 0, none⟩) lb2).trans y0
      clear hd hK hC h0
      go_simp
      exact hK2.out _ _ ⟨updV xs 3 (.string rc'), by simp [updV, e2], cond_set hC2.out (fun _ _ h => h) rfl, hW⟩
    · intro listed a w' hs hI h0 hd K' hK
      obtain ⟨xs, rfl, hC, hW⟩ := hI
      have e1 : xs 1 = .string rc := hC 1 (hd ⟨1, .data⟩ (by simp) rfl)
      have e3 : xs 3 = .string rc' := hC 3 (hd ⟨3, .data⟩ (by simp) rfl)
      have hK2 := Lib.hid hK
      have hC2 := Lib.hid hC
      clear hd hK hC h0
      go_simp
      refine (hS.out _).mono ?_; rintro e w1 ⟨rfl, rfl⟩
      exact hK2.out _ _ ⟨updV xs 4 (.int .i64 u), by simp [updV, e1, e3], cond_set hC2.out (fun _ _ h => h) rfl, hW⟩
    · intro listed a w' hs hI h0 hd K' hK
      obtain ⟨xs, rfl, hC, hW⟩ := hI
      have hK2 := Lib.hid hK
      have hC2 := Lib.hid hC
      clear hd hK hC h0
      go_simp
      exact hK2.out _ _ ⟨updV xs 5 (.pointer (some ⟨bx, 1, none⟩)), by simp [updV], cond_set hC2.out (fun _ _ h => h) rfl, hW⟩
    · intro listed a w' hs hI h0 hd K' hK
      obtain ⟨xs, rfl, hC, hW⟩ := hI
      have e5 : xs 5 = .pointer (some ⟨bx, 1, none⟩) := hC 5 (hd ⟨5, .data⟩ (by simp) rfl)
      have hK2 := Lib.hid hK
      have hC2 := Lib.hid hC
      have c9 := (hW.1.cell (p := ⟨bx, 1, none⟩) lb1).trans z1
      clear hd hK hC h0
      go_simp
      exact hK2.out _ _ ⟨updV xs 6 (.int .i64 ht), by simp [updV, e5], cond_set hC2.out (fun _ _ h => h) rfl, hW⟩
    · intro listed a w' hs hI h0 hd K' hK
      obtain ⟨xs, rfl, hC, hW⟩ := hI
      have hK2 := Lib.hid hK
      have hC2 := Lib.hid hC
      clear hd hK hC h0
      go_simp
      exact hK2.out _ _ ⟨updV xs 7 (.pointer (some ⟨bx + 1, 1, none⟩)), by simp [updV], cond_set hC2.out (fun _ _ h => h) rfl, hW⟩
    · intro listed a w' hs hI h0 hd K' hK
      obtain ⟨xs, rfl, hC, hW⟩ := hI
      have e7 : xs 7 = .pointer (some ⟨bx + 1, 1, none⟩) := hC 7 (hd ⟨7, .data⟩ (by simp) rfl)
      have hK2 := Lib.hid hK
      have hC2 := Lib.hid hC
      have c9 := (hW.1.cell (p := ⟨bx + 1, 1, none⟩) lb2).trans y1
      clear hd hK hC h0
      go_simp
      exact hK2.out _ _ ⟨updV xs 8 (.int .i64 ht'), by simp [updV, e7], cond_set hC2.out (fun _ _ h => h) rfl, hW⟩
    · intro listed a w' hs hI h0 hd K' hK
      obtain ⟨xs, rfl, hC, hW⟩ := hI
      have e6 : xs 6 = .int .i64 ht := hC 6 (hd ⟨6, .data⟩ (by simp) rfl)
      have e8 : xs 8 = .int .i64 ht' := hC 8 (hd ⟨8, .data⟩ (by simp) rfl)
      have hK2 := Lib.hid hK
      have hC2 := Lib.hid hC
      clear hd hK hC h0
      go_simp
      refine (hP1.out _).mono ?_; rintro e w1 ⟨rfl, rfl⟩
      exact hK2.out _ _ ⟨updV xs 9 (.int .i64 v1), by simp [updV, e6, e8], cond_set hC2.out (fun _ _ h => h) rfl, hW⟩
    · intro listed a w' hs hI h0 hd K' hK
      obtain ⟨xs, rfl, hC, hW⟩ := hI
      have hK2 := Lib.hid hK
      have hC2 := Lib.hid hC
      clear hd hK hC h0
      go_simp
      exact hK2.out _ _ ⟨updV xs 10 (.pointer (some ⟨bx, 2, none⟩)), by simp [updV], cond_set hC2.out (fun _ _ h => h) rfl, hW⟩
    · intro listed a w' hs hI h0 hd K' hK
      obtain ⟨xs, rfl, hC, hW⟩ := hI
      have e10 : xs 10 = .pointer (some ⟨bx, 2, none⟩) := hC 10 (hd ⟨10, .data⟩ (by simp) rfl)
      have hK2 := Lib.hid hK
      have hC2 := Lib.hid hC
      have c9 := (hW.1.cell (p := ⟨bx, 2, none⟩) lb1).trans z2
      clear hd hK hC h0
      go_simp
      exact hK2.out _ _ ⟨updV xs 11 (.int .i64 ln), by simp [updV, e10], cond_set hC2.out (fun _ _ h => h) rfl, hW⟩
    · intro listed a w' hs hI h0 hd K' hK
      obtain ⟨xs, rfl, hC, hW⟩ := hI
      have hK2 := Lib.hid hK
      have hC2 := Lib.hid hC
      clear hd hK hC h0
      go_simp
      exact hK2.out _ _ ⟨updV xs 12 (.pointer (some ⟨bx + 1, 2, none⟩)), by simp [updV], cond_set hC2.out (fun _ _ h => h) rfl, hW⟩
    · intro listed a w' hs hI h0 hd K' hK
      obtain ⟨xs, rfl, hC, hW⟩ := hI
      have e12 : xs 12 = .pointer (some ⟨bx + 1, 2, none⟩) := hC 12 (hd ⟨12, .data⟩ (by simp) rfl)
      have hK2 := Lib.hid hK
      have hC2 := Lib.hid hC
      have c9 := (hW.1.cell (p := ⟨bx + 1, 2, none⟩) lb2).trans y2
      clear hd hK hC h0
      go_simp
      exact hK2.out _ _ ⟨updV xs 13 (.int .i64 ln'), by simp [updV, e12], cond_set hC2.out (fun _ _ h => h) rfl, hW⟩
    · intro listed a w' hs hI h0 hd K' hK
      obtain ⟨xs, rfl, hC, hW⟩ := hI
      have e11 : xs 11 = .int .i64 ln := hC 11 (hd ⟨11, .data⟩ (by simp) rfl)
      have e13 : xs 13 = .int .i64 ln' := hC 13 (hd ⟨13, .data⟩ (by simp) rfl)
      have hK2 := Lib.hid hK
      have hC2 := Lib.hid hC
      clear hd hK hC h0
      go_simp
      refine (hP2.out _).mono ?_; rintro e w1 ⟨rfl, rfl⟩
      exact hK2.out _ _ ⟨updV xs 14 (.int .i64 v2), by simp [updV, e11, e13], cond_set hC2.out (fun _ _ h => h) rfl, hW⟩
    · intro listed a w' hs hI h0 hd K' hK
      obtain ⟨xs, rfl, hC, hW⟩ := hI
      have hK2 := Lib.hid hK
      have hC2 := Lib.hid hC
      clear hd hK hC h0
      go_simp
      exact hK2.out _ _ ⟨updV xs 15 (.pointer (some ⟨bx, 3, none⟩)), by simp [updV], cond_set hC2.out (fun _ _ h => h) rfl, hW⟩
    · intro listed a w' hs hI h0 hd K' hK
      obtain ⟨xs, rfl, hC, hW⟩ := hI
      have e15 : xs 15 = .pointer (some ⟨bx, 3, none⟩) := hC 15 (hd ⟨15, .data⟩ (by simp) rfl)
      have hK2 := Lib.hid hK
      have hC2 := Lib.hid hC
      have c9 := (hW.1.cell (p := ⟨bx, 3, none⟩) lb1).trans z3
      clear hd hK hC h0
      go_simp
      exact hK2.out _ _ ⟨updV xs 16 (.int .i64 le), by simp [updV, e15], cond_set hC2.out (fun _ _ h => h) rfl, hW⟩
    · intro listed a w' hs hI h0 hd K' hK
      obtain ⟨xs, rfl, hC, hW⟩ := hI
      have hK2 := Lib.hid hK
      have hC2 := Lib.hid hC
      clear hd hK hC h0
      go_simp
      exact hK2.out _ _ ⟨updV xs 17 (.pointer (some ⟨bx + 1, 3, none⟩)), by simp [updV], cond_set hC2.out (fun _ _ h => h) rfl, hW⟩
    · intro listed a w' hs hI h0 hd K' hK
      obtain ⟨xs, rfl, hC, hW⟩ := hI
      have e17 : xs 17 = .pointer (some ⟨bx + 1, 3, none⟩) := hC 17 (hd ⟨17, .data⟩ (by simp) rfl)
      have hK2 := Lib.hid hK
      have hC2 := Lib.hid hC
      have c9 := (hW.1.cell (p := ⟨bx + 1, 3, none⟩) lb2).trans y3
      clear hd hK hC h0
      go_simp
      exact hK2.out _ _ ⟨updV xs 18 (.int .i64 le'), by simp [updV, e17], cond_set hC2.out (fun _ _ h => h) rfl, hW⟩
    · intro listed a w' hs hI h0 hd K' hK
      obtain ⟨xs, rfl, hC, hW⟩ := hI
      have e16 : xs 16 = .int .i64 le := hC 16 (hd ⟨16, .data⟩ (by simp) rfl)
      have e18 : xs 18 = .int .i64 le' := hC 18 (hd ⟨18, .data⟩ (by simp) rfl)
      have hK2 := Lib.hid hK
      have hC2 := Lib.hid hC
      clear hd hK hC h0
      go_simp
      refine (hP3.out _).mono ?_; rintro e w1 ⟨rfl, rfl⟩
      exact hK2.out _ _ ⟨updV xs 19 (.int .i64 v3), by simp [updV, e16, e18], cond_set hC2.out (fun _ _ h => h) rfl, hW⟩
    · intro listed a w' hs hI h0 hd K' hK
      obtain ⟨xs, rfl, hC, hW⟩ := hI
      have hK2 := Lib.hid hK
      have hC2 := Lib.hid hC
      clear hd hK hC h0
      go_simp
      exact hK2.out _ _ ⟨updV xs 20 (.pointer (some ⟨bx, 5, none⟩)), by simp [updV], cond_set hC2.out (fun _ _ h => h) rfl, hW⟩
    · intro listed a w' hs hI h0 hd K' hK
      obtain ⟨xs, rfl, hC, hW⟩ := hI
      have e20 : xs 20 = .pointer (some ⟨bx, 5, none⟩) := hC 20 (hd ⟨20, .data⟩ (by simp) rfl)
      have hK2 := Lib.hid hK
      have hC2 := Lib.hid hC
      have c9 := (hW.1.cell (p := ⟨bx, 5, none⟩) lb1).trans z5
      clear hd hK hC h0
      go_simp
      exact hK2.out _ _ ⟨updV xs 21 (.int .i64 vr), by simp [updV, e20], cond_set hC2.out (fun _ _ h => h) rfl, hW⟩
    · intro listed a w' hs hI h0 hd K' hK
      obtain ⟨xs, rfl, hC, hW⟩ := hI
      have hK2 := Lib.hid hK
      have hC2 := Lib.hid hC
      clear hd hK hC h0
      go_simp
      exact hK2.out _ _ ⟨updV xs 22 (.pointer (some ⟨bx + 1, 5, none⟩)), by simp [updV], cond_set hC2.out (fun _ _ h => h) rfl, hW⟩
    · intro listed a w' hs hI h0 hd K' hK
      obtain ⟨xs, rfl, hC, hW⟩ := hI
      have e22 : xs 22 = .pointer (some ⟨bx + 1, 5, none⟩) := hC 22 (hd ⟨22, .data⟩ (by simp) rfl)
      have hK2 := Lib.hid hK
      have hC2 := Lib.hid hC
      have c9 := (hW.1.cell (p := ⟨bx + 1, 5, none⟩) lb2).trans y5
      clear hd hK hC h0
      go_simp
      exact hK2.out _ _ ⟨updV xs 23 (.int .i64 vr'), by simp [updV, e22], cond_set hC2.out (fun _ _ h => h) rfl, hW⟩
    · intro listed a w' hs hI h0 hd K' hK
      obtain ⟨xs, rfl, hC, hW⟩ := hI
      have e21 : xs 21 = .int .i64 vr := hC 21 (hd ⟨21, .data⟩ (by simp) rfl)
      have e23 : xs 23 = .int .i64 vr' := hC 23 (hd ⟨23, .data⟩ (by simp) rfl)
      have hK2 := Lib.hid hK
      have hC2 := Lib.hid hC
      clear hd hK hC h0
      go_simp
      refine (hP4.out _).mono ?_; rintro e w1 ⟨rfl, rfl⟩
      exact hK2.out _ _ ⟨updV xs 24 (.int .i64 v4), by simp [updV, e21, e23], cond_set hC2.out (fun _ _ h => h) rfl, hW⟩
    · intro listed a w' hs hI h0 hd K' hK
      obtain ⟨xs, rfl, hC, hW⟩ := hI
      have e4 : xs 4 = .int .i64 u := hC 4 (hd ⟨4, .data⟩ (by simp) rfl)
      have e9 : xs 9 = .int .i64 v1 := hC 9 (hd ⟨9, .data⟩ (by simp) rfl)
      have e14 : xs 14 = .int .i64 v2 := hC 14 (hd ⟨14, .data⟩ (by simp) rfl)
      have e19 : xs 19 = .int .i64 v3 := hC 19 (hd ⟨19, .data⟩ (by simp) rfl)
      have e24 : xs 24 = .int .i64 v4 := hC 24 (hd ⟨24, .data⟩ (by simp) rfl)
      have hK2 := Lib.hid hK
      have hC2 := Lib.hid hC
      clear hd hK hC h0
      go_simp
      exact hK2.out _ _ ⟨updV xs 25 (.slice (some ⟨w'.heap.size, 0, none⟩) 5 5), by simp [updV, e4, e9, e14, e19, e24], cond_set hC2.out (CX.mono (fun z cs h => blk_alloc h _)) ⟨w'.heap.size, rfl, heap_alloc_new w' _⟩, ⟨below_next hW.1 (below_new w' _), hW.2⟩⟩
    · intro listed a w' hs hI h0 hd K' hK
      obtain ⟨xs, rfl, hC, hW⟩ := hI
      obtain ⟨z25, e25, hz25⟩ : ∃ z, xs 25 = .slice (some ⟨z, 0, none⟩) 5 5 ∧ w'.heap[z]? = some (.cells #[.int .i64 u, .int .i64 v1, .int .i64 v2, .int .i64 v3, .int .i64 v4] 3 (0, 0)) := hC 25 (hd ⟨25, .data⟩ (by simp) rfl)
      have hK2 := Lib.hid hK
      have hC2 := Lib.hid hC
      have r9 : RI 3 w' (some ⟨z25, 0, none⟩) 5 [u, v1, v2, v3, v4] := R1.of_lit hz25 rfl rfl (by decide)
      clear hd hK hC h0
      go_simp
      refine (orP_c _ _ 5 [u, v1, v2, v3, v4] _ r9).mono ?_; rintro e w1 ⟨rfl, rfl⟩
      exact hK2.out _ _ ⟨updV xs 26 (.int .i64 (orV [u, v1, v2, v3, v4])), by simp [updV, e25], cond_set hC2.out (fun _ _ h => h) rfl, hW⟩
    · intro listed a w' hs hI h0 hd K' hK
      obtain ⟨xs, rfl, hC, hW⟩ := hI
      have e26 : xs 26 = .int .i64 (orV [u, v1, v2, v3, v4]) := hC 26 (hd ⟨26, .data⟩ (by simp) rfl)
      have hK2 := Lib.hid hK
      have hC2 := Lib.hid hC
      clear hd hK hC h0
      go_simp
      exact hK2.out _ _ ⟨updV xs 27 (.int .i64 (orV [u, v1, v2, v3, v4])), by simp [updV, e26], cond_set hC2.out (fun _ _ h => h) rfl, hW⟩
  case he =>
    intro listed a w' hs hI hr
    obtain ⟨xs, rfl, hC, hW⟩ := hI
    have eL : xs 27 = .int .i64 (orV [u, v1, v2, v3, v4]) := hC 27 (all_listed hs hr ⟨rfl, rfl, rfl, rfl, rfl, rfl, rfl, rfl, rfl, rfl, rfl, rfl, rfl, rfl, rfl, rfl, rfl, rfl, rfl, rfl, rfl, rfl, rfl, rfl, rfl, rfl, rfl, rfl, trivial⟩ 27 (by simp))
    obtain ⟨hB9, hD9⟩ := hW
    clear hC hs hr
    rw [eL]
    go_wp2
    go_ret
    exact ⟨ret_i hV.out.symm, below_next (show Below W.heap.size W w5 by rw [hbx]; exact hBB) hB9, by omega⟩
set_option maxHeartbeats 1600000 in
set_option maxRecDepth 100000 in
theorem byFix_c (x y : Fx) (W : World) : Calls Tryz.prog 58 #[.agg (fxE x).toArray, .agg (fxE y).toArray] W fun e w' => e = .returned (.int .i64 (fxCf x y)) ∧ Below W.heap.size W w' ∧ W.drawn ≤ w'.drawn := by
  have hV := Lib.hid (show fxCf x y = orV [cmpB x.rc y.rc, Lib.compareInt x.ht y.ht, Lib.compareInt x.ln y.ln, Lib.compareInt x.le y.le, Lib.compareInt x.vr y.vr] from rfl)
  generalize fxCf x y = V at *
  obtain ⟨rc, ht, ln, le, tm, vr, by_⟩ := x
  obtain ⟨rc', ht', ln', le', tm', vr', by_'⟩ := y
  dsimp only [fxE] at *
  have hC := Lib.hid (fun p q W => show Calls Tryz.prog 56 #[.int .i64 p, .int .i64 q] W fun e w' => e = .returned (.int .i64 (Lib.compareInt p q)) ∧ W = w' from (Tryz.cmp_Compare_int p q W).mono fun _ _ ⟨h1, h2⟩ => ⟨h1, h2.symm⟩)
  have hS := Lib.hid (fun W => show Calls Tryz.prog 75 #[.string rc, .string rc'] W fun e w' => e = .returned (.int .i64 (cmpB rc rc')) ∧ W = w' from (Tryz.strings_Compare rc rc' W).mono fun _ _ ⟨h1, h2⟩ => ⟨h1, h2.symm⟩)
  have hP1 := Lib.hid (fun W => hC.out ht ht' W)
  have hP2 := Lib.hid (fun W => hC.out ln ln' W)
  have hP3 := Lib.hid (fun W => hC.out le le' W)
  have hP4 := Lib.hid (fun W => hC.out vr vr' W)
  clear hC
  generalize hu : cmpB rc rc' = u at *
  generalize hv1 : Lib.compareInt ht ht' = v1 at *
  generalize hv2 : Lib.compareInt ln ln' = v2 at *
  generalize hv3 : Lib.compareInt le le' = v3 at *
  generalize hv4 : Lib.compareInt vr vr' = v4 at *
  clear hu hv1 hv2 hv3 hv4
  have hb0 := heap_alloc_new W (.cells #[.string rc, .int .i64 ht, .int .i64 ln, .int .i64 le, .int .i64 tm, .int .i64 vr, .string by_] 69)
  have hb1 := blk_alloc hb0 (.cells #[.string rc', .int .i64 ht', .int .i64 ln', .int .i64 le', .int .i64 tm', .int .i64 vr', .string by_'] 69)
  have hb2 := heap_alloc_new (W.alloc (.cells #[.string rc, .int .i64 ht, .int .i64 ln, .int .i64 le, .int .i64 tm, .int .i64 vr, .string by_] 69)) (.cells #[.string rc', .int .i64 ht', .int .i64 ln', .int .i64 le', .int .i64 tm', .int .i64 vr', .string by_'] 69)
  rw [alloc_sizeS] at hb2
  have hBB := below_box (below_box (Below.refl ((W.alloc (.cells #[.string rc, .int .i64 ht, .int .i64 ln, .int .i64 le, .int .i64 tm, .int .i64 vr, .string by_] 69)).alloc (.cells #[.string rc', .int .i64 ht', .int .i64 ln', .int .i64 le', .int .i64 tm', .int .i64 vr', .string by_'] 69)).heap.size _))
  have hD : ((W.alloc (.cells #[.string rc, .int .i64 ht, .int .i64 ln, .int .i64 le, .int .i64 tm, .int .i64 vr, .string by_] 69)).alloc (.cells #[.string rc', .int .i64 ht', .int .i64 ln', .int .i64 le', .int .i64 tm', .int .i64 vr', .string by_'] 69)).drawn = W.drawn := rfl
  go_enter Tryz.func58, Tryz.ntmps58
  go_wp2_with fail
  generalize (W.alloc (.cells #[.string rc, .int .i64 ht, .int .i64 ln, .int .i64 le, .int .i64 tm, .int .i64 vr, .string by_] 69)).alloc (.cells #[.string rc', .int .i64 ht', .int .i64 ln', .int .i64 le', .int .i64 tm', .int .i64 vr', .string by_'] 69) = w5 at *
  generalize hbx : W.heap.size = bx at *
  have z0 := (blk_facts hb1).1 0
  have y0 := (blk_facts hb2).1 0
  have z1 := (blk_facts hb1).1 1
  have y1 := (blk_facts hb2).1 1
  have z2 := (blk_facts hb1).1 2
  have y2 := (blk_facts hb2).1 2
  have z3 := (blk_facts hb1).1 3
  have y3 := (blk_facts hb2).1 3
  have z5 := (blk_facts hb1).1 5
  have y5 := (blk_facts hb2).1 5
  clear hb0
  have lb1 := lt_of_heap hb1
  have lb2 := lt_of_heap hb2
  refine wp_region_inv (by kernel_rfl) (fun listed a w' => ∃ xs : Nat → Value, a = { tmps := #[.agg #[.string rc, .int .i64 ht, .int .i64 ln, .int .i64 le, .int .i64 tm, .int .i64 vr, .string by_], .agg #[.string rc', .int .i64 ht', .int .i64 ln', .int .i64 le', .int .i64 tm', .int .i64 vr', .string by_'], .pointer (some ⟨bx, 0, none⟩), .pointer (some ⟨bx + 1, 0, none⟩), xs 27, xs 0, xs 1, xs 2, xs 3, xs 4, xs 5, xs 6, xs 7, xs 8, xs 9, xs 10, xs 11, xs 12, xs 13, xs 14, xs 15, xs 16, xs 17, xs 18, xs 19, xs 20, xs 21, xs 22, xs 23, xs 24, xs 25, xs 26], defers := [] } ∧ (∀ j, listed.getD j false = true → CX rc ht ln le vr rc' ht' ln' le' vr' u v1 v2 v3 v4 bx j w' (xs j)) ∧ (Below w5.heap.size w5 w' ∧ w5.drawn ≤ w'.drawn)) ?h0 (AllOps.of ?hs) ?he
  case h0 => exact ⟨fun j => match j with | 0 => undef | 1 => undef | 2 => undef | 3 => undef | 4 => undef | 5 => undef | 6 => undef | 7 => undef | 8 => undef | 9 => undef | 10 => undef | 11 => undef | 12 => undef | 13 => undef | 14 => undef | 15 => undef | 16 => undef | 17 => undef | 18 => undef | 19 => undef | 20 => undef | 21 => undef | 22 => undef | 23 => undef | 24 => undef | 25 => undef | 26 => undef | 27 => .int .i64 0 | _ => undef, rfl, (fun j hj => by rw [rep_false] at hj; cases hj), ⟨below_drewN (Below.refl _ _) 1, Nat.le_succ _⟩⟩
  case hs =>
    refine ⟨?_, ?_, ?_, ?_, ?_, ?_, ?_, ?_, ?_, ?_, ?_, ?_, ?_, ?_, ?_, ?_, ?_, ?_, ?_, ?_, ?_, ?_, ?_, ?_, ?_, ?_, ?_, ?_, trivial⟩
    · intro listed a w' hs hI h0 hd K' hK
      obtain ⟨xs, rfl, hC, hW⟩ := hI
      have hK2 := Lib.hid hK
      have hC2 := Lib.hid hC
      clear hd hK hC h0
      go_simp
      exact hK2.out _ _ ⟨updV xs 0 (.pointer (some ⟨bx, 0, none⟩)), by simp [updV], cond_set hC2.out (fun _ _ h => h) rfl, hW⟩
    · intro listed a w' hs hI h0 hd K' hK
      obtain ⟨xs, rfl, hC, hW⟩ := hI
      have e0 : xs 0 = .pointer (some ⟨bx, 0, none⟩) := hC 0 (hd ⟨0, .data⟩ (by simp) rfl)
      have hK2 := Lib.hid hK
      have hC2 := Lib.hid hC
      have c9 := (hW.1.cell (p := ⟨bx, 0, none⟩) lb1).trans z0
      clear hd hK hC h0
      go_simp
      exact hK2.out _ _ ⟨updV xs 1 (.string rc), by simp [updV, e0], cond_set hC2.out (fun _ _ h => h) rfl, hW⟩
    · intro listed a w' hs hI h0 hd K' hK
      obtain ⟨xs, rfl, hC, hW⟩ := hI
      have hK2 := Lib.hid hK
      have hC2 := Lib.hid hC
      clear hd hK hC h0
      go_simp
      exact hK2.out _ _ ⟨updV xs 2 (.pointer (some ⟨bx + 1, 0, none⟩)), by simp [updV], cond_set hC2.out (fun _ _ h => h) rfl, hW⟩
    · intro listed a w' hs hI h0 hd K' hK
      obtain ⟨xs, rfl, hC, hW⟩ := hI
      have e2 : xs 2 = .pointer (some ⟨bx + 1, 0, none⟩) := hC 2 (hd ⟨2, .data⟩ (by simp) rfl)
      have hK2 := Lib.hid hK
      have hC2 := Lib.hid hC
      have c9 := (hW.1.cell (p := ⟨bx + 1, 0, none⟩) lb2).trans y0
      clear hd hK hC h0
      go_simp
      exact hK2.out _ _ ⟨updV xs 3 (.string rc'), by simp [updV, e2], cond_set hC2.out (fun _ _ h => h) rfl, hW⟩
    · intro listed a w' hs hI h0 hd K' hK
      obtain ⟨xs, rfl, hC, hW⟩ := hI
      have e1 : xs 1 = .string rc := hC 1 (hd ⟨1, .data⟩ (by simp) rfl)
      have e3 : xs 3 = .string rc' := hC 3 (hd ⟨3, .data⟩ (by simp) rfl)
      have hK2 := Lib.hid hK
      have hC2 := Lib.hid hC
      clear hd hK hC h0
      go_simp
      refine (hS.out _).mono ?_; rintro e w1 ⟨rfl, rfl⟩
      exact hK2.out _ _ ⟨updV xs 4 (.int .i64 u), by simp [updV, e1, e3], cond_set hC2.out (fun _ _ h => h) rfl, hW⟩
    · intro listed a w' hs hI h0 hd K' hK
      obtain ⟨xs, rfl, hC, hW⟩ := hI
      have hK2 := Lib.hid hK
      have hC2 := Lib.hid hC
      clear hd hK hC h0
      go_simp
      exact hK2.out _ _ ⟨updV xs 5 (.pointer (some ⟨bx, 1, none⟩)), by simp [updV], cond_set hC2.out (fun _ _ h => h) rfl, hW⟩
    · intro listed a w' hs hI h0 hd K' hK
      obtain ⟨xs, rfl, hC, hW⟩ := hI
      have e5 : xs 5 = .pointer (some ⟨bx, 1, none⟩) := hC 5 (hd ⟨5, .data⟩ (by simp) rfl)
      have hK2 := Lib.hid hK
      have hC2 := Lib.hid hC
      have c9 := (hW.1.cell (p := ⟨bx, 1, none⟩) lb1).trans z1
      clear hd hK hC h0
      go_simp
      exact hK2.out _ _ ⟨updV xs 6 (.int .i64 ht), by simp [updV, e5], cond_set hC2.out (fun _ _ h => h) rfl, hW⟩
    · intro listed a w' hs hI h0 hd K' hK
      obtain ⟨xs, rfl, hC, hW⟩ := hI
      have hK2 := Lib.hid hK
      have hC2 := Lib.hid hC
      clear hd hK hC h0
      go_simp
      exact hK2.out _ _ ⟨updV xs 7 (.pointer (some ⟨bx + 1, 1, none⟩)), by simp [updV], cond_set hC2.out (fun _ _ h => h) rfl, hW⟩
    · intro listed a w' hs hI h0 hd K' hK
      obtain ⟨xs, rfl, hC, hW⟩ := hI
      have e7 : xs 7 = .pointer (some ⟨bx + 1, 1, none⟩) := hC 7 (hd ⟨7, .data⟩ (by simp) rfl)
      have hK2 := Lib.hid hK
      have hC2 := Lib.hid hC
      have c9 := (hW.1.cell (p := ⟨bx + 1, 1, none⟩) lb2).trans y1
      clear hd hK hC h0
      go_simp
      exact hK2.out _ _ ⟨updV xs 8 (.int .i64 ht'), by simp [updV, e7], cond_set hC2.out (fun _ _ h => h) rfl, hW⟩
    · intro listed a w' hs hI h0 hd K' hK
      obtain ⟨xs, rfl, hC, hW⟩ := hI
      have e6 : xs 6 = .int .i64 ht := hC 6 (hd ⟨6, .data⟩ (by simp) rfl)
      have e8 : xs 8 = .int .i64 ht' := hC 8 (hd ⟨8, .data⟩ (by simp) rfl)
      have hK2 := Lib.hid hK
      have hC2 := Lib.hid hC
      clear hd hK hC h0
      go_simp
      refine (hP1.out _).mono ?_; rintro e w1 ⟨rfl, rfl⟩
      exact hK2.out _ _ ⟨updV xs 9 (.int .i64 v1), by simp [updV, e6, e8], cond_set hC2.out (fun _ _ h => h) rfl, hW⟩
    · intro listed a w' hs hI h0 hd K' hK
      obtain ⟨xs, rfl, hC, hW⟩ := hI
      have hK2 := Lib.hid hK
      have hC2 := Lib.hid hC
      clear hd hK hC h0
      go_simp
      exact hK2.out _ _ ⟨updV xs 10 (.pointer (some ⟨bx, 2, none⟩)), by simp [updV], cond_set hC2.out (fun _ _ h => h) rfl, hW⟩
    · intro listed a w' hs hI h0 hd K' hK
      obtain ⟨xs, rfl, hC, hW⟩ := hI
      have e10 : xs 10 = .pointer (some ⟨bx, 2, none⟩) := hC 10 (hd ⟨10, .data⟩ (by simp) rfl)
      have hK2 := Lib.hid hK
      have hC2 := Lib.hid hC
      have c9 := (hW.1.cell (p := ⟨bx, 2, none⟩) lb1).trans z2
      clear hd hK hC h0
      go_simp
      exact hK2.out _ _ ⟨updV xs 11 (.int .i64 ln), by simp [updV, e10], cond_set hC2.out (fun _ _ h => h) rfl, hW⟩
    · intro listed a w' hs hI h0 hd K' hK
      obtain ⟨xs, rfl, hC, hW⟩ := hI
      have hK2 := Lib.hid hK
      have hC2 := Lib.hid hC
      clear hd hK hC h0
      go_simp
      exact hK2.out _ _ ⟨updV xs 12 (.pointer (some ⟨bx + 1, 2, none⟩)), by simp [updV], cond_set hC2.out (fun _ _ h => h) rfl, hW⟩
    · intro listed a w' hs hI h0 hd K' hK
      obtain ⟨xs, rfl, hC, hW⟩ := hI
      have e12 : xs 12 = .pointer (some ⟨bx + 1, 2, none⟩) := hC 12 (hd ⟨12, .data⟩ (by simp) rfl)
      have hK2 := Lib.hid hK
      have hC2 := Lib.hid hC
      have c9 := (hW.1.cell (p := ⟨bx + 1, 2, none⟩) lb2).trans y2
      clear hd hK hC h0
      go_simp
      exact hK2.out _ _ ⟨updV xs 13 (.int .i64 ln'), by simp [updV, e12], cond_set hC2.out (fun _ _ h => h) rfl, hW⟩
    · intro listed a w' hs hI h0 hd K' hK
      obtain ⟨xs, rfl, hC, hW⟩ := hI
      have e11 : xs 11 = .int .i64 ln := hC 11 (hd ⟨11, .data⟩ (by simp) rfl)
      have e13 : xs 13 = .int .i64 ln' := hC 13 (hd ⟨13, .data⟩ (by simp) rfl)
      have hK2 := Lib.hid hK
      have hC2 := Lib.hid hC
      clear hd hK hC h0
      go_simp
      refine (hP2.out _).mono ?_; rintro e w1 ⟨rfl, rfl⟩
      exact hK2.out _ _ ⟨updV xs 14 (.int .i64 v2), by simp [updV, e11, e13], cond_set hC2.out (fun _ _ h => h) rfl, hW⟩
    · intro listed a w' hs hI h0 hd K' hK
      obtain ⟨xs, rfl, hC, hW⟩ := hI
      have hK2 := Lib.hid hK
      have hC2 := Lib.hid hC
      clear hd hK hC h0
      go_simp
      exact hK2.out _ _ ⟨updV xs 15 (.pointer (some ⟨bx, 3, none⟩)), by simp [updV], cond_set hC2.out (fun _ _ h => h) rfl, hW⟩
    · intro listed a w' hs hI h0 hd K' hK
      obtain ⟨xs, rfl, hC, hW⟩ := hI
      have e15 : xs 15 = .pointer (some ⟨bx, 3, none⟩) := hC 15 (hd ⟨15, .data⟩ (by simp) rfl)
      have hK2 := Lib.hid hK
      have hC2 := Lib.hid hC
      have c9 := (hW.1.cell (p := ⟨bx, 3, none⟩) lb1).trans z3
      clear hd hK hC h0
      go_simp
      exact hK2.out _ _ ⟨updV xs 16 (.int .i64 le), by simp [updV, e15], cond_set hC2.out (fun _ _ h => h) rfl, hW⟩
    · intro listed a w' hs hI h0 hd K' hK
      obtain ⟨xs, rfl, hC, hW⟩ := hI
      have hK2 := Lib.hid hK
      have hC2 := Lib.hid hC
      clear hd hK hC h0
      go_simp
      exact hK2.out _ _ ⟨updV xs 17 (.pointer (some ⟨bx + 1, 3, none⟩)), by simp [updV], cond_set hC2.out (fun _ _ h => h) rfl, hW⟩
    · intro listed a w' hs hI h0 hd K' hK
      obtain ⟨xs, rfl, hC, hW⟩ := hI
      have e17 : xs 17 = .pointer (some ⟨bx + 1, 3, none⟩) := hC 17 (hd ⟨17, .data⟩ (by simp) rfl)
      have hK2 := Lib.hid hK
      have hC2 := Lib.hid hC
      have c9 := (hW.1.cell (p := ⟨bx + 1, 3, none⟩) lb2).trans y3
      clear hd hK hC h0
      go_simp
      exact hK2.out _ _ ⟨updV xs 18 (.int .i64 le'), by simp [updV, e17], cond_set hC2.out (fun _ _ h => h) rfl, hW⟩
    · intro listed a w' hs hI h0 hd K' hK
      obtain ⟨xs, rfl, hC, hW⟩ := hI
      have e16 : xs 16 = .int .i64 le := hC 16 (hd ⟨16, .data⟩ (by simp) rfl)
      have e18 : xs 18 = .int .i64 le' := hC 18 (hd ⟨18, .data⟩ (by simp) rfl)
      have hK2 := Lib.hid hK
      have hC2 := Lib.hid hC
      clear hd hK hC h0
      go_simp
      refine (hP3.out _).mono ?_; rintro e w1 ⟨rfl, rfl⟩
      exact hK2.out _ _ ⟨updV xs 19 (.int .i64 v3), by simp [updV, e16, e18], cond_set hC2.out (fun _ _ h => h) rfl, hW⟩
    · intro listed a w' hs hI h0 hd K' hK
      obtain ⟨xs, rfl, hC, hW⟩ := hI
      have hK2 := Lib.hid hK
      have hC2 := Lib.hid hC
      clear hd hK hC h0
      go_simp
      exact hK2.out _ _ ⟨updV xs 20 (.pointer (some ⟨bx, 5, none⟩)), by simp [updV], cond_set hC2.out (fun _ _ h => h) rfl, hW⟩
    · intro listed a w' hs hI h0 hd K' hK
      obtain ⟨xs, rfl, hC, hW⟩ := hI
      have e20 : xs 20 = .pointer (some ⟨bx, 5, none⟩) := hC 20 (hd ⟨20, .data⟩ (by simp) rfl)
      have hK2 := Lib.hid hK
      have hC2 := Lib.hid hC
      have c9 := (hW.1.cell (p := ⟨bx, 5, none⟩) lb1).trans z5
      clear hd hK hC h0
      go_simp
      exact hK2.out _ _ ⟨updV xs 21 (.int .i64 vr), by simp [updV, e20], cond_set hC2.out (fun _ _ h => h) rfl, hW⟩
    · intro listed a w' hs hI h0 hd K' hK
      obtain ⟨xs, rfl, hC, hW⟩ := hI
      have hK2 := Lib.hid hK
      have hC2 := Lib.hid hC
      clear hd hK hC h0
      go_simp
      exact hK2.out _ _ ⟨updV xs 22 (.pointer (some ⟨bx + 1, 5, none⟩)), by simp [updV], cond_set hC2.out (fun _ _ h => h) rfl, hW⟩
    · intro listed a w' hs hI h0 hd K' hK
      obtain ⟨xs, rfl, hC, hW⟩ := hI
      have e22 : xs 22 = .pointer (some ⟨bx + 1, 5, none⟩) := hC 22 (hd ⟨22, .data⟩ (by simp) rfl)
      have hK2 := Lib.hid hK
      have hC2 := Lib.hid hC
      have c9 := (hW.1.cell (p := ⟨bx + 1, 5, none⟩) lb2).trans y5
      clear hd hK hC h0
      go_simp
      exact hK2.out _ _ ⟨updV xs 23 (.int .i64 vr'), by simp [updV, e22], cond_set hC2.out (fun _ _ h => h) rfl, hW⟩
    · intro listed a w' hs hI h0 hd K' hK
      obtain ⟨xs, rfl, hC, hW⟩ := hI
      have e21 : xs 21 = .int .i64 vr := hC 21 (hd ⟨21, .data⟩ (by simp) rfl)
      have e23 : xs 23 = .int .i64 vr' := hC 23 (hd ⟨23, .data⟩ (by simp) rfl)
      have hK2 := Lib.hid hK
      have hC2 := Lib.hid hC
      clear hd hK hC h0
      go_simp
      refine (hP4.out _).mono ?_; rintro e w1 ⟨rfl, rfl⟩
      exact hK2.out _ _ ⟨updV xs 24 (.int .i64 v4), by simp [updV, e21, e23], cond_set hC2.out (fun _ _ h => h) rfl, hW⟩
    · intro listed a w' hs hI h0 hd K' hK
      obtain ⟨xs, rfl, hC, hW⟩ := hI
      have e4 : xs 4 = .int .i64 u := hC 4 (hd ⟨4, .data⟩ (by simp) rfl)
      have e9 : xs 9 = .int .i64 v1 := hC 9 (hd ⟨9, .data⟩ (by simp) rfl)
      have e14 : xs 14 = .int .i64 v2 := hC 14 (hd ⟨14, .data⟩ (by simp) rfl)
      have e19 : xs 19 = .int .i64 v3 := hC 19 (hd ⟨19, .data⟩ (by simp) rfl)
      have e24 : xs 24 = .int .i64 v4 := hC 24 (hd ⟨24, .data⟩ (by simp) rfl)
      have hK2 := Lib.hid hK
      have hC2 := Lib.hid hC
      clear hd hK hC h0
      go_simp
      exact hK2.out _ _ ⟨updV xs 25 (.slice (some ⟨w'.heap.size, 0, none⟩) 5 5), by simp [updV, e4, e9, e14, e19, e24], cond_set hC2.out (CX.mono (fun z cs h => blk_alloc h _)) ⟨w'.heap.size, rfl, heap_alloc_new w' _⟩, ⟨below_next hW.1 (below_new w' _), hW.2⟩⟩
    · intro listed a w' hs hI h0 hd K' hK
      obtain ⟨xs, rfl, hC, hW⟩ := hI
      obtain ⟨z25, e25, hz25⟩ : ∃ z, xs 25 = .slice (some ⟨z, 0, none⟩) 5 5 ∧ w'.heap[z]? = some (.cells #[.int .i64 u, .int .i64 v1, .int .i64 v2, .int .i64 v3, .int .i64 v4] 3 (0, 0)) := hC 25 (hd ⟨25, .data⟩ (by simp) rfl)
      have hK2 := Lib.hid hK
      have hC2 := Lib.hid hC
      have r9 : RI 3 w' (some ⟨z25, 0, none⟩) 5 [u, v1, v2, v3, v4] := R1.of_lit hz25 rfl rfl (by decide)
      clear hd hK hC h0
      go_simp
      refine (orP_c _ _ 5 [u, v1, v2, v3, v4] _ r9).mono ?_; rintro e w1 ⟨rfl, rfl⟩
      exact hK2.out _ _ ⟨updV xs 26 (.int .i64 (orV [u, v1, v2, v3, v4])), by simp [updV, e25], cond_set hC2.out (fun _ _ h => h) rfl, hW⟩
    · intro listed a w' hs hI h0 hd K' hK
      obtain ⟨xs, rfl, hC, hW⟩ := hI
      have e26 : xs 26 = .int .i64 (orV [u, v1, v2, v3, v4]) := hC 26 (hd ⟨26, .data⟩ (by simp) rfl)
      have hK2 := Lib.hid hK
      have hC2 := Lib.hid hC
      clear hd hK hC h0
      go_simp
      exact hK2.out _ _ ⟨updV xs 27 (.int .i64 (orV [u, v1, v2, v3, v4])), by simp [updV, e26], cond_set hC2.out (fun _ _ h => h) rfl, hW⟩
  case he =>
    intro listed a w' hs hI hr
    obtain ⟨xs, rfl, hC, hW⟩ := hI
    have eL : xs 27 = .int .i64 (orV [u, v1, v2, v3, v4]) := hC 27 (all_listed hs hr ⟨rfl, rfl, rfl, rfl, rfl, rfl, rfl, rfl, rfl, rfl, rfl, rfl, rfl, rfl, rfl, rfl, rfl, rfl, rfl, rfl, rfl, rfl, rfl, rfl, rfl, rfl, rfl, rfl, trivial⟩ 27 (by simp))
    obtain ⟨hB9, hD9⟩ := hW
    clear hC hs hr
    rw [eL]
    go_wp2
    go_ret
    exact ⟨ret_i hV.out.symm, below_next (show Below W.heap.size W w5 by rw [hbx]; exact hBB) hB9, by omega⟩
/-- the error of a fix alone -/
def fx1 (x : Fx) : Int := if keyB x.rc = false ∨ keyB x.by_ = false then 5
  else if (1 ≤ x.ht ∧ x.ht ≤ 60) ∧ (1 ≤ x.ln ∧ x.ln ≤ 10) ∧ (0 ≤ x.le ∧ x.le ≤ 240) ∧ (0 ≤ x.tm ∧ x.tm ≤ 360000) ∧ (1 ≤ x.vr ∧ x.vr ≤ 1000) then 0 else 1
def prevFx (l : List Fx) (k : Nat) : Option Fx := if k = 0 then none else l[k - 1]?
def badFx (o : Option Fx) (x : Fx) : Bool := match o with | some y => decide (0 ≤ fxCf y x) | none => false
def fxGo : Option Fx → List Fx → Int
  | _, [] => 0
  | o, x :: r => if fx1 x ≠ 0 then fx1 x else if badFx o x = true then 7 else fxGo (some x) r
def fxErr (l : List Fx) : Int := if 300 < l.length then 2 else fxGo none l
theorem fxGo_at {l : List Fx} {k : Nat} {x : Fx} (h : l[k]? = some x) : fxGo (prevFx l k) (l.drop k) = if fx1 x ≠ 0 then fx1 x else if badFx (prevFx l k) x = true then 7 else fxGo (prevFx l (k + 1)) (l.drop (k + 1)) := by
  have e : prevFx l (k + 1) = some x := by unfold prevFx; rw [if_neg (by omega)]; exact h
  rw [drop_at h, e]
  rfl
/-- what is known of the fix ahead -/
def PrevX (w : World) (b off : Nat) (l : List Fx) (k : Nat) : Prop := (k = 0 ∧ prevFx l k = none) ∨ (1 ≤ k ∧ ∃ y, prevFx l k = some y ∧ w.cell? ⟨b, off + (k - 1) * 7, none⟩ = some (.string y.rc) ∧ w.cell? ⟨b, off + (k - 1) * 7 + 1, none⟩ = some (.int .i64 y.ht) ∧ w.cell? ⟨b, off + (k - 1) * 7 + 2, none⟩ = some (.int .i64 y.ln) ∧ w.cell? ⟨b, off + (k - 1) * 7 + 3, none⟩ = some (.int .i64 y.le) ∧ w.cell? ⟨b, off + (k - 1) * 7 + 4, none⟩ = some (.int .i64 y.tm) ∧ w.cell? ⟨b, off + (k - 1) * 7 + 5, none⟩ = some (.int .i64 y.vr) ∧ w.cell? ⟨b, off + (k - 1) * 7 + 6, none⟩ = some (.string y.by_))
theorem prevX_of {w : World} {b off n : Nat} {l : List Fx} (h : RFx w (some ⟨b, off, none⟩) n l) {k : Nat} (hk : k < n) : PrevX w b off l k := by
  by_cases h0 : k = 0
  · exact .inl ⟨h0, if_pos h0⟩
  · obtain ⟨b', off', y, hA, _, hy, d⟩ := RFx_at7 h (k := k - 1) (by omega)
    injection hA with hA
    injection hA with e1 e2
    subst e1 e2
    exact .inr ⟨by omega, y, by unfold prevFx; rw [if_neg h0]; exact hy, d⟩
set_option maxHeartbeats 6400000 in
set_option maxRecDepth 100000 in
theorem checkFixes_c (A : Option Addr) (n c : Nat) (l : List Fx) (w : World) (h : RFx w A n l) :
    Calls Tryz.prog 23 #[.slice A n c] w fun e w' => e = .returned (.int .i64 (fxErr l)) ∧ Below w.heap.size w w' := by
  have hR := Lib.hid (fun W B => h.below (w' := W) B)
  have hbd := h.bd
  have hl := Lib.hid h.len
  have hE := Lib.hid (show fxErr l = if 300 < n then 2 else fxGo none l by unfold fxErr; rw [h.len])
  have hGa := Lib.hid (fun k x (h : l[k]? = some x) => fxGo_at h)
  have hG0 := Lib.hid (fun o => show fxGo o [] = 0 by cases o <;> rfl)
  have hPk := Lib.hid (fun (W : World) b off k (h : RFx W (some ⟨b, off, none⟩) n l) (hk : k < n) => prevX_of h hk)
  generalize fxErr l = E at *
  generalize fxGo = SG at *
  clear h
  by_cases hbig : 300 < n
  · obtain rfl : E = 2 := by rw [hE.out, if_pos hbig]
    clear hE
    go_enter Tryz.func23, Tryz.ntmps23
    go_wp2
    go_ret
    exact ⟨rfl, Below.refl _ _⟩
  have hE2 := Lib.hid (show E = SG none l by rw [hE.out, if_neg hbig])
  clear hE
  go_enter Tryz.func23, Tryz.ntmps23
  go_wp2
  go_loopw [10] (fun i wr => ∃ (k : Nat), k ≤ n ∧ i = .int .i64 k ∧ Below w.heap.size w wr ∧ Hid (SG (prevFx l k) (l.drop k) = SG none l)) (fun i _ => n - (intOf i).toNat)
  case atStart => exact ⟨0, Nat.zero_le _, rfl, Below.refl _ _, Lib.hid rfl⟩
  case round =>
    obtain ⟨k, hk, rfl, hB, hF⟩ := hrel
    by_cases hlt : k < n
    · obtain ⟨b, off, x, rfl, hbl, hx, c0, c1, c2, c3, c4, c5, c6⟩ := RFx_at7 (hR.out _ hB) hlt
      have hP := hPk.out _ _ _ _ (hR.out _ hB) hlt
      have hS := Lib.hid ((hGa.out k x hx).symm.trans hF.out)
      have hfx := Lib.hid (show fx1 x = if keyB x.rc = false ∨ keyB x.by_ = false then 5 else if (1 ≤ x.ht ∧ x.ht ≤ 60) ∧ (1 ≤ x.ln ∧ x.ln ≤ 10) ∧ (0 ≤ x.le ∧ x.le ≤ 240) ∧ (0 ≤ x.tm ∧ x.tm ≤ 360000) ∧ (1 ≤ x.vr ∧ x.vr ≤ 1000) then 0 else 1 from rfl)
      clear hx hF
      obtain ⟨rc, ht, ln, le, tm, vr, by_⟩ := x
      dsimp only at *
      have hK1 := Lib.hid (fun W => isKey_c rc W)
      have hK2 := Lib.hid (fun W => isKey_c by_ W)
      have hn0 := heap_alloc_new wr (.cells #[.string rc, .int .i64 ht, .int .i64 ln, .int .i64 le, .int .i64 tm, .int .i64 vr, .string by_] 69)
      have hBn := below_new wr (.cells #[.string rc, .int .i64 ht, .int .i64 ln, .int .i64 le, .int .i64 tm, .int .i64 vr, .string by_] 69)
      generalize hsg : fx1 ⟨rc, ht, ln, le, tm, vr, by_⟩ = e1 at *
      clear hsg
      have y0 := (blk_facts hn0).1 0
      generalize keyB rc = k1 at *
      generalize keyB by_ = k2 at *
      go_wp2_with fail
      refine (hK1.out _).mono ?_; rintro e w3 ⟨rfl, B3⟩
      have hb3 := blk_below hn0 B3
      have hB3 := below_next hBn B3
      clear hK1 B3 hBn hn0 y0
      by_cases hk1 : k1 = true
      rotate_left
      · obtain rfl : k1 = false := by simpa using hk1
        obtain rfl : e1 = 5 := by rw [hfx.out, if_pos (.inl rfl)]
        obtain rfl : E = 5 := by rw [hE2.out, ← hS.out, if_pos (by decide)]
        have hB9 := below_next hB hB3
        clear hE2 hS hk1 hfx hK2 hP
        go_wp2
        go_ret
        exact ⟨rfl, hB9⟩
      subst hk1
      have y6 := (blk_facts hb3).1 6
      go_wp2_with fail
      refine (hK2.out _).mono ?_; rintro e w4 ⟨rfl, B4⟩
      have hb4 := blk_below hb3 B4
      have hB4 := below_next hB3 B4
      clear hK2 B4 hB3 hb3 y6
      by_cases hk2 : k2 = true
      rotate_left
      · obtain rfl : k2 = false := by simpa using hk2
        obtain rfl : e1 = 5 := by rw [hfx.out, if_pos (.inr rfl)]
        obtain rfl : E = 5 := by rw [hE2.out, ← hS.out, if_pos (by decide)]
        have hB9 := below_next hB hB4
        clear hE2 hS hk2 hfx hP
        go_wp2
        go_ret
        exact ⟨rfl, hB9⟩
      subst hk2
      have hfx2 := Lib.hid (show e1 = if (1 ≤ ht ∧ ht ≤ 60) ∧ (1 ≤ ln ∧ ln ≤ 10) ∧ (0 ≤ le ∧ le ≤ 240) ∧ (0 ≤ tm ∧ tm ≤ 360000) ∧ (1 ≤ vr ∧ vr ≤ 1000) then 0 else 1 by rw [hfx.out, if_neg (by simp)])
      clear hfx
      have x0 := (blk_facts hb4).1 0
      have x1 := (blk_facts hb4).1 1
      have x2 := (blk_facts hb4).1 2
      have x3 := (blk_facts hb4).1 3
      have x4 := (blk_facts hb4).1 4
      have x5 := (blk_facts hb4).1 5
      have x6 := (blk_facts hb4).1 6
      have hB6 := below_next hB hB4
      have hB6x : Below wr.heap.size wr w4 := hB4
      by_cases hok : (1 ≤ ht ∧ ht ≤ 60) ∧ (1 ≤ ln ∧ ln ≤ 10) ∧ (0 ≤ le ∧ le ≤ 240) ∧ (0 ≤ tm ∧ tm ≤ 360000) ∧ (1 ≤ vr ∧ vr ≤ 1000)
      rotate_left
      · obtain rfl : e1 = 1 := by rw [hfx2.out, if_neg hok]
        obtain rfl : E = 1 := by rw [hE2.out, ← hS.out, if_pos (by decide)]
        have hk : decide (1 ≤ ht ∧ ht ≤ 60) = false ∨ decide (1 ≤ ht ∧ ht ≤ 60) = true ∧ (decide (1 ≤ ln ∧ ln ≤ 10) = false ∨ decide (1 ≤ ln ∧ ln ≤ 10) = true ∧ (decide (0 ≤ le ∧ le ≤ 240) = false ∨ decide (0 ≤ le ∧ le ≤ 240) = true ∧ (decide (0 ≤ tm ∧ tm ≤ 360000) = false ∨ decide (0 ≤ tm ∧ tm ≤ 360000) = true ∧ decide (1 ≤ vr ∧ vr ≤ 1000) = false))) := by
          simp only [decide_eq_true_eq, decide_eq_false_iff_not]
          omega
        clear hE2 hS hfx2 hP hok
        rcases hk with d1 | ⟨d1, d2 | ⟨d2, d3 | ⟨d3, d4 | ⟨d4, d5⟩⟩⟩⟩
        all_goals
          go_wp2_with (go_at_call 60; refine (within_c _ _ _ _).mono ?_; rintro e w' ⟨rfl, rfl⟩; (first | rw [d1] | rw [d2] | rw [d3] | rw [d4] | rw [d5]))
          go_ret
          exact ⟨rfl, hB6⟩
      obtain rfl : e1 = 0 := by rw [hfx2.out, if_pos hok]
      have hS1 := Lib.hid (hS.out.symm.trans (if_neg (fun h => h rfl))).symm
      obtain ⟨o1, o2, o3, o4, o5⟩ := hok
      have d1 : decide (1 ≤ ht ∧ ht ≤ 60) = true := decide_eq_true o1
      have d2 : decide (1 ≤ ln ∧ ln ≤ 10) = true := decide_eq_true o2
      have d3 : decide (0 ≤ le ∧ le ≤ 240) = true := decide_eq_true o3
      have d4 : decide (0 ≤ tm ∧ tm ≤ 360000) = true := decide_eq_true o4
      have d5 : decide (1 ≤ vr ∧ vr ≤ 1000) = true := decide_eq_true o5
      clear hS hfx2 o1 o2 o3 o4 o5
      go_wp2_with (go_at_call 60; refine (within_c _ _ _ _).mono ?_; rintro e w' ⟨rfl, rfl⟩; (first | rw [d1] | rw [d2] | rw [d3] | rw [d4] | rw [d5]))
      clear d1 d2 d3 d4 d5
      rcases hP with ⟨h0, hn0⟩ | ⟨h0, y, hy, d0, d1, d2, d3, d4, d5, d6⟩
      · have hS2 := Lib.hid (show SG (prevFx l (k + 1)) (l.drop (k + 1)) = SG none l by rw [← hS1.out, hn0]; rfl)
        have e8 : decide (0 < k) = false := decide_eq_false (by omega)
        have e9 : decide ((0 : Int) < (k : Int)) = false := decide_eq_false (by omega)
        clear hn0 h0 hS1
        go_quiet (fail)
        clear e8 e9
        go_wp2
        go_roundw
        case rel => exact ⟨k + 1, by omega, by go_num, below_drewN hB6 _, hS2⟩
        case measure => simp [intOf]; omega
      · rw [hy] at hS1
        have hCy := Lib.hid (fun W => fxCompare_c y ⟨rc, ht, ln, le, tm, vr, by_⟩ W)
        have hbv := Lib.hid (show badFx (some y) ⟨rc, ht, ln, le, tm, vr, by_⟩ = decide (0 ≤ fxCf y ⟨rc, ht, ln, le, tm, vr, by_⟩) from rfl)
        generalize badFx (some y) ⟨rc, ht, ln, le, tm, vr, by_⟩ = bv at *
        obtain ⟨rc2, ht2, ln2, le2, tm2, vr2, by_2⟩ := y
        dsimp only [fxE] at *
        generalize fxCf ⟨rc2, ht2, ln2, le2, tm2, vr2, by_2⟩ ⟨rc, ht, ln, le, tm, vr, by_⟩ = V at *
        have e8 : decide (0 < k) = true := decide_eq_true (by omega)
        have e9 : decide ((0 : Int) < (k : Int)) = true := decide_eq_true (by omega)
        have u1 : IntKind.i64.wrap ((k : Int) - 1) = (k : Int) - 1 := IntWalk.i64_in _ (by omega)
        have u2 : 0 ≤ (k : Int) - 1 := by omega
        have u3 : ((k : Int) - 1).toNat = k - 1 := by omega
        have u4 : (k : Int) - 1 < n := by omega
        have u5 : (1 : Int) ≤ (k : Int) := by omega
        have u6 : (k : Int) - 1 < 9223372036854775808 := by omega
        have p0 := (hB6x.cell (p := ⟨b, off + (k - 1) * 7, none⟩) hbl).trans d0
        have p1 := (hB6x.cell (p := ⟨b, off + (k - 1) * 7 + 1, none⟩) hbl).trans d1
        have p2 := (hB6x.cell (p := ⟨b, off + (k - 1) * 7 + 2, none⟩) hbl).trans d2
        have p3 := (hB6x.cell (p := ⟨b, off + (k - 1) * 7 + 3, none⟩) hbl).trans d3
        have p4 := (hB6x.cell (p := ⟨b, off + (k - 1) * 7 + 4, none⟩) hbl).trans d4
        have p5 := (hB6x.cell (p := ⟨b, off + (k - 1) * 7 + 5, none⟩) hbl).trans d5
        have p6 := (hB6x.cell (p := ⟨b, off + (k - 1) * 7 + 6, none⟩) hbl).trans d6
        have hbl6 : b < w4.heap.size := Nat.lt_of_lt_of_le hbl hB6x.size
        have lb6 := lt_of_heap hb4
        clear hy h0 c0 c1 c2 c3 c4 c5 c6 d0 d1 d2 d3 d4 d5 d6 hB4 hB6x hB
        generalize wr.heap.size = b7 at *
        go_region_held3 (fun w' => w'.cell? ⟨b, off + (k - 1) * 7, none⟩ = some (.string rc2) ∧ w'.cell? ⟨b, off + (k - 1) * 7 + 1, none⟩ = some (.int .i64 ht2) ∧ w'.cell? ⟨b, off + (k - 1) * 7 + 2, none⟩ = some (.int .i64 ln2) ∧ w'.cell? ⟨b, off + (k - 1) * 7 + 3, none⟩ = some (.int .i64 le2) ∧ w'.cell? ⟨b, off + (k - 1) * 7 + 4, none⟩ = some (.int .i64 tm2) ∧ w'.cell? ⟨b, off + (k - 1) * 7 + 5, none⟩ = some (.int .i64 vr2) ∧ w'.cell? ⟨b, off + (k - 1) * 7 + 6, none⟩ = some (.string by_2) ∧ w'.cell? ⟨b7, 0, none⟩ = some (.string rc) ∧ w'.cell? ⟨b7, 1, none⟩ = some (.int .i64 ht) ∧ w'.cell? ⟨b7, 2, none⟩ = some (.int .i64 ln) ∧ w'.cell? ⟨b7, 3, none⟩ = some (.int .i64 le) ∧ w'.cell? ⟨b7, 4, none⟩ = some (.int .i64 tm) ∧ w'.cell? ⟨b7, 5, none⟩ = some (.int .i64 vr) ∧ w'.cell? ⟨b7, 6, none⟩ = some (.string by_))
          (first | go_keep | with_reducible exact ⟨g0, g1, g2, g3, g4, g5, g6, g7, g8, g9, g10, g11, g12, g13⟩)
          (first
            | (go_at_call 61; refine (hCy.out _).mono ?_; rintro e w8 ⟨rfl, B8, _⟩; have g0 := (B8.cell (p := ⟨b, off + (k - 1) * 7, none⟩) hbl6).trans p0; have g1 := (B8.cell (p := ⟨b, off + (k - 1) * 7 + 1, none⟩) hbl6).trans p1; have g2 := (B8.cell (p := ⟨b, off + (k - 1) * 7 + 2, none⟩) hbl6).trans p2; have g3 := (B8.cell (p := ⟨b, off + (k - 1) * 7 + 3, none⟩) hbl6).trans p3; have g4 := (B8.cell (p := ⟨b, off + (k - 1) * 7 + 4, none⟩) hbl6).trans p4; have g5 := (B8.cell (p := ⟨b, off + (k - 1) * 7 + 5, none⟩) hbl6).trans p5; have g6 := (B8.cell (p := ⟨b, off + (k - 1) * 7 + 6, none⟩) hbl6).trans p6; have g7 := (B8.cell (p := ⟨b7, 0, none⟩) lb6).trans x0; have g8 := (B8.cell (p := ⟨b7, 1, none⟩) lb6).trans x1; have g9 := (B8.cell (p := ⟨b7, 2, none⟩) lb6).trans x2; have g10 := (B8.cell (p := ⟨b7, 3, none⟩) lb6).trans x3; have g11 := (B8.cell (p := ⟨b7, 4, none⟩) lb6).trans x4; have g12 := (B8.cell (p := ⟨b7, 5, none⟩) lb6).trans x5; have g13 := (B8.cell (p := ⟨b7, 6, none⟩) lb6).trans x6))
        have hB8 := below_next (below_drewN hB6 1) B8
        have hbx8 := (B8.block b7 lb6).trans hb4
        clear g0 g1 g2 g3 g4 g5 g6 g7 g8 g9 g10 g11 g12 g13 p0 p1 p2 p3 p4 p5 p6 x0 x1 x2 x3 x4 x5 x6 e8 e9 B8 hB6 hbx8
        by_cases hv : 0 ≤ V
        · obtain rfl : E = 7 := by rw [hE2.out, ← hS1.out, if_pos (by rw [hbv.out]; exact decide_eq_true hv)]
          clear hE2 hS1 hbv
          go_wp2
          go_ret
          exact ⟨rfl, hB8⟩
        · have hS2 := Lib.hid (show SG (prevFx l (k + 1)) (l.drop (k + 1)) = SG none l by rw [← hS1.out, if_neg (by rw [hbv.out]; simpa using hv)])
          clear hS1 hbv
          go_wp2
          go_roundw
          case rel => exact ⟨k + 1, by omega, by go_num, hB8, hS2⟩
          case measure => simp [intOf]; omega
    · obtain rfl : k = n := by omega
      have hS : Hid (SG none l = 0) := Lib.hid (by rw [← hF.out, drop_end (by rw [hl.out]; exact Nat.le_refl _), hG0.out])
      clear hF
      obtain rfl : E = 0 := by rw [hE2.out, hS.out]
      clear hE2 hS
      go_wp2
      go_ret
      exact ⟨rfl, hB⟩
set_option maxHeartbeats 6400000 in
set_option maxRecDepth 100000 in
theorem fixesFault_c (A : Option Addr) (n c : Nat) (l : List Fx) (w : World) (h : RFx w A n l) :
    Calls Tryz.prog 22 #[.slice A n c] w fun e w' => e = .returned (.int .i64 (fxErr l)) ∧ Below w.heap.size w w' := by
  have hR := Lib.hid (fun W B => h.below (w' := W) B)
  have hbd := h.bd
  have hl := Lib.hid h.len
  have hE := Lib.hid (show fxErr l = if 300 < n then 2 else fxGo none l by unfold fxErr; rw [h.len])
  have hGa := Lib.hid (fun k x (h : l[k]? = some x) => fxGo_at h)
  have hG0 := Lib.hid (fun o => show fxGo o [] = 0 by cases o <;> rfl)
  have hPk := Lib.hid (fun (W : World) b off k (h : RFx W (some ⟨b, off, none⟩) n l) (hk : k < n) => prevX_of h hk)
  generalize fxErr l = E at *
  generalize fxGo = SG at *
  clear h
  by_cases hbig : 300 < n
  · obtain rfl : E = 2 := by rw [hE.out, if_pos hbig]
    clear hE
    go_enter Tryz.func22, Tryz.ntmps22
    go_wp2
    go_ret
    exact ⟨rfl, Below.refl _ _⟩
  have hE2 := Lib.hid (show E = SG none l by rw [hE.out, if_neg hbig])
  clear hE
  go_enter Tryz.func22, Tryz.ntmps22
  go_wp2
  go_loopw [10] (fun i wr => ∃ (k : Nat), k ≤ n ∧ i = .int .i64 k ∧ Below w.heap.size w wr ∧ Hid (SG (prevFx l k) (l.drop k) = SG none l)) (fun i _ => n - (intOf i).toNat)
  case atStart => exact ⟨0, Nat.zero_le _, rfl, Below.refl _ _, Lib.hid rfl⟩
  case round =>
    obtain ⟨k, hk, rfl, hB, hF⟩ := hrel
    by_cases hlt : k < n
    · obtain ⟨b, off, x, rfl, hbl, hx, c0, c1, c2, c3, c4, c5, c6⟩ := RFx_at7 (hR.out _ hB) hlt
      have hP := hPk.out _ _ _ _ (hR.out _ hB) hlt
      have hS := Lib.hid ((hGa.out k x hx).symm.trans hF.out)
      have hfx := Lib.hid (show fx1 x = if keyB x.rc = false ∨ keyB x.by_ = false then 5 else if (1 ≤ x.ht ∧ x.ht ≤ 60) ∧ (1 ≤ x.ln ∧ x.ln ≤ 10) ∧ (0 ≤ x.le ∧ x.le ≤ 240) ∧ (0 ≤ x.tm ∧ x.tm ≤ 360000) ∧ (1 ≤ x.vr ∧ x.vr ≤ 1000) then 0 else 1 from rfl)
      clear hx hF
      obtain ⟨rc, ht, ln, le, tm, vr, by_⟩ := x
      dsimp only at *
      have hK1 := Lib.hid (fun W => key_c rc W)
      have hK2 := Lib.hid (fun W => key_c by_ W)
      have hn0 := heap_alloc_new wr (.cells #[.string rc, .int .i64 ht, .int .i64 ln, .int .i64 le, .int .i64 tm, .int .i64 vr, .string by_] 69)
      have hBn := below_new wr (.cells #[.string rc, .int .i64 ht, .int .i64 ln, .int .i64 le, .int .i64 tm, .int .i64 vr, .string by_] 69)
      generalize hsg : fx1 ⟨rc, ht, ln, le, tm, vr, by_⟩ = e1 at *
      clear hsg
      have y0 := (blk_facts hn0).1 0
      generalize keyB rc = k1 at *
      generalize keyB by_ = k2 at *
      go_wp2_with fail
      refine (hK1.out _).mono ?_; rintro e w3 ⟨rfl, B3⟩
      have hb3 := blk_below hn0 B3
      have hB3 := below_next hBn B3
      clear hK1 B3 hBn hn0 y0
      by_cases hk1 : k1 = true
      rotate_left
      · obtain rfl : k1 = false := by simpa using hk1
        obtain rfl : e1 = 5 := by rw [hfx.out, if_pos (.inl rfl)]
        obtain rfl : E = 5 := by rw [hE2.out, ← hS.out, if_pos (by decide)]
        have hB9 := below_next hB hB3
        clear hE2 hS hk1 hfx hK2 hP
        go_wp2
        go_ret
        exact ⟨rfl, hB9⟩
      subst hk1
      have y6 := (blk_facts hb3).1 6
      go_wp2_with fail
      refine (hK2.out _).mono ?_; rintro e w4 ⟨rfl, B4⟩
      have hb4 := blk_below hb3 B4
      have hB4 := below_next hB3 B4
      clear hK2 B4 hB3 hb3 y6
      by_cases hk2 : k2 = true
      rotate_left
      · obtain rfl : k2 = false := by simpa using hk2
        obtain rfl : e1 = 5 := by rw [hfx.out, if_pos (.inr rfl)]
        obtain rfl : E = 5 := by rw [hE2.out, ← hS.out, if_pos (by decide)]
        have hB9 := below_next hB hB4
        clear hE2 hS hk2 hfx hP
        go_wp2
        go_ret
        exact ⟨rfl, hB9⟩
      subst hk2
      have hfx2 := Lib.hid (show e1 = if (1 ≤ ht ∧ ht ≤ 60) ∧ (1 ≤ ln ∧ ln ≤ 10) ∧ (0 ≤ le ∧ le ≤ 240) ∧ (0 ≤ tm ∧ tm ≤ 360000) ∧ (1 ≤ vr ∧ vr ≤ 1000) then 0 else 1 by rw [hfx.out, if_neg (by simp)])
      clear hfx
      have x0 := (blk_facts hb4).1 0
      have x1 := (blk_facts hb4).1 1
      have x2 := (blk_facts hb4).1 2
      have x3 := (blk_facts hb4).1 3
      have x4 := (blk_facts hb4).1 4
      have x5 := (blk_facts hb4).1 5
      have x6 := (blk_facts hb4).1 6
      have hB6 := below_next hB hB4
      have hB6x : Below wr.heap.size wr w4 := hB4
      by_cases hok : (1 ≤ ht ∧ ht ≤ 60) ∧ (1 ≤ ln ∧ ln ≤ 10) ∧ (0 ≤ le ∧ le ≤ 240) ∧ (0 ≤ tm ∧ tm ≤ 360000) ∧ (1 ≤ vr ∧ vr ≤ 1000)
      rotate_left
      · obtain rfl : e1 = 1 := by rw [hfx2.out, if_neg hok]
        obtain rfl : E = 1 := by rw [hE2.out, ← hS.out, if_pos (by decide)]
        have hk : decide (1 ≤ ht ∧ ht ≤ 60) = false ∨ decide (1 ≤ ht ∧ ht ≤ 60) = true ∧ (decide (1 ≤ ln ∧ ln ≤ 10) = false ∨ decide (1 ≤ ln ∧ ln ≤ 10) = true ∧ (decide (0 ≤ le ∧ le ≤ 240) = false ∨ decide (0 ≤ le ∧ le ≤ 240) = true ∧ (decide (0 ≤ tm ∧ tm ≤ 360000) = false ∨ decide (0 ≤ tm ∧ tm ≤ 360000) = true ∧ decide (1 ≤ vr ∧ vr ≤ 1000) = false))) := by
          simp only [decide_eq_true_eq, decide_eq_false_iff_not]
          omega
        clear hE2 hS hfx2 hP hok
        rcases hk with d1 | ⟨d1, d2 | ⟨d2, d3 | ⟨d3, d4 | ⟨d4, d5⟩⟩⟩⟩
        all_goals
          go_wp2_with (go_at_call 50; refine (in_c _ _ _ _).mono ?_; rintro e w' ⟨rfl, rfl⟩; (first | rw [d1] | rw [d2] | rw [d3] | rw [d4] | rw [d5]))
          go_ret
          exact ⟨rfl, hB6⟩
      obtain rfl : e1 = 0 := by rw [hfx2.out, if_pos hok]
      have hS1 := Lib.hid (hS.out.symm.trans (if_neg (fun h => h rfl))).symm
      obtain ⟨o1, o2, o3, o4, o5⟩ := hok
      have d1 : decide (1 ≤ ht ∧ ht ≤ 60) = true := decide_eq_true o1
      have d2 : decide (1 ≤ ln ∧ ln ≤ 10) = true := decide_eq_true o2
      have d3 : decide (0 ≤ le ∧ le ≤ 240) = true := decide_eq_true o3
      have d4 : decide (0 ≤ tm ∧ tm ≤ 360000) = true := decide_eq_true o4
      have d5 : decide (1 ≤ vr ∧ vr ≤ 1000) = true := decide_eq_true o5
      clear hS hfx2 o1 o2 o3 o4 o5
      go_wp2_with (go_at_call 50; refine (in_c _ _ _ _).mono ?_; rintro e w' ⟨rfl, rfl⟩; (first | rw [d1] | rw [d2] | rw [d3] | rw [d4] | rw [d5]))
      clear d1 d2 d3 d4 d5
      rcases hP with ⟨h0, hn0⟩ | ⟨h0, y, hy, d0, d1, d2, d3, d4, d5, d6⟩
      · have hS2 := Lib.hid (show SG (prevFx l (k + 1)) (l.drop (k + 1)) = SG none l by rw [← hS1.out, hn0]; rfl)
        have e8 : decide (0 < k) = false := decide_eq_false (by omega)
        have e9 : decide ((0 : Int) < (k : Int)) = false := decide_eq_false (by omega)
        clear hn0 h0 hS1
        go_quiet (fail)
        clear e8 e9
        go_wp2
        go_roundw
        case rel => exact ⟨k + 1, by omega, by go_num, below_drewN hB6 _, hS2⟩
        case measure => simp [intOf]; omega
      · rw [hy] at hS1
        have hCy := Lib.hid (fun W => byFix_c y ⟨rc, ht, ln, le, tm, vr, by_⟩ W)
        have hbv := Lib.hid (show badFx (some y) ⟨rc, ht, ln, le, tm, vr, by_⟩ = decide (0 ≤ fxCf y ⟨rc, ht, ln, le, tm, vr, by_⟩) from rfl)
        generalize badFx (some y) ⟨rc, ht, ln, le, tm, vr, by_⟩ = bv at *
        obtain ⟨rc2, ht2, ln2, le2, tm2, vr2, by_2⟩ := y
        dsimp only [fxE] at *
        generalize fxCf ⟨rc2, ht2, ln2, le2, tm2, vr2, by_2⟩ ⟨rc, ht, ln, le, tm, vr, by_⟩ = V at *
        have e8 : decide (0 < k) = true := decide_eq_true (by omega)
        have e9 : decide ((0 : Int) < (k : Int)) = true := decide_eq_true (by omega)
        have u1 : IntKind.i64.wrap ((k : Int) - 1) = (k : Int) - 1 := IntWalk.i64_in _ (by omega)
        have u2 : 0 ≤ (k : Int) - 1 := by omega
        have u3 : ((k : Int) - 1).toNat = k - 1 := by omega
        have u4 : (k : Int) - 1 < n := by omega
        have u5 : (1 : Int) ≤ (k : Int) := by omega
        have u6 : (k : Int) - 1 < 9223372036854775808 := by omega
        have p0 := (hB6x.cell (p := ⟨b, off + (k - 1) * 7, none⟩) hbl).trans d0
        have p1 := (hB6x.cell (p := ⟨b, off + (k - 1) * 7 + 1, none⟩) hbl).trans d1
        have p2 := (hB6x.cell (p := ⟨b, off + (k - 1) * 7 + 2, none⟩) hbl).trans d2
        have p3 := (hB6x.cell (p := ⟨b, off + (k - 1) * 7 + 3, none⟩) hbl).trans d3
        have p4 := (hB6x.cell (p := ⟨b, off + (k - 1) * 7 + 4, none⟩) hbl).trans d4
        have p5 := (hB6x.cell (p := ⟨b, off + (k - 1) * 7 + 5, none⟩) hbl).trans d5
        have p6 := (hB6x.cell (p := ⟨b, off + (k - 1) * 7 + 6, none⟩) hbl).trans d6
        have hbl6 : b < w4.heap.size := Nat.lt_of_lt_of_le hbl hB6x.size
        have lb6 := lt_of_heap hb4
        clear hy h0 c0 c1 c2 c3 c4 c5 c6 d0 d1 d2 d3 d4 d5 d6 hB4 hB6x hB
        generalize wr.heap.size = b7 at *
        go_region_held3 (fun w' => w'.cell? ⟨b, off + (k - 1) * 7, none⟩ = some (.string rc2) ∧ w'.cell? ⟨b, off + (k - 1) * 7 + 1, none⟩ = some (.int .i64 ht2) ∧ w'.cell? ⟨b, off + (k - 1) * 7 + 2, none⟩ = some (.int .i64 ln2) ∧ w'.cell? ⟨b, off + (k - 1) * 7 + 3, none⟩ = some (.int .i64 le2) ∧ w'.cell? ⟨b, off + (k - 1) * 7 + 4, none⟩ = some (.int .i64 tm2) ∧ w'.cell? ⟨b, off + (k - 1) * 7 + 5, none⟩ = some (.int .i64 vr2) ∧ w'.cell? ⟨b, off + (k - 1) * 7 + 6, none⟩ = some (.string by_2) ∧ w'.cell? ⟨b7, 0, none⟩ = some (.string rc) ∧ w'.cell? ⟨b7, 1, none⟩ = some (.int .i64 ht) ∧ w'.cell? ⟨b7, 2, none⟩ = some (.int .i64 ln) ∧ w'.cell? ⟨b7, 3, none⟩ = some (.int .i64 le) ∧ w'.cell? ⟨b7, 4, none⟩ = some (.int .i64 tm) ∧ w'.cell? ⟨b7, 5, none⟩ = some (.int .i64 vr) ∧ w'.cell? ⟨b7, 6, none⟩ = some (.string by_))
          (first | go_keep | with_reducible exact ⟨g0, g1, g2, g3, g4, g5, g6, g7, g8, g9, g10, g11, g12, g13⟩)
          (first
            | (go_at_call 58; refine (hCy.out _).mono ?_; rintro e w8 ⟨rfl, B8, _⟩; have g0 := (B8.cell (p := ⟨b, off + (k - 1) * 7, none⟩) hbl6).trans p0; have g1 := (B8.cell (p := ⟨b, off + (k - 1) * 7 + 1, none⟩) hbl6).trans p1; have g2 := (B8.cell (p := ⟨b, off + (k - 1) * 7 + 2, none⟩) hbl6).trans p2; have g3 := (B8.cell (p := ⟨b, off + (k - 1) * 7 + 3, none⟩) hbl6).trans p3; have g4 := (B8.cell (p := ⟨b, off + (k - 1) * 7 + 4, none⟩) hbl6).trans p4; have g5 := (B8.cell (p := ⟨b, off + (k - 1) * 7 + 5, none⟩) hbl6).trans p5; have g6 := (B8.cell (p := ⟨b, off + (k - 1) * 7 + 6, none⟩) hbl6).trans p6; have g7 := (B8.cell (p := ⟨b7, 0, none⟩) lb6).trans x0; have g8 := (B8.cell (p := ⟨b7, 1, none⟩) lb6).trans x1; have g9 := (B8.cell (p := ⟨b7, 2, none⟩) lb6).trans x2; have g10 := (B8.cell (p := ⟨b7, 3, none⟩) lb6).trans x3; have g11 := (B8.cell (p := ⟨b7, 4, none⟩) lb6).trans x4; have g12 := (B8.cell (p := ⟨b7, 5, none⟩) lb6).trans x5; have g13 := (B8.cell (p := ⟨b7, 6, none⟩) lb6).trans x6))
        have hB8 := below_next (below_drewN hB6 1) B8
        have hbx8 := (B8.block b7 lb6).trans hb4
        clear g0 g1 g2 g3 g4 g5 g6 g7 g8 g9 g10 g11 g12 g13 p0 p1 p2 p3 p4 p5 p6 x0 x1 x2 x3 x4 x5 x6 e8 e9 B8 hB6 hbx8
        by_cases hv : 0 ≤ V
        · obtain rfl : E = 7 := by rw [hE2.out, ← hS1.out, if_pos (by rw [hbv.out]; exact decide_eq_true hv)]
          clear hE2 hS1 hbv
          go_wp2
          go_ret
          exact ⟨rfl, hB8⟩
        · have hS2 := Lib.hid (show SG (prevFx l (k + 1)) (l.drop (k + 1)) = SG none l by rw [← hS1.out, if_neg (by rw [hbv.out]; simpa using hv)])
          clear hS1 hbv
          go_wp2
          go_roundw
          case rel => exact ⟨k + 1, by omega, by go_num, hB8, hS2⟩
          case measure => simp [intOf]; omega
    · obtain rfl : k = n := by omega
      have hS : Hid (SG none l = 0) := Lib.hid (by rw [← hF.out, drop_end (by rw [hl.out]; exact Nat.le_refl _), hG0.out])
      clear hF
      obtain rfl : E = 0 := by rw [hE2.out, hS.out]
      clear hE2 hS
      go_wp2
      go_ret
      exact ⟨rfl, hB⟩
end Go.Proofs.YtnkhdofcmanipaaGreatDoor
