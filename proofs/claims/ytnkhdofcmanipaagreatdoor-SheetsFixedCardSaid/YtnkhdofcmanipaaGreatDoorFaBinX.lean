/- slices.BinarySearchFunc of fixes by pad.compareFixes. Printed by wip/genfxb.py. -/
import Derived.Test.YtnkhdofcmanipaaGreatDoorFaFxB
import Derived.Deep.RegionHeld3
namespace Go.Proofs.YtnkhdofcmanipaaGreatDoor
open Go.RowKit Go.Shelf Go.Lib Go.Sort
set_option linter.unusedVariables false

set_option maxHeartbeats 3200000 in
set_option maxRecDepth 100000 in
theorem bsFx_c (A : Option Addr) (n c : Nat) (l : List Fx) (x : Fx) (w : World) (h : RFx w A n l) (hs : l.Pairwise fun x y => fxCf x y < 0) (hn : n ≤ 1000000) :
    Calls Tryz.prog 63 #[.slice A n c, .agg (fxE x).toArray, .func (.func 61) #[] #[]] w fun e w' => (∃ (k : Nat) (g : Bool), e = .returned (.tuple #[.int .i64 k, .bool g]) ∧ (g = true → ∃ y, l[k]? = some y ∧ fxCf y x = 0) ∧ (g = false → ∀ y ∈ l, fxCf y x ≠ 0)) ∧ Below w.heap.size w w' := by
  have hsrt := Lib.hid (fun (i j : Nat) (y z : Fx) (hij : i < j) (hi : l[i]? = some y) (hj : l[j]? = some z) => show fxCf y z < 0 by
    rw [List.pairwise_iff_getElem] at hs
    obtain ⟨hi1, rfl⟩ := List.getElem?_eq_some_iff.1 hi
    obtain ⟨hj1, rfl⟩ := List.getElem?_eq_some_iff.1 hj
    exact hs i j hi1 hj1 hij)
  have htr := Lib.hid (fun (y z : Fx) (h1 : fxCf y z < 0) (h2 : fxCf z x < 0) => show fxCf y x < 0 by
    exact fx_trans h1 h2)
  have hlen := Lib.hid h.len
  clear hs
  have hb0 := heap_alloc_new w (.cells (fxE x).toArray 69)
  have hR0 := Lib.hid (fun W (B : Below (w.alloc (.cells (fxE x).toArray 69)).heap.size (w.alloc (.cells (fxE x).toArray 69)) W) => (h.alloc _).below B)
  have hX0 := Lib.hid (fun W (B : Below (w.alloc (.cells (fxE x).toArray 69)).heap.size (w.alloc (.cells (fxE x).toArray 69)) W) => blk_below hb0 B)
  have hBw := Lib.hid (fun W (B : Below (w.alloc (.cells (fxE x).toArray 69)).heap.size (w.alloc (.cells (fxE x).toArray 69)) W) => below_next (below_new w _) B)
  have hC0 := Lib.hid (fun y W => fxCompare_c y x W)
  clear hb0 h
  obtain ⟨rc, ht, ln, le, tm, vr, by_⟩ := x
  dsimp only [fxE] at *
  go_enter Tryz.func63, Tryz.ntmps63
  go_wp2_with fail
  go_loopw [9, 10] (fun s7 s8 wr => ∃ lo hi : Nat, s7 = .int .i64 lo ∧ s8 = .int .i64 hi ∧ lo ≤ hi ∧ hi ≤ n ∧ Below (w.alloc (.cells #[.string rc, .int .i64 ht, .int .i64 ln, .int .i64 le, .int .i64 tm, .int .i64 vr, .string by_] 69)).heap.size (w.alloc (.cells #[.string rc, .int .i64 ht, .int .i64 ln, .int .i64 le, .int .i64 tm, .int .i64 vr, .string by_] 69)) wr ∧ Hid ((∀ j y, j < lo → l[j]? = some y → fxCf y ⟨rc, ht, ln, le, tm, vr, by_⟩ < 0) ∧ (∀ j y, hi ≤ j → l[j]? = some y → 0 ≤ fxCf y ⟨rc, ht, ln, le, tm, vr, by_⟩))) (fun s7 s8 _ => (intOf s8).toNat - (intOf s7).toNat)
  case atStart => exact ⟨0, n, rfl, rfl, Nat.zero_le _, Nat.le_refl _, Below.refl _ _, Lib.hid ⟨fun j y hj => absurd hj (Nat.not_lt_zero _), fun j y h1 h2 => by have := (List.getElem?_eq_some_iff.mp h2).1; have := hlen.out; omega⟩⟩
  case round =>
    rename World => wr
    obtain ⟨lo, hi, rfl, rfl, hlh, hin, B, I⟩ := hrel
    by_cases hlt : lo < hi
    · obtain ⟨b, off, y, rfl, hbl, hy, p0, p1, p2, p3, p4, p5, p6⟩ := RFx_at7 (hR0.out _ B) (k := (lo + hi) / 2) (by omega)
      have hb1 := hX0.out _ B
      have hCy := Lib.hid (fun W => hC0.out y W)
      have hyy := Lib.hid hy
      have hV : Hid (fxCf y ⟨rc, ht, ln, le, tm, vr, by_⟩ = fxCf y ⟨rc, ht, ln, le, tm, vr, by_⟩) := Lib.hid rfl
      obtain ⟨V, hVe⟩ : ∃ V : Int, fxCf y ⟨rc, ht, ln, le, tm, vr, by_⟩ = V := ⟨_, rfl⟩
      have hVh := Lib.hid hVe
      obtain ⟨rc2, ht2, ln2, le2, tm2, vr2, by_2⟩ := y
      dsimp only [fxE] at *
      rw [hVe] at hCy
      clear hy hV hVe
      have x0 := (blk_facts hb1).1 0
      have x1 := (blk_facts hb1).1 1
      have x2 := (blk_facts hb1).1 2
      have x3 := (blk_facts hb1).1 3
      have x4 := (blk_facts hb1).1 4
      have x5 := (blk_facts hb1).1 5
      have x6 := (blk_facts hb1).1 6
      have lb := lt_of_heap hb1
      have m1 : (0 : Int) ≤ ((lo : Int) + (hi : Int)) / 2 := by omega
      have m2 : ((lo : Int) + (hi : Int)) / 2 < (n : Int) := by omega
      have m3 : (((lo : Int) + (hi : Int)) / 2).toNat = (lo + hi) / 2 := by omega
      by_cases hv : V < 0
      · have hv1 : decide (V < 0) = true := decide_eq_true hv
        go_wp2_with fail
        first
          | (go_region_held3 (fun w' => w'.cell? ⟨b, off + ((lo + hi) / 2) * 7, none⟩ = some (.string rc2) ∧ w'.cell? ⟨b, off + ((lo + hi) / 2) * 7 + 1, none⟩ = some (.int .i64 ht2) ∧ w'.cell? ⟨b, off + ((lo + hi) / 2) * 7 + 2, none⟩ = some (.int .i64 ln2) ∧ w'.cell? ⟨b, off + ((lo + hi) / 2) * 7 + 3, none⟩ = some (.int .i64 le2) ∧ w'.cell? ⟨b, off + ((lo + hi) / 2) * 7 + 4, none⟩ = some (.int .i64 tm2) ∧ w'.cell? ⟨b, off + ((lo + hi) / 2) * 7 + 5, none⟩ = some (.int .i64 vr2) ∧ w'.cell? ⟨b, off + ((lo + hi) / 2) * 7 + 6, none⟩ = some (.string by_2) ∧ w'.cell? ⟨w.heap.size, 0, none⟩ = some (.string rc) ∧ w'.cell? ⟨w.heap.size, 1, none⟩ = some (.int .i64 ht) ∧ w'.cell? ⟨w.heap.size, 2, none⟩ = some (.int .i64 ln) ∧ w'.cell? ⟨w.heap.size, 3, none⟩ = some (.int .i64 le) ∧ w'.cell? ⟨w.heap.size, 4, none⟩ = some (.int .i64 tm) ∧ w'.cell? ⟨w.heap.size, 5, none⟩ = some (.int .i64 vr) ∧ w'.cell? ⟨w.heap.size, 6, none⟩ = some (.string by_))
            (first | go_keep | with_reducible exact ⟨g0, g1, g2, g3, g4, g5, g6, g7, g8, g9, g10, g11, g12, g13⟩ | with_reducible exact ⟨p0, p1, p2, p3, p4, p5, p6, x0, x1, x2, x3, x4, x5, x6⟩)
            (first | (go_at_call 61; refine (hCy.out _).mono ?_; rintro e w8 ⟨rfl, B8, _⟩; have g0 := (B8.cell (p := ⟨b, off + ((lo + hi) / 2) * 7, none⟩) hbl).trans p0; have g1 := (B8.cell (p := ⟨b, off + ((lo + hi) / 2) * 7 + 1, none⟩) hbl).trans p1; have g2 := (B8.cell (p := ⟨b, off + ((lo + hi) / 2) * 7 + 2, none⟩) hbl).trans p2; have g3 := (B8.cell (p := ⟨b, off + ((lo + hi) / 2) * 7 + 3, none⟩) hbl).trans p3; have g4 := (B8.cell (p := ⟨b, off + ((lo + hi) / 2) * 7 + 4, none⟩) hbl).trans p4; have g5 := (B8.cell (p := ⟨b, off + ((lo + hi) / 2) * 7 + 5, none⟩) hbl).trans p5; have g6 := (B8.cell (p := ⟨b, off + ((lo + hi) / 2) * 7 + 6, none⟩) hbl).trans p6; have g7 := (B8.cell (p := ⟨w.heap.size, 0, none⟩) lb).trans x0; have g8 := (B8.cell (p := ⟨w.heap.size, 1, none⟩) lb).trans x1; have g9 := (B8.cell (p := ⟨w.heap.size, 2, none⟩) lb).trans x2; have g10 := (B8.cell (p := ⟨w.heap.size, 3, none⟩) lb).trans x3; have g11 := (B8.cell (p := ⟨w.heap.size, 4, none⟩) lb).trans x4; have g12 := (B8.cell (p := ⟨w.heap.size, 5, none⟩) lb).trans x5; have g13 := (B8.cell (p := ⟨w.heap.size, 6, none⟩) lb).trans x6)))
          | fail "held"
        have B9 := below_next (below_drewN B 1) B8
        clear p0 p1 p2 p3 p4 p5 p6 x0 x1 x2 x3 x4 x5 x6 g0 g1 g2 g3 g4 g5 g6 g7 g8 g9 g10 g11 g12 g13 hv1 B8 hb1 lb B m1 m2 m3
        go_wp2
        go_roundw
        case rel =>
          refine ⟨(lo + hi) / 2 + 1, hi, by go_num, rfl, by omega, hin, B9, Lib.hid ⟨fun j z hj hz => ?_, I.out.2⟩⟩
          by_cases hj' : j = (lo + hi) / 2
          · subst hj'; rw [hyy.out] at hz; obtain rfl := Option.some.inj hz; rw [hVh.out]; exact hv
          · exact htr.out z _ (hsrt.out j _ z _ (by omega) hz hyy.out) (by rw [hVh.out]; exact hv)
        case measure => simp [intOf]; omega
      · have hv1 : decide (V < 0) = false := decide_eq_false hv
        go_wp2_with fail
        first
          | (go_region_held3 (fun w' => w'.cell? ⟨b, off + ((lo + hi) / 2) * 7, none⟩ = some (.string rc2) ∧ w'.cell? ⟨b, off + ((lo + hi) / 2) * 7 + 1, none⟩ = some (.int .i64 ht2) ∧ w'.cell? ⟨b, off + ((lo + hi) / 2) * 7 + 2, none⟩ = some (.int .i64 ln2) ∧ w'.cell? ⟨b, off + ((lo + hi) / 2) * 7 + 3, none⟩ = some (.int .i64 le2) ∧ w'.cell? ⟨b, off + ((lo + hi) / 2) * 7 + 4, none⟩ = some (.int .i64 tm2) ∧ w'.cell? ⟨b, off + ((lo + hi) / 2) * 7 + 5, none⟩ = some (.int .i64 vr2) ∧ w'.cell? ⟨b, off + ((lo + hi) / 2) * 7 + 6, none⟩ = some (.string by_2) ∧ w'.cell? ⟨w.heap.size, 0, none⟩ = some (.string rc) ∧ w'.cell? ⟨w.heap.size, 1, none⟩ = some (.int .i64 ht) ∧ w'.cell? ⟨w.heap.size, 2, none⟩ = some (.int .i64 ln) ∧ w'.cell? ⟨w.heap.size, 3, none⟩ = some (.int .i64 le) ∧ w'.cell? ⟨w.heap.size, 4, none⟩ = some (.int .i64 tm) ∧ w'.cell? ⟨w.heap.size, 5, none⟩ = some (.int .i64 vr) ∧ w'.cell? ⟨w.heap.size, 6, none⟩ = some (.string by_))
            (first | go_keep | with_reducible exact ⟨g0, g1, g2, g3, g4, g5, g6, g7, g8, g9, g10, g11, g12, g13⟩ | with_reducible exact ⟨p0, p1, p2, p3, p4, p5, p6, x0, x1, x2, x3, x4, x5, x6⟩)
            (first | (go_at_call 61; refine (hCy.out _).mono ?_; rintro e w8 ⟨rfl, B8, _⟩; have g0 := (B8.cell (p := ⟨b, off + ((lo + hi) / 2) * 7, none⟩) hbl).trans p0; have g1 := (B8.cell (p := ⟨b, off + ((lo + hi) / 2) * 7 + 1, none⟩) hbl).trans p1; have g2 := (B8.cell (p := ⟨b, off + ((lo + hi) / 2) * 7 + 2, none⟩) hbl).trans p2; have g3 := (B8.cell (p := ⟨b, off + ((lo + hi) / 2) * 7 + 3, none⟩) hbl).trans p3; have g4 := (B8.cell (p := ⟨b, off + ((lo + hi) / 2) * 7 + 4, none⟩) hbl).trans p4; have g5 := (B8.cell (p := ⟨b, off + ((lo + hi) / 2) * 7 + 5, none⟩) hbl).trans p5; have g6 := (B8.cell (p := ⟨b, off + ((lo + hi) / 2) * 7 + 6, none⟩) hbl).trans p6; have g7 := (B8.cell (p := ⟨w.heap.size, 0, none⟩) lb).trans x0; have g8 := (B8.cell (p := ⟨w.heap.size, 1, none⟩) lb).trans x1; have g9 := (B8.cell (p := ⟨w.heap.size, 2, none⟩) lb).trans x2; have g10 := (B8.cell (p := ⟨w.heap.size, 3, none⟩) lb).trans x3; have g11 := (B8.cell (p := ⟨w.heap.size, 4, none⟩) lb).trans x4; have g12 := (B8.cell (p := ⟨w.heap.size, 5, none⟩) lb).trans x5; have g13 := (B8.cell (p := ⟨w.heap.size, 6, none⟩) lb).trans x6)))
          | fail "held"
        have B9 := below_next (below_drewN B 1) B8
        clear p0 p1 p2 p3 p4 p5 p6 x0 x1 x2 x3 x4 x5 x6 g0 g1 g2 g3 g4 g5 g6 g7 g8 g9 g10 g11 g12 g13 hv1 B8 hb1 lb B m1 m2 m3
        go_wp2
        go_roundw
        case rel =>
          refine ⟨lo, (lo + hi) / 2, rfl, by go_num, by omega, by omega, B9, Lib.hid ⟨I.out.1, fun j z hj hz => ?_⟩⟩
          refine Int.not_lt.1 (fun h9 => ?_)
          by_cases hj' : j = (lo + hi) / 2
          · subst hj'; rw [hyy.out] at hz; obtain rfl := Option.some.inj hz; rw [hVh.out] at h9; omega
          · have h8 := htr.out _ z (hsrt.out _ j _ z (by omega) hyy.out hz) h9
            rw [hVh.out] at h8; omega
        case measure => simp [intOf]; omega
    · obtain rfl : hi = lo := by omega
      by_cases hn' : hi < n
      · obtain ⟨b, off, y, rfl, hbl, hy, p0, p1, p2, p3, p4, p5, p6⟩ := RFx_at7 (hR0.out _ B) (k := hi) hn'
        have hb1 := hX0.out _ B
        have hCy := Lib.hid (fun W => hC0.out y W)
        have hyy := Lib.hid hy
        obtain ⟨V, hVe⟩ : ∃ V : Int, fxCf y ⟨rc, ht, ln, le, tm, vr, by_⟩ = V := ⟨_, rfl⟩
        have hVh := Lib.hid hVe
        obtain ⟨rc2, ht2, ln2, le2, tm2, vr2, by_2⟩ := y
        dsimp only [fxE] at *
        rw [hVe] at hCy
        clear hy hVe
        have x0 := (blk_facts hb1).1 0
        have x1 := (blk_facts hb1).1 1
        have x2 := (blk_facts hb1).1 2
        have x3 := (blk_facts hb1).1 3
        have x4 := (blk_facts hb1).1 4
        have x5 := (blk_facts hb1).1 5
        have x6 := (blk_facts hb1).1 6
        have lb := lt_of_heap hb1
        by_cases hv : V = 0
        · have hv1 : (V == 0) = true := by simpa using hv
          go_wp2_with fail
          first
            | (go_region_held3 (fun w' => w'.cell? ⟨b, off + (hi) * 7, none⟩ = some (.string rc2) ∧ w'.cell? ⟨b, off + (hi) * 7 + 1, none⟩ = some (.int .i64 ht2) ∧ w'.cell? ⟨b, off + (hi) * 7 + 2, none⟩ = some (.int .i64 ln2) ∧ w'.cell? ⟨b, off + (hi) * 7 + 3, none⟩ = some (.int .i64 le2) ∧ w'.cell? ⟨b, off + (hi) * 7 + 4, none⟩ = some (.int .i64 tm2) ∧ w'.cell? ⟨b, off + (hi) * 7 + 5, none⟩ = some (.int .i64 vr2) ∧ w'.cell? ⟨b, off + (hi) * 7 + 6, none⟩ = some (.string by_2) ∧ w'.cell? ⟨w.heap.size, 0, none⟩ = some (.string rc) ∧ w'.cell? ⟨w.heap.size, 1, none⟩ = some (.int .i64 ht) ∧ w'.cell? ⟨w.heap.size, 2, none⟩ = some (.int .i64 ln) ∧ w'.cell? ⟨w.heap.size, 3, none⟩ = some (.int .i64 le) ∧ w'.cell? ⟨w.heap.size, 4, none⟩ = some (.int .i64 tm) ∧ w'.cell? ⟨w.heap.size, 5, none⟩ = some (.int .i64 vr) ∧ w'.cell? ⟨w.heap.size, 6, none⟩ = some (.string by_))
              (first | go_keep | with_reducible exact ⟨g0, g1, g2, g3, g4, g5, g6, g7, g8, g9, g10, g11, g12, g13⟩ | with_reducible exact ⟨p0, p1, p2, p3, p4, p5, p6, x0, x1, x2, x3, x4, x5, x6⟩)
              (first | (go_at_call 61; refine (hCy.out _).mono ?_; rintro e w8 ⟨rfl, B8, _⟩; have g0 := (B8.cell (p := ⟨b, off + (hi) * 7, none⟩) hbl).trans p0; have g1 := (B8.cell (p := ⟨b, off + (hi) * 7 + 1, none⟩) hbl).trans p1; have g2 := (B8.cell (p := ⟨b, off + (hi) * 7 + 2, none⟩) hbl).trans p2; have g3 := (B8.cell (p := ⟨b, off + (hi) * 7 + 3, none⟩) hbl).trans p3; have g4 := (B8.cell (p := ⟨b, off + (hi) * 7 + 4, none⟩) hbl).trans p4; have g5 := (B8.cell (p := ⟨b, off + (hi) * 7 + 5, none⟩) hbl).trans p5; have g6 := (B8.cell (p := ⟨b, off + (hi) * 7 + 6, none⟩) hbl).trans p6; have g7 := (B8.cell (p := ⟨w.heap.size, 0, none⟩) lb).trans x0; have g8 := (B8.cell (p := ⟨w.heap.size, 1, none⟩) lb).trans x1; have g9 := (B8.cell (p := ⟨w.heap.size, 2, none⟩) lb).trans x2; have g10 := (B8.cell (p := ⟨w.heap.size, 3, none⟩) lb).trans x3; have g11 := (B8.cell (p := ⟨w.heap.size, 4, none⟩) lb).trans x4; have g12 := (B8.cell (p := ⟨w.heap.size, 5, none⟩) lb).trans x5; have g13 := (B8.cell (p := ⟨w.heap.size, 6, none⟩) lb).trans x6)))
            | fail "held"
          have B9 := hBw.out _ (below_next (below_drewN B 1) B8)
          clear p0 p1 p2 p3 p4 p5 p6 x0 x1 x2 x3 x4 x5 x6 g0 g1 g2 g3 g4 g5 g6 g7 g8 g9 g10 g11 g12 g13 hv1 B8 hb1 lb B
          go_wp2
          go_ret2
          exact ⟨⟨hi, true, rfl, fun _ => ⟨_, hyy.out, by rw [hVh.out]; exact hv⟩, (fun e => by cases e)⟩, B9⟩
        · have hv1 : (V == 0) = false := by simpa using hv
          go_wp2_with fail
          first
            | (go_region_held3 (fun w' => w'.cell? ⟨b, off + (hi) * 7, none⟩ = some (.string rc2) ∧ w'.cell? ⟨b, off + (hi) * 7 + 1, none⟩ = some (.int .i64 ht2) ∧ w'.cell? ⟨b, off + (hi) * 7 + 2, none⟩ = some (.int .i64 ln2) ∧ w'.cell? ⟨b, off + (hi) * 7 + 3, none⟩ = some (.int .i64 le2) ∧ w'.cell? ⟨b, off + (hi) * 7 + 4, none⟩ = some (.int .i64 tm2) ∧ w'.cell? ⟨b, off + (hi) * 7 + 5, none⟩ = some (.int .i64 vr2) ∧ w'.cell? ⟨b, off + (hi) * 7 + 6, none⟩ = some (.string by_2) ∧ w'.cell? ⟨w.heap.size, 0, none⟩ = some (.string rc) ∧ w'.cell? ⟨w.heap.size, 1, none⟩ = some (.int .i64 ht) ∧ w'.cell? ⟨w.heap.size, 2, none⟩ = some (.int .i64 ln) ∧ w'.cell? ⟨w.heap.size, 3, none⟩ = some (.int .i64 le) ∧ w'.cell? ⟨w.heap.size, 4, none⟩ = some (.int .i64 tm) ∧ w'.cell? ⟨w.heap.size, 5, none⟩ = some (.int .i64 vr) ∧ w'.cell? ⟨w.heap.size, 6, none⟩ = some (.string by_))
              (first | go_keep | with_reducible exact ⟨g0, g1, g2, g3, g4, g5, g6, g7, g8, g9, g10, g11, g12, g13⟩ | with_reducible exact ⟨p0, p1, p2, p3, p4, p5, p6, x0, x1, x2, x3, x4, x5, x6⟩)
              (first | (go_at_call 61; refine (hCy.out _).mono ?_; rintro e w8 ⟨rfl, B8, _⟩; have g0 := (B8.cell (p := ⟨b, off + (hi) * 7, none⟩) hbl).trans p0; have g1 := (B8.cell (p := ⟨b, off + (hi) * 7 + 1, none⟩) hbl).trans p1; have g2 := (B8.cell (p := ⟨b, off + (hi) * 7 + 2, none⟩) hbl).trans p2; have g3 := (B8.cell (p := ⟨b, off + (hi) * 7 + 3, none⟩) hbl).trans p3; have g4 := (B8.cell (p := ⟨b, off + (hi) * 7 + 4, none⟩) hbl).trans p4; have g5 := (B8.cell (p := ⟨b, off + (hi) * 7 + 5, none⟩) hbl).trans p5; have g6 := (B8.cell (p := ⟨b, off + (hi) * 7 + 6, none⟩) hbl).trans p6; have g7 := (B8.cell (p := ⟨w.heap.size, 0, none⟩) lb).trans x0; have g8 := (B8.cell (p := ⟨w.heap.size, 1, none⟩) lb).trans x1; have g9 := (B8.cell (p := ⟨w.heap.size, 2, none⟩) lb).trans x2; have g10 := (B8.cell (p := ⟨w.heap.size, 3, none⟩) lb).trans x3; have g11 := (B8.cell (p := ⟨w.heap.size, 4, none⟩) lb).trans x4; have g12 := (B8.cell (p := ⟨w.heap.size, 5, none⟩) lb).trans x5; have g13 := (B8.cell (p := ⟨w.heap.size, 6, none⟩) lb).trans x6)))
            | fail "held"
          have B9 := hBw.out _ (below_next (below_drewN B 1) B8)
          clear p0 p1 p2 p3 p4 p5 p6 x0 x1 x2 x3 x4 x5 x6 g0 g1 g2 g3 g4 g5 g6 g7 g8 g9 g10 g11 g12 g13 hv1 B8 hb1 lb B
          go_wp2
          go_ret2
          refine ⟨⟨hi, false, rfl, (fun e => by cases e), fun _ z hz hzx => ?_⟩, B9⟩
          obtain ⟨j, hj⟩ := List.mem_iff_getElem?.1 hz
          rcases Nat.lt_trichotomy j hi with h8 | h8 | h8
          · have := I.out.1 j z h8 hj; omega
          · subst h8; rw [hyy.out] at hj; obtain rfl := Option.some.inj hj; rw [hVh.out] at hzx; exact hv hzx
          · have h7 := hsrt.out hi j _ z h8 hyy.out hj
            have h6 := I.out.2 hi _ (Nat.le_refl _) hyy.out
            obtain ⟨e1, e2, e3, e4, e5⟩ := fxKey_zero.1 hzx
            unfold fxCf at h7 h6
            rw [e1, e2, e3, e4, e5] at h7
            omega
      · have v1 : decide ((hi : Int) < (n : Int)) = false := decide_eq_false (by omega)
        have v2 : decide (hi < n) = false := decide_eq_false (by omega)
        go_wp2_with fail
        go_quiet (fail)
        have B9 := hBw.out _ (below_drewN B 1)
        go_wp2
        go_ret2
        refine ⟨⟨hi, false, rfl, (fun e => by cases e), fun _ z hz hzx => ?_⟩, below_drewN (hBw.out _ B) _⟩
        obtain ⟨j, hj⟩ := List.mem_iff_getElem?.1 hz
        have h5 := (List.getElem?_eq_some_iff.1 hj).1
        have := I.out.1 j z (by have := hlen.out; omega) hj
        omega
end Go.Proofs.YtnkhdofcmanipaaGreatDoor
