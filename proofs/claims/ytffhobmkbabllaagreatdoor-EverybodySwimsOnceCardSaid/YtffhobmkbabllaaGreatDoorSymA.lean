/- slices.symMergeCmpFunc and stableCmpFunc of seeds by heat.ordered$1. Printed by wip/mksym.py. -/
import Derived.Test.YtffhobmkbabllaaGreatDoorSymM
namespace Go.Proofs.YtffhobmkbabllaaGreatDoor
open Go.RowKit Go.Shelf Go.Lib Go.Sort
set_option linter.unusedVariables false

set_option maxHeartbeats 6400000 in
set_option maxRecDepth 100000 in
theorem sym1A_c (base b n c : Nat) (M : List Sd) (a m bb f : Nat) (w W : World) (K : SyW w base b n c M W) (h1 : a < m) (h1' : m < a + 2) (h2 : m < bb) (h3 : bb ≤ n) (hn : n ≤ 1000) :
    Calls Tryz.prog 273 #[.slice (some ⟨b, 0, none⟩) n c, .int .i64 a, .int .i64 m, .int .i64 bb, .func (.func 195) #[] #[]] W fun e w' => e = .returned (.tuple #[]) ∧ SyW w base b n c (symF (ltOf sdCf) (f + 1) a m bb M) w' := by
  obtain ⟨T, hT0⟩ : ∃ T : Nat → Bool, (fun h => ltOf sdCf (M.getD h default) (M.getD a default)) = T := ⟨_, rfl⟩
  have hT := Lib.hid (show ∀ h, T h = ltOf sdCf (M.getD h default) (M.getD a default) from fun h => by rw [← hT0])
  obtain ⟨I, hI0⟩ : ∃ I, bsF T (bb - m) m bb = I := ⟨_, rfl⟩
  have hI := Lib.hid hI0
  rw [symF_1 (by omega), hT0, hI0]
  clear hT0 hI0
  have e1 : IntKind.i64.wrap ((m : Int) - (a : Int)) = 1 := by rw [IntWalk.i64_in _ (by omega)]; omega
  go_enter Tryz.func273, Tryz.ntmps273
  go_wp2_with fail
  clear e1
  go_loopw [10, 11, 12] (fun iv jv _ wr => ∃ (g i j : Nat), iv = .int .i64 i ∧ jv = .int .i64 j ∧ m ≤ i ∧ i ≤ j ∧ j ≤ bb ∧ j ≤ i + g ∧ SyW w base b n c M wr ∧ Hid (bsF T g i j = I)) (fun iv jv _ _ => (intOf jv).toNat - (intOf iv).toNat)
  case atStart => exact ⟨bb - m, m, bb, rfl, rfl, Nat.le_refl _, by omega, Nat.le_refl _, by omega, K, hI⟩
  case round =>
    clear K hI
    rename World => wr
    obtain ⟨g, i, j, rfl, rfl, k1, k2, k3, k4, K, hI⟩ := hrel
    by_cases hlt : i < j
    · obtain ⟨g, rfl⟩ : ∃ q, g = q + 1 := ⟨g - 1, by omega⟩
      obtain ⟨q, hq⟩ : ∃ q, (i + j) / 2 = q := ⟨_, rfl⟩
      obtain ⟨x, hx, p0, p1, _, _⟩ := sd_cells K.o (i := q) (by omega)
      obtain ⟨y, hy, p2, p3, _, _⟩ := sd_cells K.o (i := a) (by omega)
      have hC := Lib.hid (fun V => show Calls Tryz.prog 195 #[.agg (sdE x).toArray, .agg (sdE y).toArray] V fun e w' => e = .returned (.int .i64 (sdCf x y)) ∧ Below V.heap.size V w' ∧ V.drawn ≤ w'.drawn from sdCmpA_c x y V (K.bd x (List.mem_of_getElem? hx)) (K.bd y (List.mem_of_getElem? hy)))
      obtain ⟨V, hV⟩ : ∃ V : Int, sdCf x y = V := ⟨_, rfl⟩
      have hTV : T q = decide (V < 0) := by
        rw [hT.out, List.getD_eq_getElem?_getD, List.getD_eq_getElem?_getD, hx, hy]; show ((ltOf sdCf x y)) = _; unfold ltOf; rw [hV]
      rw [hV] at hC
      have m0 : ((i : Int) + (j : Int)) / 2 = (q : Int) := by omega
      have u8 : IntKind.i64.wrap ((q : Int) + 1) = ((q + 1 : Nat) : Int) := by rw [IntWalk.i64_in _ (by omega)]; omega
      have lb : b < wr.heap.size := (K.o.lt b rfl).2
      have n1 : (q : Int) < (n : Int) := by omega
      have n2 : (a : Int) < (n : Int) := by omega
      have n3 : q < n := by omega
      have n4 : a < n := by omega
      obtain ⟨xw, xt⟩ := x
      obtain ⟨yw, yt⟩ := y
      dsimp only [sdE] at *
      clear hx hy hV
      by_cases hv : V < 0
      · have hv1 : decide (V < 0) = true := decide_eq_true hv
        rw [hv1] at hTV
        have hI2 := Lib.hid ((bsF_hit hlt (show T ((i + j) / 2) = true by rw [hq, hTV]; try rfl)).symm.trans hI.out)
        rw [hq] at hI2
        clear hI hTV
        go_wp2_with fail
        go_region_held3 (fun w' => w'.cell? ⟨b, q * 2, none⟩ = some (.string xw) ∧ w'.cell? ⟨b, q * 2 + 1, none⟩ = some (.int .i64 xt) ∧ w'.cell? ⟨b, a * 2, none⟩ = some (.string yw) ∧ w'.cell? ⟨b, a * 2 + 1, none⟩ = some (.int .i64 yt))
          (first | go_keep | with_reducible exact ⟨g0, g1, g2, g3⟩ | with_reducible exact ⟨p0, p1, p2, p3⟩)
          (first | (go_at_call 195; refine (hC.out _).mono ?_; rintro e w8 ⟨rfl, B8, _⟩; have g0 := (B8.cell (p := ⟨b, q * 2, none⟩) lb).trans p0; have g1 := (B8.cell (p := ⟨b, q * 2 + 1, none⟩) lb).trans p1; have g2 := (B8.cell (p := ⟨b, a * 2, none⟩) lb).trans p2; have g3 := (B8.cell (p := ⟨b, a * 2 + 1, none⟩) lb).trans p3))
        have K9 := K.below (below_next (below_drewN (Below.refl _ _) 1) B8)
        clear p0 p1 p2 p3 g0 g1 g2 g3 hC B8 K lb hv
        go_wp2
        go_roundw
        case rel => exact ⟨g, q + 1, j, by first | rfl | go_num, rfl, by omega, by omega, by omega, by omega, K9, hI2⟩
        case measure => simp [intOf]; omega
      · have hv1 : decide (V < 0) = false := decide_eq_false hv
        rw [hv1] at hTV
        have hI2 := Lib.hid ((bsF_miss hlt (show T ((i + j) / 2) = false by rw [hq, hTV]; try rfl)).symm.trans hI.out)
        rw [hq] at hI2
        clear hI hTV
        go_wp2_with fail
        go_region_held3 (fun w' => w'.cell? ⟨b, q * 2, none⟩ = some (.string xw) ∧ w'.cell? ⟨b, q * 2 + 1, none⟩ = some (.int .i64 xt) ∧ w'.cell? ⟨b, a * 2, none⟩ = some (.string yw) ∧ w'.cell? ⟨b, a * 2 + 1, none⟩ = some (.int .i64 yt))
          (first | go_keep | with_reducible exact ⟨g0, g1, g2, g3⟩ | with_reducible exact ⟨p0, p1, p2, p3⟩)
          (first | (go_at_call 195; refine (hC.out _).mono ?_; rintro e w8 ⟨rfl, B8, _⟩; have g0 := (B8.cell (p := ⟨b, q * 2, none⟩) lb).trans p0; have g1 := (B8.cell (p := ⟨b, q * 2 + 1, none⟩) lb).trans p1; have g2 := (B8.cell (p := ⟨b, a * 2, none⟩) lb).trans p2; have g3 := (B8.cell (p := ⟨b, a * 2 + 1, none⟩) lb).trans p3))
        have K9 := K.below (below_next (below_drewN (Below.refl _ _) 1) B8)
        clear p0 p1 p2 p3 g0 g1 g2 g3 hC B8 K lb hv
        go_wp2
        go_roundw
        case rel => exact ⟨g, i, q, rfl, by first | rfl | go_num, by omega, by omega, by omega, by omega, K9, hI2⟩
        case measure => simp [intOf]; omega
    · have hIi : i = I := by rw [← hI.out, bsF_end (by omega)]
      clear hI hT
      subst hIi
      have u1 : IntKind.i64.wrap ((i : Int) - 1) = ((i - 1 : Nat) : Int) := by rw [IntWalk.i64_in _ (by omega)]; omega
      go_wp2_with fail
      go_loopw [13] (fun kv wr => ∃ (k : Nat) (M' : List Sd), kv = .int .i64 k ∧ a ≤ k ∧ k ≤ i - 1 ∧ SyW w base b n c M' wr ∧ Hid (mvU (i - 1 - k) k M' = mvU (i - 1 - a) a M)) (fun kv _ => i - (intOf kv).toNat)
      case atStart => exact ⟨a, M, rfl, Nat.le_refl _, by omega, K, Lib.hid rfl⟩
      case round =>
        clear K
        rename World => wr
        obtain ⟨k, M', rfl, j1, j2, K, hM⟩ := hrel
        by_cases hlk : k < i - 1
        · obtain ⟨k9, hk9⟩ : ∃ k9, k + 1 = k9 := ⟨_, rfl⟩
          have hM2 := Lib.hid (show mvU (i - 1 - k9) k9 (swL k k9 M') = mvU (i - 1 - a) a M by rw [← hM.out, show i - 1 - k = i - 1 - k9 + 1 by omega, ← hk9]; rfl)
          have v1 : IntKind.i64.wrap ((k : Int) + 1) = (k9 : Int) := by rw [IntWalk.i64_in _ (by omega)]; omega
          obtain ⟨x, hx, cx0, cx1, fx0, fx1⟩ := sd_cells K.o (i := k) (by omega)
          obtain ⟨y, hy, cy0, cy1, fy0, fy1⟩ := sd_cells K.o (i := k9) (by omega)
          have hin : (k : Int) < (n : Int) := by omega
          have hjn : (k9 : Int) < (n : Int) := by omega
          have hin' : k < n := by omega
          have hjn' : k9 < n := by omega
          have hij : k ≠ k9 := by omega
          have hS := Lib.hid (K.put hx hy)
          obtain ⟨xw, xt⟩ := x
          obtain ⟨yw, yt⟩ := y
          dsimp only at *
          clear hM K hx hy
          go_wp2
          go_region
          clear cx0 cx1 fx0 fx1 cy0 cy1 fy0 fy1
          go_wp2
          go_roundw
          case rel => exact ⟨k9, _, by first | rfl | go_num, by omega, by omega, hS.out, hM2⟩
          case measure => simp [intOf]; omega
        · have e : M' = mvU (i - 1 - a) a M := by rw [← hM.out, show i - 1 - k = 0 by omega]; rfl
          go_wp2
          try simp only [Exit.inBlock, Exit.then]
          refine bodyPost_ret (results_none rfl _ _ _) rfl ?_
          exact ⟨rfl, by rw [← e]; exact K⟩
set_option maxHeartbeats 6400000 in
set_option maxRecDepth 100000 in
theorem sym2A_c (base b n c : Nat) (M : List Sd) (a m bb f : Nat) (w W : World) (K : SyW w base b n c M W) (h1 : a + 1 < m) (h2 : m < bb) (h2' : bb < m + 2) (h3 : bb ≤ n) (hn : n ≤ 1000) :
    Calls Tryz.prog 273 #[.slice (some ⟨b, 0, none⟩) n c, .int .i64 a, .int .i64 m, .int .i64 bb, .func (.func 195) #[] #[]] W fun e w' => e = .returned (.tuple #[]) ∧ SyW w base b n c (symF (ltOf sdCf) (f + 1) a m bb M) w' := by
  obtain ⟨T, hT0⟩ : ∃ T : Nat → Bool, (fun h => !ltOf sdCf (M.getD m default) (M.getD h default)) = T := ⟨_, rfl⟩
  have hT := Lib.hid (show ∀ h, T h = !ltOf sdCf (M.getD m default) (M.getD h default) from fun h => by rw [← hT0])
  obtain ⟨I, hI0⟩ : ∃ I, bsF T (m - a) a m = I := ⟨_, rfl⟩
  have hI := Lib.hid hI0
  rw [symF_2 (by omega) (by omega), hT0, hI0]
  clear hT0 hI0
  obtain ⟨dm, hdm⟩ : ∃ dm, m - a = dm := ⟨_, rfl⟩
  have e0 : IntKind.i64.wrap ((m : Int) - (a : Int)) = (dm : Int) := by rw [IntWalk.i64_in _ (by omega)]; omega
  have e1 : ((dm : Int) == 1) = false := beq_eq_false_iff_ne.2 (by omega)
  have e2 : IntKind.i64.wrap ((bb : Int) - (m : Int)) = 1 := by rw [IntWalk.i64_in _ (by omega)]; omega
  go_enter Tryz.func273, Tryz.ntmps273
  go_wp2_with fail
  clear e0 e1 e2 hdm
  go_loopw [14, 15, 16] (fun iv jv _ wr => ∃ (g i j : Nat), iv = .int .i64 i ∧ jv = .int .i64 j ∧ a ≤ i ∧ i ≤ j ∧ j ≤ m ∧ j ≤ i + g ∧ SyW w base b n c M wr ∧ Hid (bsF T g i j = I)) (fun iv jv _ _ => (intOf jv).toNat - (intOf iv).toNat)
  case atStart => exact ⟨m - a, a, m, rfl, rfl, Nat.le_refl _, by omega, Nat.le_refl _, by omega, K, hI⟩
  case round =>
    clear K hI
    rename World => wr
    obtain ⟨g, i, j, rfl, rfl, k1, k2, k3, k4, K, hI⟩ := hrel
    by_cases hlt : i < j
    · obtain ⟨g, rfl⟩ : ∃ q, g = q + 1 := ⟨g - 1, by omega⟩
      obtain ⟨q, hq⟩ : ∃ q, (i + j) / 2 = q := ⟨_, rfl⟩
      obtain ⟨x, hx, p0, p1, _, _⟩ := sd_cells K.o (i := m) (by omega)
      obtain ⟨y, hy, p2, p3, _, _⟩ := sd_cells K.o (i := q) (by omega)
      have hC := Lib.hid (fun V => show Calls Tryz.prog 195 #[.agg (sdE x).toArray, .agg (sdE y).toArray] V fun e w' => e = .returned (.int .i64 (sdCf x y)) ∧ Below V.heap.size V w' ∧ V.drawn ≤ w'.drawn from sdCmpA_c x y V (K.bd x (List.mem_of_getElem? hx)) (K.bd y (List.mem_of_getElem? hy)))
      obtain ⟨V, hV⟩ : ∃ V : Int, sdCf x y = V := ⟨_, rfl⟩
      have hTV : T q = !decide (V < 0) := by
        rw [hT.out, List.getD_eq_getElem?_getD, List.getD_eq_getElem?_getD, hx, hy]; show (!(ltOf sdCf x y)) = _; unfold ltOf; rw [hV]
      rw [hV] at hC
      have m0 : ((i : Int) + (j : Int)) / 2 = (q : Int) := by omega
      have u8 : IntKind.i64.wrap ((q : Int) + 1) = ((q + 1 : Nat) : Int) := by rw [IntWalk.i64_in _ (by omega)]; omega
      have lb : b < wr.heap.size := (K.o.lt b rfl).2
      have n1 : (m : Int) < (n : Int) := by omega
      have n2 : (q : Int) < (n : Int) := by omega
      have n3 : m < n := by omega
      have n4 : q < n := by omega
      obtain ⟨xw, xt⟩ := x
      obtain ⟨yw, yt⟩ := y
      dsimp only [sdE] at *
      clear hx hy hV
      by_cases hv : V < 0
      · have hv1 : decide (V < 0) = true := decide_eq_true hv
        rw [hv1] at hTV
        have hI2 := Lib.hid ((bsF_miss hlt (show T ((i + j) / 2) = false by rw [hq, hTV]; try rfl)).symm.trans hI.out)
        rw [hq] at hI2
        clear hI hTV
        go_wp2_with fail
        go_region_held3 (fun w' => w'.cell? ⟨b, m * 2, none⟩ = some (.string xw) ∧ w'.cell? ⟨b, m * 2 + 1, none⟩ = some (.int .i64 xt) ∧ w'.cell? ⟨b, q * 2, none⟩ = some (.string yw) ∧ w'.cell? ⟨b, q * 2 + 1, none⟩ = some (.int .i64 yt))
          (first | go_keep | with_reducible exact ⟨g0, g1, g2, g3⟩ | with_reducible exact ⟨p0, p1, p2, p3⟩)
          (first | (go_at_call 195; refine (hC.out _).mono ?_; rintro e w8 ⟨rfl, B8, _⟩; have g0 := (B8.cell (p := ⟨b, m * 2, none⟩) lb).trans p0; have g1 := (B8.cell (p := ⟨b, m * 2 + 1, none⟩) lb).trans p1; have g2 := (B8.cell (p := ⟨b, q * 2, none⟩) lb).trans p2; have g3 := (B8.cell (p := ⟨b, q * 2 + 1, none⟩) lb).trans p3))
        have K9 := K.below (below_next (below_drewN (Below.refl _ _) 1) B8)
        clear p0 p1 p2 p3 g0 g1 g2 g3 hC B8 K lb hv
        go_wp2
        go_roundw
        case rel => exact ⟨g, i, q, rfl, by first | rfl | go_num, by omega, by omega, by omega, by omega, K9, hI2⟩
        case measure => simp [intOf]; omega
      · have hv1 : decide (V < 0) = false := decide_eq_false hv
        rw [hv1] at hTV
        have hI2 := Lib.hid ((bsF_hit hlt (show T ((i + j) / 2) = true by rw [hq, hTV]; try rfl)).symm.trans hI.out)
        rw [hq] at hI2
        clear hI hTV
        go_wp2_with fail
        go_region_held3 (fun w' => w'.cell? ⟨b, m * 2, none⟩ = some (.string xw) ∧ w'.cell? ⟨b, m * 2 + 1, none⟩ = some (.int .i64 xt) ∧ w'.cell? ⟨b, q * 2, none⟩ = some (.string yw) ∧ w'.cell? ⟨b, q * 2 + 1, none⟩ = some (.int .i64 yt))
          (first | go_keep | with_reducible exact ⟨g0, g1, g2, g3⟩ | with_reducible exact ⟨p0, p1, p2, p3⟩)
          (first | (go_at_call 195; refine (hC.out _).mono ?_; rintro e w8 ⟨rfl, B8, _⟩; have g0 := (B8.cell (p := ⟨b, m * 2, none⟩) lb).trans p0; have g1 := (B8.cell (p := ⟨b, m * 2 + 1, none⟩) lb).trans p1; have g2 := (B8.cell (p := ⟨b, q * 2, none⟩) lb).trans p2; have g3 := (B8.cell (p := ⟨b, q * 2 + 1, none⟩) lb).trans p3))
        have K9 := K.below (below_next (below_drewN (Below.refl _ _) 1) B8)
        clear p0 p1 p2 p3 g0 g1 g2 g3 hC B8 K lb hv
        go_wp2
        go_roundw
        case rel => exact ⟨g, q + 1, j, by first | rfl | go_num, rfl, by omega, by omega, by omega, by omega, K9, hI2⟩
        case measure => simp [intOf]; omega
    · have hIi : i = I := by rw [← hI.out, bsF_end (by omega)]
      clear hI hT
      subst hIi
      go_wp2_with fail
      go_loopw [17] (fun kv wr => ∃ (k : Nat) (M' : List Sd), kv = .int .i64 k ∧ i ≤ k ∧ k ≤ m ∧ SyW w base b n c M' wr ∧ Hid (mvD (k - i) k M' = mvD (m - i) m M)) (fun kv _ => (intOf kv).toNat - i)
      case atStart => exact ⟨m, M, rfl, by omega, Nat.le_refl _, K, Lib.hid rfl⟩
      case round =>
        clear K
        rename World => wr
        obtain ⟨k, M', rfl, j1, j2, K, hM⟩ := hrel
        by_cases hlk : i < k
        · obtain ⟨k9, hk9⟩ : ∃ k9, k - 1 = k9 := ⟨_, rfl⟩
          have hM2 := Lib.hid (show mvD (k9 - i) k9 (swL k k9 M') = mvD (m - i) m M by rw [← hM.out, show k - i = k9 - i + 1 by omega, ← hk9]; rfl)
          have v1 : IntKind.i64.wrap ((k : Int) - 1) = (k9 : Int) := by rw [IntWalk.i64_in _ (by omega)]; omega
          obtain ⟨x, hx, cx0, cx1, fx0, fx1⟩ := sd_cells K.o (i := k) (by omega)
          obtain ⟨y, hy, cy0, cy1, fy0, fy1⟩ := sd_cells K.o (i := k9) (by omega)
          have hin : (k : Int) < (n : Int) := by omega
          have hjn : (k9 : Int) < (n : Int) := by omega
          have hin' : k < n := by omega
          have hjn' : k9 < n := by omega
          have hij : k ≠ k9 := by omega
          have hS := Lib.hid (K.put hx hy)
          obtain ⟨xw, xt⟩ := x
          obtain ⟨yw, yt⟩ := y
          dsimp only at *
          clear hM K hx hy
          go_wp2
          go_region
          clear cx0 cx1 fx0 fx1 cy0 cy1 fy0 fy1
          go_wp2
          go_roundw
          case rel => exact ⟨k9, _, by first | rfl | go_num, by omega, by omega, hS.out, hM2⟩
          case measure => simp [intOf]; omega
        · have e : M' = mvD (m - i) m M := by rw [← hM.out, show k - i = 0 by omega]; rfl
          go_wp2
          try simp only [Exit.inBlock, Exit.then]
          refine bodyPost_ret (results_none rfl _ _ _) rfl ?_
          exact ⟨rfl, by rw [← e]; exact K⟩
set_option maxHeartbeats 25600000 in
set_option maxRecDepth 100000 in
theorem sym3A_c (base b n c : Nat) (M : List Sd) (a m bb f : Nat) (w W : World) (K : SyW w base b n c M W) (h1 : a + 1 < m) (h2 : m + 1 < bb) (h3 : bb ≤ n) (hn : n ≤ 1000) (hf : bb - a ≤ f + 1) (ih0 : ∀ (a m bb : Nat) (M : List Sd) (W : World), SyW w base b n c M W → a < m → m < bb → bb ≤ n → bb - a ≤ f → Calls Tryz.prog 273 #[.slice (some ⟨b, 0, none⟩) n c, .int .i64 a, .int .i64 m, .int .i64 bb, .func (.func 195) #[] #[]] W fun e w' => e = .returned (.tuple #[]) ∧ SyW w base b n c (symF (ltOf sdCf) f a m bb M) w') :
    Calls Tryz.prog 273 #[.slice (some ⟨b, 0, none⟩) n c, .int .i64 a, .int .i64 m, .int .i64 bb, .func (.func 195) #[] #[]] W fun e w' => e = .returned (.tuple #[]) ∧ SyW w base b n c (symF (ltOf sdCf) (f + 1) a m bb M) w' := by
  have ih := Lib.hid ih0
  clear ih0
  obtain ⟨mid, hmid⟩ : ∃ mid, (a + bb) / 2 = mid := ⟨_, rfl⟩
  obtain ⟨nn, hnn⟩ : ∃ nn, mid + m = nn := ⟨_, rfl⟩
  obtain ⟨lo, hlo⟩ : ∃ lo, (if mid < m then nn - bb else a) = lo := ⟨_, rfl⟩
  obtain ⟨hi, hhi⟩ : ∃ hi, (if mid < m then mid else m) = hi := ⟨_, rfl⟩
  obtain ⟨T, hT0⟩ : ∃ T : Nat → Bool, (fun c => !ltOf sdCf (M.getD (nn - 1 - c) default) (M.getD c default)) = T := ⟨_, rfl⟩
  have hT := Lib.hid (show ∀ h, T h = !ltOf sdCf (M.getD (nn - 1 - h) default) (M.getD h default) from fun h => by rw [← hT0])
  obtain ⟨I, hI0⟩ : ∃ I, bsF T bb lo hi = I := ⟨_, rfl⟩
  have hI := Lib.hid hI0
  obtain ⟨R, hR0⟩ : ∃ R, symF (ltOf sdCf) (f + 1) a m bb M = R := ⟨_, rfl⟩
  have hRes := Lib.hid (show ∀ s, s = I → (if mid < nn - s ∧ nn - s < bb then symF (ltOf sdCf) f mid (nn - s) bb (if a < s ∧ s < mid then symF (ltOf sdCf) f a s mid (if s < m ∧ m < nn - s then rotF (bb + 1) (m - s) (nn - s - m) m M else M) else (if s < m ∧ m < nn - s then rotF (bb + 1) (m - s) (nn - s - m) m M else M)) else (if a < s ∧ s < mid then symF (ltOf sdCf) f a s mid (if s < m ∧ m < nn - s then rotF (bb + 1) (m - s) (nn - s - m) m M else M) else (if s < m ∧ m < nn - s then rotF (bb + 1) (m - s) (nn - s - m) m M else M))) = R from fun s hs => by
    rw [← hR0, symF_3 (by omega) (by omega)]
    dsimp only
    rw [hmid, hnn, hlo, hhi, hT0, hI0, hs])
  rw [hR0]
  have hlh : lo ≤ hi ∧ hi ≤ m ∧ ((mid < m ∧ lo = nn - bb ∧ hi = mid) ∨ (¬ mid < m ∧ lo = a ∧ hi = m)) := by
    by_cases h : mid < m
    · rw [if_pos h] at hlo hhi; omega
    · rw [if_neg h] at hlo hhi; omega
  clear hT0 hI0 hR0 hlo hhi
  obtain ⟨dm, hdm⟩ : ∃ dm, m - a = dm := ⟨_, rfl⟩
  have e0 : IntKind.i64.wrap ((m : Int) - (a : Int)) = (dm : Int) := by rw [IntWalk.i64_in _ (by omega)]; omega
  have e1 : ((dm : Int) == 1) = false := beq_eq_false_iff_ne.2 (by omega)
  obtain ⟨db, hdb⟩ : ∃ db, bb - m = db := ⟨_, rfl⟩
  have e7 : IntKind.i64.wrap ((bb : Int) - (m : Int)) = (db : Int) := by rw [IntWalk.i64_in _ (by omega)]; omega
  have e2 : ((db : Int) == 1) = false := beq_eq_false_iff_ne.2 (by omega)
  have e3 : ((a : Int) + (bb : Int)) / 2 = (mid : Int) := by omega
  have e4 : IntKind.i64.wrap ((mid : Int) + (m : Int)) = (nn : Int) := by rw [IntWalk.i64_in _ (by omega)]; omega
  obtain ⟨pp, hpp⟩ : ∃ pp, nn - 1 = pp := ⟨_, rfl⟩
  have e6 : IntKind.i64.wrap ((nn : Int) - 1) = (pp : Int) := by rw [IntWalk.i64_in _ (by omega)]; omega
  rw [hpp] at hT
  obtain ⟨hl1, hl2, hl3⟩ := hlh
  go_enter Tryz.func273, Tryz.ntmps273
  go_upto_if 140 with (fail)
  go_cut [20, 21] (fun u v wx => u = .int .i64 (lo : Int) ∧ v = .int .i64 (hi : Int) ∧ SyW w base b n c M wx)
  case first =>
    rcases hl3 with ⟨q1, q2, q3⟩ | ⟨q1, q2, q3⟩
    · have e5 : IntKind.i64.wrap ((nn : Int) - (bb : Int)) = (lo : Int) := by rw [IntWalk.i64_in _ (by omega)]; omega
      go_wp2
      go_meet
      case rel => exact ⟨by rw [q2], by rw [q3], K⟩
    · go_wp2
      go_meet
      case rel => exact ⟨by rw [q2], by rw [q3], K⟩
  case rest =>
  clear K e0 e1 e2 e3 e4 e7 hdm hdb
  rename World => wx
  obtain ⟨rfl, rfl, K⟩ := hcut
  go_wp2_with fail
  clear e6
  go_loopw [20, 21, 23] (fun iv jv _ wr => ∃ (g i j : Nat), iv = .int .i64 i ∧ jv = .int .i64 j ∧ lo ≤ i ∧ i ≤ j ∧ j ≤ hi ∧ j ≤ i + g ∧ SyW w base b n c M wr ∧ Hid (bsF T g i j = I)) (fun iv jv _ _ => (intOf jv).toNat - (intOf iv).toNat)
  case atStart => exact ⟨bb, lo, hi, rfl, rfl, Nat.le_refl _, by omega, Nat.le_refl _, by omega, K, hI⟩
  case round =>
    clear K hI
    rename World => wr
    obtain ⟨g, i, j, rfl, rfl, k1, k2, k3, k4, K, hI⟩ := hrel
    by_cases hlt : i < j
    · obtain ⟨g, rfl⟩ : ∃ q, g = q + 1 := ⟨g - 1, by omega⟩
      obtain ⟨q, hq⟩ : ∃ q, (i + j) / 2 = q := ⟨_, rfl⟩
      obtain ⟨r, hr⟩ : ∃ r, pp - q = r := ⟨_, rfl⟩
      have u9 : IntKind.i64.wrap ((pp : Int) - (q : Int)) = (r : Int) := by rw [IntWalk.i64_in _ (by omega)]; omega
      obtain ⟨x, hx, p0, p1, _, _⟩ := sd_cells K.o (i := r) (by omega)
      obtain ⟨y, hy, p2, p3, _, _⟩ := sd_cells K.o (i := q) (by omega)
      have hC := Lib.hid (fun V => show Calls Tryz.prog 195 #[.agg (sdE x).toArray, .agg (sdE y).toArray] V fun e w' => e = .returned (.int .i64 (sdCf x y)) ∧ Below V.heap.size V w' ∧ V.drawn ≤ w'.drawn from sdCmpA_c x y V (K.bd x (List.mem_of_getElem? hx)) (K.bd y (List.mem_of_getElem? hy)))
      obtain ⟨V, hV⟩ : ∃ V : Int, sdCf x y = V := ⟨_, rfl⟩
      have hTV : T q = !decide (V < 0) := by
        rw [hT.out, List.getD_eq_getElem?_getD, List.getD_eq_getElem?_getD, hr, hx, hy]; show (!(ltOf sdCf x y)) = _; unfold ltOf; rw [hV]
      rw [hV] at hC
      have m0 : ((i : Int) + (j : Int)) / 2 = (q : Int) := by omega
      have u8 : IntKind.i64.wrap ((q : Int) + 1) = ((q + 1 : Nat) : Int) := by rw [IntWalk.i64_in _ (by omega)]; omega
      have lb : b < wr.heap.size := (K.o.lt b rfl).2
      have n1 : (r : Int) < (n : Int) := by omega
      have n2 : (q : Int) < (n : Int) := by omega
      have n3 : r < n := by omega
      have n4 : q < n := by omega
      obtain ⟨xw, xt⟩ := x
      obtain ⟨yw, yt⟩ := y
      dsimp only [sdE] at *
      clear hx hy hV
      by_cases hv : V < 0
      · have hv1 : decide (V < 0) = true := decide_eq_true hv
        rw [hv1] at hTV
        have hI2 := Lib.hid ((bsF_miss hlt (show T ((i + j) / 2) = false by rw [hq, hTV]; try rfl)).symm.trans hI.out)
        rw [hq] at hI2
        clear hI hTV
        go_wp2_with fail
        go_region_held3 (fun w' => w'.cell? ⟨b, r * 2, none⟩ = some (.string xw) ∧ w'.cell? ⟨b, r * 2 + 1, none⟩ = some (.int .i64 xt) ∧ w'.cell? ⟨b, q * 2, none⟩ = some (.string yw) ∧ w'.cell? ⟨b, q * 2 + 1, none⟩ = some (.int .i64 yt))
          (first | go_keep | with_reducible exact ⟨g0, g1, g2, g3⟩ | with_reducible exact ⟨p0, p1, p2, p3⟩)
          (first | (go_at_call 195; refine (hC.out _).mono ?_; rintro e w8 ⟨rfl, B8, _⟩; have g0 := (B8.cell (p := ⟨b, r * 2, none⟩) lb).trans p0; have g1 := (B8.cell (p := ⟨b, r * 2 + 1, none⟩) lb).trans p1; have g2 := (B8.cell (p := ⟨b, q * 2, none⟩) lb).trans p2; have g3 := (B8.cell (p := ⟨b, q * 2 + 1, none⟩) lb).trans p3))
        have K9 := K.below (below_next (below_drewN (Below.refl _ _) 1) B8)
        clear p0 p1 p2 p3 g0 g1 g2 g3 hC B8 K lb hv
        go_wp2
        go_roundw
        case rel => exact ⟨g, i, q, rfl, by first | rfl | go_num, by omega, by omega, by omega, by omega, K9, hI2⟩
        case measure => simp [intOf]; omega
      · have hv1 : decide (V < 0) = false := decide_eq_false hv
        rw [hv1] at hTV
        have hI2 := Lib.hid ((bsF_hit hlt (show T ((i + j) / 2) = true by rw [hq, hTV]; try rfl)).symm.trans hI.out)
        rw [hq] at hI2
        clear hI hTV
        go_wp2_with fail
        go_region_held3 (fun w' => w'.cell? ⟨b, r * 2, none⟩ = some (.string xw) ∧ w'.cell? ⟨b, r * 2 + 1, none⟩ = some (.int .i64 xt) ∧ w'.cell? ⟨b, q * 2, none⟩ = some (.string yw) ∧ w'.cell? ⟨b, q * 2 + 1, none⟩ = some (.int .i64 yt))
          (first | go_keep | with_reducible exact ⟨g0, g1, g2, g3⟩ | with_reducible exact ⟨p0, p1, p2, p3⟩)
          (first | (go_at_call 195; refine (hC.out _).mono ?_; rintro e w8 ⟨rfl, B8, _⟩; have g0 := (B8.cell (p := ⟨b, r * 2, none⟩) lb).trans p0; have g1 := (B8.cell (p := ⟨b, r * 2 + 1, none⟩) lb).trans p1; have g2 := (B8.cell (p := ⟨b, q * 2, none⟩) lb).trans p2; have g3 := (B8.cell (p := ⟨b, q * 2 + 1, none⟩) lb).trans p3))
        have K9 := K.below (below_next (below_drewN (Below.refl _ _) 1) B8)
        clear p0 p1 p2 p3 g0 g1 g2 g3 hC B8 K lb hv
        go_wp2
        go_roundw
        case rel => exact ⟨g, q + 1, j, by first | rfl | go_num, rfl, by omega, by omega, by omega, by omega, K9, hI2⟩
        case measure => simp [intOf]; omega
    · have hIi : i = I := by rw [← hI.out, bsF_end (by omega)]
      clear hI hT
      subst hIi
      have u2 : IntKind.i64.wrap ((nn : Int) - (i : Int)) = ((nn - i : Nat) : Int) := by rw [IntWalk.i64_in _ (by omega)]; omega
      obtain ⟨ee, hee⟩ : ∃ ee, nn - i = ee := ⟨_, rfl⟩
      rw [hee] at u2
      have hR := hRes.out i rfl
      rw [hee] at hR
      obtain ⟨l1, hl1⟩ : ∃ l1, (if i < m ∧ m < ee then rotF (bb + 1) (m - i) (ee - m) m M else M) = l1 := ⟨_, rfl⟩
      obtain ⟨l2, hl2⟩ : ∃ l2, (if a < i ∧ i < mid then symF (ltOf sdCf) f a i mid l1 else l1) = l2 := ⟨_, rfl⟩
      obtain ⟨l3, hl3⟩ : ∃ l3, (if mid < ee ∧ ee < bb then symF (ltOf sdCf) f mid ee bb l2 else l2) = l3 := ⟨_, rfl⟩
      rw [hl1, hl2, hl3] at hR
      have hRo := Lib.hid (fun (h8 : i < m) (h9 : m < ee) W (K : SyW w base b n c M W) => show Calls Tryz.prog 306 #[.slice (some ⟨b, 0, none⟩) n c, .int .i64 i, .int .i64 m, .int .i64 ee, .func (.func 195) #[] #[]] W fun e w' => e = .returned (.tuple #[]) ∧ SyW w base b n c l1 w' by
        rw [if_pos ⟨h8, h9⟩] at hl1
        exact (rotate_c base b n c M _ i m ee (bb + 1) W K.o K.bd h8 h9 (by omega) (by omega) hn).mono fun e w' ⟨he, hq⟩ => ⟨he, by rw [← hl1]; exact K.next hq⟩)
      have hLf := Lib.hid (fun (h8 : a < i) (h9 : i < mid) W (K : SyW w base b n c l1 W) => show Calls Tryz.prog 273 #[.slice (some ⟨b, 0, none⟩) n c, .int .i64 a, .int .i64 i, .int .i64 mid, .func (.func 195) #[] #[]] W fun e w' => e = .returned (.tuple #[]) ∧ SyW w base b n c l2 w' by
        rw [if_pos ⟨h8, h9⟩] at hl2
        rw [← hl2]
        exact ih.out a i mid l1 W K h8 h9 (by omega) (by omega))
      have hRi := Lib.hid (fun (h8 : mid < ee) (h9 : ee < bb) W (K : SyW w base b n c l2 W) => show Calls Tryz.prog 273 #[.slice (some ⟨b, 0, none⟩) n c, .int .i64 mid, .int .i64 ee, .int .i64 bb, .func (.func 195) #[] #[]] W fun e w' => e = .returned (.tuple #[]) ∧ SyW w base b n c l3 w' by
        rw [if_pos ⟨h8, h9⟩] at hl3
        rw [← hl3]
        exact ih.out mid ee bb l2 W K h8 h9 h3 (by omega))
      have n1 := Lib.hid (fun (h : ¬ (i < m ∧ m < ee)) => show M = l1 by rw [if_neg h] at hl1; exact hl1)
      have n2 := Lib.hid (fun (h : ¬ (a < i ∧ i < mid)) => show l1 = l2 by rw [if_neg h] at hl2; exact hl2)
      have n3 := Lib.hid (fun (h : ¬ (mid < ee ∧ ee < bb)) => show l2 = l3 by rw [if_neg h] at hl3; exact hl3)
      have hR' := Lib.hid hR
      clear hl1 hl2 hl3 hR hRes ih
      have K1 := K
      have c1 : (i < m ∧ m < ee) ∨ (i < m ∧ ¬ m < ee) ∨ ¬ i < m := by omega
      have c2 : (a < i ∧ i < mid) ∨ (a < i ∧ ¬ i < mid) ∨ ¬ a < i := by omega
      have c3 : (mid < ee ∧ ee < bb) ∨ (mid < ee ∧ ¬ ee < bb) ∨ ¬ mid < ee := by omega
      clear K k1 k2 k3 k4 hl1 hl2 hl3 hpp hnn hmid hf
      rcases c1 with ⟨a1, a2⟩ | ⟨a1, a2⟩ | a1
      · have r1 := Lib.hid (hRo.out a1 a2)
        rcases c2 with ⟨b1, b2⟩ | ⟨b1, b2⟩ | b1
        · have r2 := Lib.hid (hLf.out b1 b2)
          rcases c3 with ⟨d1, d2⟩ | ⟨d1, d2⟩ | d1
          · have r3 := Lib.hid (hRi.out d1 d2)
            clear hRo hLf hRi n1 n2 n3
            go_wp2_with fail
            refine (r1.out _ K1).mono ?_; rintro e wz ⟨rfl, K1⟩
            go_wp2_with fail
            refine (r2.out _ K1).mono ?_; rintro e wz ⟨rfl, K1⟩
            go_wp2_with fail
            refine (r3.out _ K1).mono ?_; rintro e wz ⟨rfl, K1⟩
            go_wp2
            go_end0
            exact ⟨rfl, by rw [← hR'.out]; exact K1⟩
          · obtain rfl := n3.out (fun h => d2 h.2)
            clear hRo hLf hRi n1 n2 n3
            go_wp2_with fail
            refine (r1.out _ K1).mono ?_; rintro e wz ⟨rfl, K1⟩
            go_wp2_with fail
            refine (r2.out _ K1).mono ?_; rintro e wz ⟨rfl, K1⟩
            go_wp2
            go_end0
            exact ⟨rfl, by rw [← hR'.out]; exact K1⟩
          · obtain rfl := n3.out (fun h => d1 h.1)
            clear hRo hLf hRi n1 n2 n3
            go_wp2_with fail
            refine (r1.out _ K1).mono ?_; rintro e wz ⟨rfl, K1⟩
            go_wp2_with fail
            refine (r2.out _ K1).mono ?_; rintro e wz ⟨rfl, K1⟩
            go_wp2
            go_end0
            exact ⟨rfl, by rw [← hR'.out]; exact K1⟩
        · obtain rfl := n2.out (fun h => b2 h.2)
          rcases c3 with ⟨d1, d2⟩ | ⟨d1, d2⟩ | d1
          · have r3 := Lib.hid (hRi.out d1 d2)
            clear hRo hLf hRi n1 n2 n3
            go_wp2_with fail
            refine (r1.out _ K1).mono ?_; rintro e wz ⟨rfl, K1⟩
            go_wp2_with fail
            refine (r3.out _ K1).mono ?_; rintro e wz ⟨rfl, K1⟩
            go_wp2
            go_end0
            exact ⟨rfl, by rw [← hR'.out]; exact K1⟩
          · obtain rfl := n3.out (fun h => d2 h.2)
            clear hRo hLf hRi n1 n2 n3
            go_wp2_with fail
            refine (r1.out _ K1).mono ?_; rintro e wz ⟨rfl, K1⟩
            go_wp2
            go_end0
            exact ⟨rfl, by rw [← hR'.out]; exact K1⟩
          · obtain rfl := n3.out (fun h => d1 h.1)
            clear hRo hLf hRi n1 n2 n3
            go_wp2_with fail
            refine (r1.out _ K1).mono ?_; rintro e wz ⟨rfl, K1⟩
            go_wp2
            go_end0
            exact ⟨rfl, by rw [← hR'.out]; exact K1⟩
        · obtain rfl := n2.out (fun h => b1 h.1)
          rcases c3 with ⟨d1, d2⟩ | ⟨d1, d2⟩ | d1
          · have r3 := Lib.hid (hRi.out d1 d2)
            clear hRo hLf hRi n1 n2 n3
            go_wp2_with fail
            refine (r1.out _ K1).mono ?_; rintro e wz ⟨rfl, K1⟩
            go_wp2_with fail
            refine (r3.out _ K1).mono ?_; rintro e wz ⟨rfl, K1⟩
            go_wp2
            go_end0
            exact ⟨rfl, by rw [← hR'.out]; exact K1⟩
          · obtain rfl := n3.out (fun h => d2 h.2)
            clear hRo hLf hRi n1 n2 n3
            go_wp2_with fail
            refine (r1.out _ K1).mono ?_; rintro e wz ⟨rfl, K1⟩
            go_wp2
            go_end0
            exact ⟨rfl, by rw [← hR'.out]; exact K1⟩
          · obtain rfl := n3.out (fun h => d1 h.1)
            clear hRo hLf hRi n1 n2 n3
            go_wp2_with fail
            refine (r1.out _ K1).mono ?_; rintro e wz ⟨rfl, K1⟩
            go_wp2
            go_end0
            exact ⟨rfl, by rw [← hR'.out]; exact K1⟩
      · obtain rfl := n1.out (fun h => a2 h.2)
        rcases c2 with ⟨b1, b2⟩ | ⟨b1, b2⟩ | b1
        · have r2 := Lib.hid (hLf.out b1 b2)
          rcases c3 with ⟨d1, d2⟩ | ⟨d1, d2⟩ | d1
          · have r3 := Lib.hid (hRi.out d1 d2)
            clear hRo hLf hRi n1 n2 n3
            go_wp2_with fail
            refine (r2.out _ K1).mono ?_; rintro e wz ⟨rfl, K1⟩
            go_wp2_with fail
            refine (r3.out _ K1).mono ?_; rintro e wz ⟨rfl, K1⟩
            go_wp2
            go_end0
            exact ⟨rfl, by rw [← hR'.out]; exact K1⟩
          · obtain rfl := n3.out (fun h => d2 h.2)
            clear hRo hLf hRi n1 n2 n3
            go_wp2_with fail
            refine (r2.out _ K1).mono ?_; rintro e wz ⟨rfl, K1⟩
            go_wp2
            go_end0
            exact ⟨rfl, by rw [← hR'.out]; exact K1⟩
          · obtain rfl := n3.out (fun h => d1 h.1)
            clear hRo hLf hRi n1 n2 n3
            go_wp2_with fail
            refine (r2.out _ K1).mono ?_; rintro e wz ⟨rfl, K1⟩
            go_wp2
            go_end0
            exact ⟨rfl, by rw [← hR'.out]; exact K1⟩
        · obtain rfl := n2.out (fun h => b2 h.2)
          rcases c3 with ⟨d1, d2⟩ | ⟨d1, d2⟩ | d1
          · have r3 := Lib.hid (hRi.out d1 d2)
            clear hRo hLf hRi n1 n2 n3
            go_wp2_with fail
            refine (r3.out _ K1).mono ?_; rintro e wz ⟨rfl, K1⟩
            go_wp2
            go_end0
            exact ⟨rfl, by rw [← hR'.out]; exact K1⟩
          · obtain rfl := n3.out (fun h => d2 h.2)
            clear hRo hLf hRi n1 n2 n3
            go_wp2
            go_end0
            exact ⟨rfl, by rw [← hR'.out]; exact K1⟩
          · obtain rfl := n3.out (fun h => d1 h.1)
            clear hRo hLf hRi n1 n2 n3
            go_wp2
            go_end0
            exact ⟨rfl, by rw [← hR'.out]; exact K1⟩
        · obtain rfl := n2.out (fun h => b1 h.1)
          rcases c3 with ⟨d1, d2⟩ | ⟨d1, d2⟩ | d1
          · have r3 := Lib.hid (hRi.out d1 d2)
            clear hRo hLf hRi n1 n2 n3
            go_wp2_with fail
            refine (r3.out _ K1).mono ?_; rintro e wz ⟨rfl, K1⟩
            go_wp2
            go_end0
            exact ⟨rfl, by rw [← hR'.out]; exact K1⟩
          · obtain rfl := n3.out (fun h => d2 h.2)
            clear hRo hLf hRi n1 n2 n3
            go_wp2
            go_end0
            exact ⟨rfl, by rw [← hR'.out]; exact K1⟩
          · obtain rfl := n3.out (fun h => d1 h.1)
            clear hRo hLf hRi n1 n2 n3
            go_wp2
            go_end0
            exact ⟨rfl, by rw [← hR'.out]; exact K1⟩
      · obtain rfl := n1.out (fun h => a1 h.1)
        rcases c2 with ⟨b1, b2⟩ | ⟨b1, b2⟩ | b1
        · have r2 := Lib.hid (hLf.out b1 b2)
          rcases c3 with ⟨d1, d2⟩ | ⟨d1, d2⟩ | d1
          · have r3 := Lib.hid (hRi.out d1 d2)
            clear hRo hLf hRi n1 n2 n3
            go_wp2_with fail
            refine (r2.out _ K1).mono ?_; rintro e wz ⟨rfl, K1⟩
            go_wp2_with fail
            refine (r3.out _ K1).mono ?_; rintro e wz ⟨rfl, K1⟩
            go_wp2
            go_end0
            exact ⟨rfl, by rw [← hR'.out]; exact K1⟩
          · obtain rfl := n3.out (fun h => d2 h.2)
            clear hRo hLf hRi n1 n2 n3
            go_wp2_with fail
            refine (r2.out _ K1).mono ?_; rintro e wz ⟨rfl, K1⟩
            go_wp2
            go_end0
            exact ⟨rfl, by rw [← hR'.out]; exact K1⟩
          · obtain rfl := n3.out (fun h => d1 h.1)
            clear hRo hLf hRi n1 n2 n3
            go_wp2_with fail
            refine (r2.out _ K1).mono ?_; rintro e wz ⟨rfl, K1⟩
            go_wp2
            go_end0
            exact ⟨rfl, by rw [← hR'.out]; exact K1⟩
        · obtain rfl := n2.out (fun h => b2 h.2)
          rcases c3 with ⟨d1, d2⟩ | ⟨d1, d2⟩ | d1
          · have r3 := Lib.hid (hRi.out d1 d2)
            clear hRo hLf hRi n1 n2 n3
            go_wp2_with fail
            refine (r3.out _ K1).mono ?_; rintro e wz ⟨rfl, K1⟩
            go_wp2
            go_end0
            exact ⟨rfl, by rw [← hR'.out]; exact K1⟩
          · obtain rfl := n3.out (fun h => d2 h.2)
            clear hRo hLf hRi n1 n2 n3
            go_wp2
            go_end0
            exact ⟨rfl, by rw [← hR'.out]; exact K1⟩
          · obtain rfl := n3.out (fun h => d1 h.1)
            clear hRo hLf hRi n1 n2 n3
            go_wp2
            go_end0
            exact ⟨rfl, by rw [← hR'.out]; exact K1⟩
        · obtain rfl := n2.out (fun h => b1 h.1)
          rcases c3 with ⟨d1, d2⟩ | ⟨d1, d2⟩ | d1
          · have r3 := Lib.hid (hRi.out d1 d2)
            clear hRo hLf hRi n1 n2 n3
            go_wp2_with fail
            refine (r3.out _ K1).mono ?_; rintro e wz ⟨rfl, K1⟩
            go_wp2
            go_end0
            exact ⟨rfl, by rw [← hR'.out]; exact K1⟩
          · obtain rfl := n3.out (fun h => d2 h.2)
            clear hRo hLf hRi n1 n2 n3
            go_wp2
            go_end0
            exact ⟨rfl, by rw [← hR'.out]; exact K1⟩
          · obtain rfl := n3.out (fun h => d1 h.1)
            clear hRo hLf hRi n1 n2 n3
            go_wp2
            go_end0
            exact ⟨rfl, by rw [← hR'.out]; exact K1⟩
theorem symMergeA_c (base b n c : Nat) (hn : n ≤ 1000) (w : World) : ∀ (f a m bb : Nat) (M : List Sd) (W : World), SyW w base b n c M W → a < m → m < bb → bb ≤ n → bb - a ≤ f → Calls Tryz.prog 273 #[.slice (some ⟨b, 0, none⟩) n c, .int .i64 a, .int .i64 m, .int .i64 bb, .func (.func 195) #[] #[]] W fun e w' => e = .returned (.tuple #[]) ∧ SyW w base b n c (symF (ltOf sdCf) f a m bb M) w'
  | 0, a, m, bb, M, W, K, h1, h2, h3, h4 => absurd h4 (by omega)
  | f + 1, a, m, bb, M, W, K, h1, h2, h3, h4 => by
    by_cases q1 : m = a + 1
    · exact sym1A_c base b n c M a m bb f w W K h1 (by omega) h2 h3 hn
    · by_cases q2 : bb = m + 1
      · exact sym2A_c base b n c M a m bb f w W K (by omega) h2 (by omega) h3 hn
      · exact sym3A_c base b n c M a m bb f w W K (by omega) (by omega) h3 hn h4 (fun a m bb M W K h1 h2 h3 h4 => symMergeA_c base b n c hn w f a m bb M W K h1 h2 h3 h4)
end Go.Proofs.YtffhobmkbabllaaGreatDoor
