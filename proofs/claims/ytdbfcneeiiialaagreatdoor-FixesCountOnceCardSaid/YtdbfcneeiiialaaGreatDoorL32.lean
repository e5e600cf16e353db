/- FixesCountOnce: the walk. -/
import Derived.Test.YtdbfcneeiiialaaGreatDoorFixE
import Derived.Test.YtdbfcneeiiialaaGreatDoorFxC
import Derived.Test.YtdbfcneeiiialaaGreatDoorP32
import Derived.Test.YtdbfcneeiiialaaGreatDoorPlainR
import Derived.Test.YtdbfcneeiiialaaGreatDoorReady
namespace Go.Proofs.YtdbfcneeiiialaaGreatDoor
open Go.RowKit Go.Shelf Go.Lib Go.Sort
set_option linter.unusedVariables false

structure K32 (w : World) (X : World → Prop) (wx : World) : Prop where
  x : X wx
  kp : ∀ a b, X a → Below a.heap.size a b → X b
  bel : Below w.heap.size w wx
section
variable {w wx w' : World} {X Y : World → Prop}
theorem K32.below (h : K32 w X wx) (B : Below wx.heap.size wx w') : K32 w X w' := ⟨h.kp _ _ h.x B, h.kp, below_next h.bel B⟩
theorem K32.add (h : K32 w X wx) (hy : Y wx) (hk : ∀ a b, Y a → Below a.heap.size a b → Y b) : K32 w (fun v => X v ∧ Y v) wx := ⟨⟨h.x, hy⟩, fun a b q B => ⟨h.kp a b q.1 B, hk a b q.2 B⟩, h.bel⟩
theorem K32.drewN (h : K32 w X wx) (n : Nat) : K32 w X (wx.drewN n) := h.below (below_drewN (Below.refl _ _) n)
end
theorem lap32 {w : World} {z : Nat} (h : w.heap[z]? = some (.cells #[.int .i64 2, .int .i64 3000, .bool false] 56 (0, 0))) : RLp w (some ⟨z, 0, none⟩) 1 [⟨2, 3000, false⟩] := by
  refine ⟨rfl, by omega, fun _ => ⟨z, 0, _, _, rfl, h, fun k x hx i u hu => ?_⟩⟩
  match k, hx with
  | 0, hx =>
    cases hx
    match i, hu with
    | 0, hu => exact hu
    | 1, hu => exact hu
    | 2, hu => exact hu
theorem sht32 {w : World} {z z2 : Nat} (h : w.heap[z]? = some (.cells #[.int .i64 2, .int .i64 3000, .bool false] 56 (0, 0))) (h2 : w.heap[z2]? = some (.cells #[.int .i64 1, .slice (some ⟨z, 0, none⟩) 1 1, .int .i64 6100, .int .i64 1] 61 (0, 0))) : RSh w (some ⟨z2, 0, none⟩) 1 [⟨1, some ⟨z, 0, none⟩, 1, 1, [⟨2, 3000, false⟩], 6100, 1⟩] := by
  refine ⟨⟨rfl, by omega, fun _ => ⟨z2, 0, _, _, rfl, h2, fun k x hx i u hu => ?_⟩⟩, fun x hx => ?_⟩
  · match k, hx with
    | 0, hx =>
      cases hx
      match i, hu with
      | 0, hu => exact hu
      | 1, hu => exact hu
      | 2, hu => exact hu
      | 3, hu => exact hu
  · rw [List.mem_singleton.1 hx]; exact lap32 h
theorem fixdL_one (r : Race) (f : List Fx) {s : Shd} (h : s.lane = 1) : ∃ T, fixdL r f 1 [s] = [T] ∧ T.lane = 1 ∧ T.laps.length = s.laps.length := ⟨putsV (actF r.key 1 s.lane f) s, rfl, by rw [putsV_lane, h], putsV_len _ _⟩
/-- sheets that Fixed made are sheets -/
theorem made32 {w : World} {B : Nat} {A : Option Addr} {n c : Nat} {S : List Shc} (ho : w.ownsRow B 61 4 (.slice A n c) n (S.flatMap shE)) (hl : ∀ x ∈ S, w.ownsRow B 56 3 (.slice x.A x.n x.c) x.n (x.laps.flatMap lpE)) (hb : n ≤ 300) (hx : ∀ x ∈ S, x.laps.length ≤ 300) : RSh w A n S ∧ ∀ x ∈ S, x.n ≤ 1000 := by
  have h1 : ∀ x ∈ S, x.laps.length = x.n := fun x h => own_len lpE_len (by decide) (hl x h)
  refine ⟨⟨RN.of_own shE_len ho (own_len shE_len (by decide) ho) (by omega), fun x h => ?_⟩, fun x h => ?_⟩
  · have h2 := h1 x h
    have h3 := hx x h
    exact RN.of_own lpE_len (hl x h) h2 (by omega)
  · have h2 := h1 x h
    have h3 := hx x h
    omega
set_option maxHeartbeats 12800000 in
set_option maxRecDepth 100000 in
theorem fixesCountOnce_walk (a0 : Option Addr) (len0 cap0 : Nat) (z0 : List Int) (w : World) (w0 : IsRow .i64 w a0 len0 cap0 z0) :
    Calls Tryz.prog 4 #[.slice a0 len0 cap0] w fun e w' => e = .returned (.bool true) ∧ Below w.heap.size w w' := by
  have hs := law_start w0
  clear w0
  generalize Zs.mk (z0.take len0) w.heap.size = zs at *
  have hB0 := below_new w (.cells #[.slice a0 len0 cap0, .int .i64 0] 25)
  go_enter Tryz.func4, Tryz.ntmps4
  go_wp2_with fail
  refine (plainRace_c w.heap.size zs 0 _ hs (by omega)).mono ?_; rintro e w1 ⟨rfl, s1, g1⟩
  rw [plainRace_2] at s1
  have hok := plainRace_ok zs 0
  generalize (plainRace zs 0).1 = r at *
  have hB1 := hB0.trans (grown_below g1 (Nat.le_refl _) hB0.size)
  clear hs g1 hB0
  obtain ⟨key, metres, stroke, course, legs, sex, young, old⟩ := r
  dsimp only [Race.val, Race.cells] at *
  go_wp2_with fail
  refine (fixes_c w.heap.size zs _ _ s1 (by omega)).mono ?_; rintro e w2 ⟨A, n, c, a, k2, rfl, ra, hn, s2, hk2, g2⟩
  have hB2 := hB1.trans (grown_below g2 (Nat.le_refl _) hB1.size)
  clear s1 g2 hB1
  go_wp2_with fail
  refine (fixes_c w.heap.size zs _ _ s2 (by omega)).mono ?_; rintro e w3 ⟨B, m, d, b, k3, rfl, rb, hm, s3, hk3, g3⟩
  have hB3 := hB2.trans (grown_below g3 (Nat.le_refl _) hB2.size)
  have ra3 : RFx w3 A n a := ra.keep (T := 25) (by decide) (s2.keep g3)
  have hal := Lib.hid ra3.len
  have hbl := Lib.hid rb.len
  clear s2 hk2 hk3
  have hrb : (w3.alloc (.cells #[.string key, .int .i64 metres, .int .i64 stroke, .int .i64 course, .int .i64 legs, .int .i64 sex, .int .i64 young, .int .i64 old] 51)).heap[w3.heap.size]? = _ := heap_alloc_new w3 _
  have K : K32 w (fun v => (RFx v A n a ∧ RFx v B m b) ∧ v.heap[w3.heap.size]? = some (.cells #[.string key, .int .i64 metres, .int .i64 stroke, .int .i64 course, .int .i64 legs, .int .i64 sex, .int .i64 young, .int .i64 old] 51 (0, 0))) (w3.alloc (.cells #[.string key, .int .i64 metres, .int .i64 stroke, .int .i64 course, .int .i64 legs, .int .i64 sex, .int .i64 young, .int .i64 old] 51)) := ⟨⟨⟨ra3.below (below_new w3 _), rb.below (below_new w3 _)⟩, hrb⟩, fun a b q B => ⟨⟨q.1.1.below B, q.1.2.below B⟩, blk_below q.2 B⟩, below_next hB3 (below_new w3 _)⟩
  clear g3 s3 ra ra3 rb hB2 hB3 hrb
  have hF1 := Lib.hid (fun W h => fixesFault_c A n c a W h)
  have hF2 := Lib.hid (fun W h => fixesFault_c B m d b W h)
  go_wp2_with fail
  have e4 : (w3.alloc (.cells #[.string key, .int .i64 metres, .int .i64 stroke, .int .i64 course, .int .i64 legs, .int .i64 sex, .int .i64 young, .int .i64 old] 51)).heap.size = w3.heap.size + 1 := by simp
  generalize w3.alloc (.cells #[.string key, .int .i64 metres, .int .i64 stroke, .int .i64 course, .int .i64 legs, .int .i64 sex, .int .i64 young, .int .i64 old] 51) = w4 at *
  have hl4 := heap_alloc_new w4 (.cells #[.int .i64 2, .int .i64 3000, .bool false] 56)
  have e5 : (w4.alloc (.cells #[.int .i64 2, .int .i64 3000, .bool false] 56)).heap.size = w3.heap.size + 1 + 1 := by rw [← e4]; simp
  replace K := K.below (below_new w4 (.cells #[.int .i64 2, .int .i64 3000, .bool false] 56))
  rw [e4] at hl4
  generalize w4.alloc (.cells #[.int .i64 2, .int .i64 3000, .bool false] 56) = w5 at *
  have hl5 := heap_alloc_new w5 (.cells #[.int .i64 1, .slice (some ⟨w3.heap.size + 1, 0, none⟩) 1 1, .int .i64 6100, .int .i64 1] 61)
  rw [e5] at hl5
  have hS := sht32 (blk_alloc hl4 (.cells #[.int .i64 1, .slice (some ⟨w3.heap.size + 1, 0, none⟩) 1 1, .int .i64 6100, .int .i64 1] 61)) hl5
  replace K := (K.below (below_new w5 (.cells #[.int .i64 1, .slice (some ⟨w3.heap.size + 1, 0, none⟩) 1 1, .int .i64 6100, .int .i64 1] 61))).add (Y := fun v => RSh v (some ⟨w3.heap.size + 1 + 1, 0, none⟩) 1 [⟨1, some ⟨w3.heap.size + 1, 0, none⟩, 1, 1, [⟨2, 3000, false⟩], 6100, 1⟩]) hS (fun _ _ h B => h.below B)
  clear hl4 hl5 hS e4 e5
  generalize w5.alloc (.cells #[.int .i64 1, .slice (some ⟨w3.heap.size + 1, 0, none⟩) 1 1, .int .i64 6100, .int .i64 1] 61) = w6 at *
  generalize w3.heap.size + 1 + 1 = zsh at *
  generalize w3.heap.size + 1 = zlp at *
  generalize w3.heap.size = zr at *
  by_cases h1 : fxErr a = 0
  rotate_left
  · have hd : (fxErr a != 0) = true := by simpa using h1
    refine (hF1.out _ K.x.1.1.1).mono ?_; rintro e w7 ⟨rfl, B7⟩
    replace K := K.below B7
    generalize fxErr a = E at *
    clear h1 hF1 hF2 B7
    go_wp2_with fail
    refine (ready_c _).mono ?_; rintro e wM ⟨rfl, BM⟩
    have hB := (K.below BM).bel
    go_wp2
    go_ret
    exact ⟨rfl, hB⟩
  rw [h1] at hF1
  refine (hF1.out _ K.x.1.1.1).mono ?_; rintro e w7 ⟨rfl, B7⟩
  replace K := K.below B7
  have h1' := Lib.hid h1
  clear B7 hF1 h1
  go_wp2_with fail
  by_cases h2 : fxErr b = 0
  rotate_left
  · have hd : (fxErr b != 0) = true := by simpa using h2
    refine (hF2.out _ K.x.1.1.2).mono ?_; rintro e w8 ⟨rfl, B8⟩
    replace K := K.below B8
    generalize fxErr b = E at *
    clear h2 hF2 B8
    go_wp2_with fail
    refine (ready_c _).mono ?_; rintro e wM ⟨rfl, BM⟩
    have hB := (K.below BM).bel
    go_wp2
    go_ret
    exact ⟨rfl, hB⟩
  rw [h2] at hF2
  refine (hF2.out _ K.x.1.1.2).mono ?_; rintro e w8 ⟨rfl, B8⟩
  replace K := K.below B8
  have h2' := Lib.hid h2
  clear B8 hF2 h2
  have hM1 := Lib.hid (fun W h => mergeX_c A A n c n c a a W h h (by omega) (by omega))
  have hMS := Lib.hid (fun E o h => mg_self h1'.out (E := E) (o := o) h)
  have hMY := Lib.hid (fun E1 E2 o1 o2 g1 g2 => mg_symm h1'.out h2'.out (by rw [hal.out]; omega) (by rw [hbl.out]; omega) (E1 := E1) (E2 := E2) (o1 := o1) (o2 := o2) g1 g2)
  have hM2 := Lib.hid (fun W h g => mergeX_c A B n c m d a b W h g (by omega) (by omega))
  have hM3 := Lib.hid (fun W h g => mergeX_c B A m d n c b a W h g (by omega) (by omega))
  have hF2 := Lib.hid (fun (A2 : Option Addr) (n2 c2 : Nat) (S : List Shc) (T : Shd) (hT : S.map Shc.dat = [T]) (hl : T.lane = 1) W h g hx => show Calls Tryz.prog 30 #[Race.val ⟨key, metres, stroke, course, legs, sex, young, old⟩, .slice A n c, .int .i64 1, .slice A2 n2 c2] W (RetFd W 0 (fixdL ⟨key, metres, stroke, course, legs, sex, young, old⟩ a 1 [T])) from by
    have h9 := fixed_c ⟨key, metres, stroke, course, legs, sex, young, old⟩ A n c a 1 A2 n2 c2 S W h g hx
    rw [hT, fixd_one hok h1'.out hl] at h9
    exact h9)
  have hFd := Lib.hid (fun W h g => hF2.out (some ⟨zsh, 0, none⟩) 1 1 [⟨1, some ⟨zlp, 0, none⟩, 1, 1, [⟨2, 3000, false⟩], 6100, 1⟩] sht0 rfl rfl W h g (fun x hx => by rw [List.mem_singleton.1 hx]; show 1 ≤ 1000; omega))
  have hTT := Lib.hid (fixdL_two ⟨key, metres, stroke, course, legs, sex, young, old⟩ h1'.out sht0)
  obtain ⟨T, hT, hTl, hTn⟩ := fixdL_one ⟨key, metres, stroke, course, legs, sex, young, old⟩ a (s := sht0) rfl
  rw [hT] at hTT
  have hT' := Lib.hid hT
  have hTl' := Lib.hid hTl
  have hTn' := Lib.hid (show T.laps.length = 1 from hTn)
  clear hT hTl hTn hok
  go_wp2_with fail
  unfold RetMx at hM1 hM2 hM3
  refine (hM1.out _ K.x.1.1.1).mono ?_; rintro e w9 ⟨A9, n9, c9, o9, E9, rfl, ro9, hm9, _, B9⟩
  obtain ⟨rfl, rfl⟩ := hMS.out _ _ hm9
  replace K := (K.below B9).add (Y := fun v => RFx v A9 n9 o9) ro9 (fun _ _ h B => h.below B)
  clear B9 hM1 hMS ro9 hm9
  go_wp2_with fail
  refine (equalFx_c A9 A n9 c9 n c o9 o9 _ K.x.2 K.x.1.1.1.1).mono ?_; rintro e w10 ⟨rfl, q10, rfl⟩
  replace K := K.drewN q10
  have hdd : decide (o9 = o9) = true := decide_eq_true rfl
  obtain ⟨y0, y1, y2, y3, y4, y5, y6, y7⟩ : (w9.drewN q10).cell? ⟨zr, 0, none⟩ = some (.string key) ∧ (w9.drewN q10).cell? ⟨zr, 1, none⟩ = some (.int .i64 metres) ∧ (w9.drewN q10).cell? ⟨zr, 2, none⟩ = some (.int .i64 stroke) ∧ (w9.drewN q10).cell? ⟨zr, 3, none⟩ = some (.int .i64 course) ∧ (w9.drewN q10).cell? ⟨zr, 4, none⟩ = some (.int .i64 legs) ∧ (w9.drewN q10).cell? ⟨zr, 5, none⟩ = some (.int .i64 sex) ∧ (w9.drewN q10).cell? ⟨zr, 6, none⟩ = some (.int .i64 young) ∧ (w9.drewN q10).cell? ⟨zr, 7, none⟩ = some (.int .i64 old) := ⟨(blk_facts K.x.1.1.2).1 0, (blk_facts K.x.1.1.2).1 1, (blk_facts K.x.1.1.2).1 2, (blk_facts K.x.1.1.2).1 3, (blk_facts K.x.1.1.2).1 4, (blk_facts K.x.1.1.2).1 5, (blk_facts K.x.1.1.2).1 6, (blk_facts K.x.1.1.2).1 7⟩
  generalize w9.drewN q10 = w10 at *
  dsimp only [Race.val, Race.cells] at hF2 hFd
  unfold RetFd at hF2 hFd
  go_wp2_with fail
  refine (hFd.out _ K.x.1.1.1.1 K.x.1.2).mono ?_; rintro e w11 ⟨A11, n11, c11, S11, rfl, _, hd11, ho11, hl11, B11⟩
  have hd11 := (hd11 trivial).trans hT'.out
  have hn11 : n11 = 1 := by rw [← own_len shE_len (by decide) ho11]; have := congrArg List.length hd11; simpa using this
  subst hn11
  obtain ⟨rs11, hx11⟩ := made32 ho11 hl11 (by omega) (fun x hx => by
    have h1 : x.dat ∈ S11.map Shc.dat := List.mem_map.2 ⟨x, hx, rfl⟩
    rw [hd11] at h1
    have h2 := List.mem_singleton.1 h1
    have h3 := hTn'.out
    rw [← h2] at h3
    show x.dat.laps.length ≤ 300
    omega)
  have hx11' := Lib.hid hx11
  have hd11' := Lib.hid hd11
  replace K := (K.below B11).add (Y := fun v => RSh v A11 1 S11) rs11 (fun _ _ h B => h.below B)
  clear B11 hFd rs11 ho11 hl11 y0 y1 y2 y3 y4 y5 y6 y7 hx11 hd11
  obtain ⟨y0, y1, y2, y3, y4, y5, y6, y7⟩ : w11.cell? ⟨zr, 0, none⟩ = some (.string key) ∧ w11.cell? ⟨zr, 1, none⟩ = some (.int .i64 metres) ∧ w11.cell? ⟨zr, 2, none⟩ = some (.int .i64 stroke) ∧ w11.cell? ⟨zr, 3, none⟩ = some (.int .i64 course) ∧ w11.cell? ⟨zr, 4, none⟩ = some (.int .i64 legs) ∧ w11.cell? ⟨zr, 5, none⟩ = some (.int .i64 sex) ∧ w11.cell? ⟨zr, 6, none⟩ = some (.int .i64 young) ∧ w11.cell? ⟨zr, 7, none⟩ = some (.int .i64 old) := ⟨(blk_facts K.x.1.1.1.2).1 0, (blk_facts K.x.1.1.1.2).1 1, (blk_facts K.x.1.1.1.2).1 2, (blk_facts K.x.1.1.1.2).1 3, (blk_facts K.x.1.1.1.2).1 4, (blk_facts K.x.1.1.1.2).1 5, (blk_facts K.x.1.1.1.2).1 6, (blk_facts K.x.1.1.1.2).1 7⟩
  go_wp2_with fail
  refine (hF2.out A11 1 c11 S11 T hd11'.out hTl'.out _ K.x.1.1.1.1.1 K.x.2 hx11'.out).mono ?_; rintro e w12 ⟨A12, n12, c12, S12, rfl, _, hd12, ho12, hl12, B12⟩
  have hd12 := (hd12 trivial).trans hTT.out
  have hn12 : n12 = 1 := by rw [← own_len shE_len (by decide) ho12]; have := congrArg List.length hd12; simpa using this
  subst hn12
  obtain ⟨rs12, _⟩ := made32 ho12 hl12 (by omega) (fun x hx => by
    have h1 : x.dat ∈ S12.map Shc.dat := List.mem_map.2 ⟨x, hx, rfl⟩
    rw [hd12] at h1
    have h2 := List.mem_singleton.1 h1
    have h3 := hTn'.out
    rw [← h2] at h3
    show x.dat.laps.length ≤ 300
    omega)
  have hEq := Lib.hid (fun W h g => equalSh_c A11 A12 1 c11 1 c12 S11 S12 W h g)
  rw [show decide (S11.map Shc.dat = S12.map Shc.dat) = true from decide_eq_true (by rw [hd11'.out, hd12])] at hEq
  replace K := (K.below B12).add (Y := fun v => RSh v A12 1 S12) rs12 (fun _ _ h B => h.below B)
  clear B12 hF2 rs12 ho12 hl12 y0 y1 y2 y3 y4 y5 y6 y7 hd12
  go_wp2_with fail
  refine (hEq.out _ K.x.1.2 K.x.2).mono ?_; rintro e w13 ⟨rfl, B13⟩
  replace K := K.below B13
  clear B13 hEq
  go_wp2_with fail
  refine (hM2.out _ K.x.1.1.1.1.1.1 K.x.1.1.1.1.1.2).mono ?_; rintro e w14 ⟨A14, n14, c14, o14, E14, rfl, ro14, hm14, _, B14⟩
  replace K := (K.below B14).add (Y := fun v => RFx v A14 n14 o14) ro14 (fun _ _ h B => h.below B)
  clear B14 hM2 ro14
  go_wp2_with fail
  refine (hM3.out _ K.x.1.1.1.1.1.1.2 K.x.1.1.1.1.1.1.1).mono ?_; rintro e w15 ⟨A15, n15, c15, o15, E15, rfl, ro15, hm15, _, B15⟩
  replace K := (K.below B15).add (Y := fun v => RFx v A15 n15 o15) ro15 (fun _ _ h B => h.below B)
  obtain ⟨rfl, rfl⟩ := hMY.out _ _ _ _ hm14 hm15
  clear B15 hM3 ro15 hm14 hm15 hMY
  have b9 : (E14 == E14) = true := beq_self_eq_true _
  go_wp2_with fail
  refine (equalFx_c A14 A15 n14 c14 n15 c15 o14 o14 _ K.x.1.2 K.x.2).mono ?_; rintro e w16 ⟨rfl, q16, rfl⟩
  replace K := K.drewN q16
  have hdd : decide (o14 = o14) = true := decide_eq_true rfl
  go_wp2_with fail
  refine (ready_c _).mono ?_; rintro e wM ⟨rfl, BM⟩
  have hB := (K.below BM).bel
  go_wp2
  go_ret
  exact ⟨rfl, hB⟩
end Go.Proofs.YtdbfcneeiiialaaGreatDoor
