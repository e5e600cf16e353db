/- RacesStay: fields and splits that are handed in stay; what is made of them is new memory: the walk. -/
import Derived.Test.YtdbfcneeiiialaaDoorP22
import Derived.Test.YtdbfcneeiiialaaDoorReady
import Derived.Deep.RegionHeld3
namespace Go.Proofs.YtdbfcneeiiialaaDoor
open Go.RowKit
set_option linter.unusedVariables false

structure K22 (w : World) (X : World → Prop) (wx : World) : Prop where
  x : X wx
  kp : ∀ a b, X a → Below a.heap.size a b → X b
  bel : Below w.heap.size w wx
section
variable {w wx w' : World} {X Y : World → Prop}
theorem K22.below (h : K22 w X wx) (B : Below wx.heap.size wx w') : K22 w X w' := ⟨h.kp _ _ h.x B, h.kp, below_next h.bel B⟩
theorem K22.drew (h : K22 w X wx) : K22 w X wx.drew := h.below (below_drewN (Below.refl _ _) 1)
theorem K22.drewN (h : K22 w X wx) (n : Nat) : K22 w X (wx.drewN n) := h.below (below_drewN (Below.refl _ _) n)
end
theorem own_cap22 {w : World} {base : Nat} {e : TypeId} {size n c : Nat} {A : Option Addr} {xs : List Value} (h : w.ownsRow base e size (.slice A n c) n xs) (hp : 0 < n) : ∃ g, A = some ⟨g, 0, none⟩ := by
  rcases h.2 with ⟨h1, h2⟩ | ⟨g, cap, cur, h1, _⟩
  · injection h1 with _ h3 _
    omega
  · injection h1 with h1 _ _
    exact ⟨g, h1⟩
theorem RSw.keep22 {T : TypeId} {w w' : World} {A : Option Addr} {n : Nat} {l : List Sw} (h : RSw w A n l) (h1 : 43 ≠ T) (h2 : 3 ≠ T) (hk : Keep T w w') : RSw w' A n l := ⟨h.1.keep h1 hk, fun x hx => (h.2 x hx).keep h2 hk⟩
/-- a row of numbers that is spoilt: only the row itself -/
structure Sp22 (w : World) (base : Nat) (A : Option Addr) (n c : Nat) (wr : World) : Prop where
  own : ∃ xs : List Value, xs.length = n ∧ wr.ownsRow base 3 1 (.slice A n c) n xs
  bel : Below base w wr
set_option maxHeartbeats 12800000 in
set_option maxRecDepth 100000 in
theorem racesStay_walk (a0 : Option Addr) (len0 cap0 : Nat) (z0 : List Int) (w : World) (w0 : IsRow .i64 w a0 len0 cap0 z0) :
    Calls Tryd.prog 3 #[.slice a0 len0 cap0] w fun e w' => e = .returned (.bool true) ∧ Below w.heap.size w w' := by
  have hs2 := law_start2 w0
  clear w0
  generalize Zs.mk (z0.take len0) w.heap.size = zs at *
  obtain ⟨sA, sB⟩ := hs2
  have hL := sA.lim_le
  have hB0 : Below w.heap.size w ((w.alloc (.cells #[.slice a0 len0 cap0, .int .i64 0] 25)).alloc (.cells #[.slice a0 len0 cap0, .int .i64 0] 25)) := below_next (below_new w _) (below_new _ _)
  go_enter Tryd.func3, Tryd.ntmps3
  go_wp2_with fail
  generalize (w.alloc (.cells #[.slice a0 len0 cap0, .int .i64 0] 25)).alloc (.cells #[.slice a0 len0 cap0, .int .i64 0] 25) = w1 at *
  refine (plainRace_c _ zs 0 _ sA (by omega)).mono ?_; rintro e w2 ⟨rfl, a2, g2⟩
  rw [plainRace_2] at a2
  have b2 := sB.other g2 hL (by omega)
  have hB2 := hB0.trans (grown_below g2 (Nat.le_refl _) hB0.size)
  have hok := plainRace_ok zs 0
  have hPR := Lib.hid (fun (W : World) (g : Nat) (h : St W g zs 0) => (plainRace_c g zs 0 W h (by omega)).mono fun (e : Ending) (w' : World) ⟨h1, h2, h3⟩ => show ∃ v, e = Ending.returned v ∧ St w' g zs (0 + 9) ∧ W.grownBy w' (some g) from ⟨_, h1, by rw [plainRace_2] at h2; exact h2, h3⟩)
  have hRfE := Lib.hid (fun (l : List Sw) (h : RightF zs (plainRace zs 0).1 l) => right_field h)
  have hwh := Lib.hid (fun k' => ks_whole zs 0 k')
  generalize (plainRace zs 0).1 = r at *
  have hRf := Lib.hid (fun (W : World) (g : Nat) (h : St W g zs (0 + 9)) => rightFieldV_c g zs (0 + 9) r W h (by omega) hok)
  have hKs := Lib.hid (fun k' (W : World) (g : Nat) (h : St W g zs k') (hk : k' + 500 ≤ 1099511627776) => knownSplits_c g zs k' r W h hk hok)
  have hLk := Lib.hid (fun k' => like22 r (knownSplits zs k' r) (hwh.out k'))
  have hLd := Lib.hid (fun A n c l W h h0 => leadsO_c r A n c l W h h0)
  have hVV := Lib.hid (fun (l1 l2 : List Sw) (k1 k2 : Nat) (h1 : RfV zs r (0 + 9) l1 k1) (h2 : RfV zs r (0 + 9) l2 k2) => show l1.map swD = l2.map swD ∧ k1 = k2 from by unfold RfV at h1 h2; rw [h1] at h2; exact ⟨congrArg Prod.fst h2, congrArg Prod.snd h2⟩)
  generalize RfV zs r = RV at *
  generalize RightF zs r = RF at *
  generalize fieldErr r = FE at *
  generalize (lenV r).toNat = LV at *
  obtain ⟨KS, hKSe⟩ : ∃ KS : Nat → List Int, ∀ k', knownSplits zs k' r = KS k' := ⟨fun k' => knownSplits zs k' r, fun _ => rfl⟩
  simp only [hKSe] at hKs hLk
  clear sA sB g2 hB0 hok hwh hKSe
  obtain ⟨key, metres, stroke, course, legs, sex, young, old⟩ := r
  dsimp only [Race.val, Race.cells] at *
  have hb2 := heap_alloc_new w2 (.cells #[.string key, .int .i64 metres, .int .i64 stroke, .int .i64 course, .int .i64 legs, .int .i64 sex, .int .i64 young, .int .i64 old] 27)
  have a2' := a2.alloc (.cells #[.string key, .int .i64 metres, .int .i64 stroke, .int .i64 course, .int .i64 legs, .int .i64 sex, .int .i64 young, .int .i64 old] 27)
  have b2' := b2.alloc (.cells #[.string key, .int .i64 metres, .int .i64 stroke, .int .i64 course, .int .i64 legs, .int .i64 sex, .int .i64 young, .int .i64 old] 27)
  have hB2' := hB2.alloc hB2.size (.cells #[.string key, .int .i64 metres, .int .i64 stroke, .int .i64 course, .int .i64 legs, .int .i64 sex, .int .i64 young, .int .i64 old] 27)
  have hlt4 : w.heap.size + 1 < w2.heap.size := b2.lt
  clear a2 b2 hB2
  go_wp2_with fail
  refine (hPR.out _ _ b2').mono ?_; rintro e w3 ⟨v, rfl, b3, g3⟩
  have a3 := a2'.other g3 (by omega) (by omega)
  have hb3 := blk_stream hb2 b2' g3 (by decide)
  have hB3 := hB2'.trans (grown_below g3 (by omega) hB2'.size)
  clear a2' b2' hb2 hB2' g3 hPR
  generalize w2.heap.size = b4 at *
  go_wp2_with fail
  have a3d := a3.drew
  have b3d := b3.drew
  have hb3d : w3.drew.heap[b4]? = _ := hb3
  have hB3d := below_drewN hB3 1
  have z0 := (blk_facts hb3d).1 0
  have z1 := (blk_facts hb3d).1 1
  have z2 := (blk_facts hb3d).1 2
  have z3 := (blk_facts hb3d).1 3
  have z4 := (blk_facts hb3d).1 4
  have z5 := (blk_facts hb3d).1 5
  have z6 := (blk_facts hb3d).1 6
  have z7 := (blk_facts hb3d).1 7
  go_region_held3 (fun w' => w'.cell? ⟨b4, 0, none⟩ = some (.string key) ∧ w'.cell? ⟨b4, 1, none⟩ = some (.int .i64 metres) ∧ w'.cell? ⟨b4, 2, none⟩ = some (.int .i64 stroke) ∧ w'.cell? ⟨b4, 3, none⟩ = some (.int .i64 course) ∧ w'.cell? ⟨b4, 4, none⟩ = some (.int .i64 legs) ∧ w'.cell? ⟨b4, 5, none⟩ = some (.int .i64 sex) ∧ w'.cell? ⟨b4, 6, none⟩ = some (.int .i64 young) ∧ w'.cell? ⟨b4, 7, none⟩ = some (.int .i64 old)) (first | go_keep | with_reducible exact ⟨z0, z1, z2, z3, z4, z5, z6, z7⟩ | with_reducible exact ⟨y0, y1, y2, y3, y4, y5, y6, y7⟩ | with_reducible exact ⟨p0, p1, p2, p3, p4, p5, p6, p7⟩)
    (first
      | (go_at_call 5; with_reducible refine (hRf.out _ _ a3d).mono ?_; rintro e w5 ⟨A1, n1, c1, l1, k1, rfl, ho1, hl1, hn1, hr1, hF1, a5, hk1, g5, hV1⟩; have b5 := b3d.other g5 (by omega) (by omega); have hb5 := blk_stream hb3d a3d g5 (by decide); have y0 := (blk_facts hb5).1 0; have y1 := (blk_facts hb5).1 1; have y2 := (blk_facts hb5).1 2; have y3 := (blk_facts hb5).1 3; have y4 := (blk_facts hb5).1 4; have y5 := (blk_facts hb5).1 5; have y6 := (blk_facts hb5).1 6; have y7 := (blk_facts hb5).1 7)
      | (go_at_call 5; with_reducible refine (hRf.out _ _ b5).mono ?_; rintro e w6 ⟨A2, n2, c2, l2, k2, rfl, ho2, hl2, hn2, hr2, hF2, b6, hk2, g6, hV2⟩; have a6 := a5.other g6 (by omega) (by omega); have hb6 := blk_stream hb5 b5 g6 (by decide); have p0 := (blk_facts hb6).1 0; have p1 := (blk_facts hb6).1 1; have p2 := (blk_facts hb6).1 2; have p3 := (blk_facts hb6).1 3; have p4 := (blk_facts hb6).1 4; have p5 := (blk_facts hb6).1 5; have p6 := (blk_facts hb6).1 6; have p7 := (blk_facts hb6).1 7))
  obtain ⟨hll, rfl⟩ := hVV.out _ _ _ _ hV1 hV2
  have rs1 := (RSw.of_own ho1 hl1 (by omega) hr1).keep22 (T := 25) (by decide) (by decide) (b5.keep g6)
  have rs2 := RSw.of_own ho2 hl2 (by omega) hr2
  have hB5 := hB3d.trans (grown_below g5 (Nat.le_refl _) hB3d.size)
  have hB6 := hB5.trans (grown_below g6 (by omega) hB5.size)
  have hFE1 := hRfE.out _ hF1
  have hll' := Lib.hid hll
  clear z0 z1 z2 z3 z4 z5 z6 z7 y0 y1 y2 y3 y4 y5 y6 y7 p0 p1 p2 p3 p4 p5 p6 p7
  clear hV1 hV2 hVV hRf hRfE ho1 ho2 hl1 hl2 hr1 hr2 hF1 hF2 a3 b3 a3d b3d hb3 hb3d hB3 hB3d a5 b5 hb5 g5 g6 hB5 hll
  go_wp2_with fail
  have a6d := a6.drew
  have b6d := b6.drew
  have hb6d : w6.drew.heap[b4]? = _ := hb6
  have hB6d := below_drewN hB6 1
  have z0 := (blk_facts hb6d).1 0
  have z1 := (blk_facts hb6d).1 1
  have z2 := (blk_facts hb6d).1 2
  have z3 := (blk_facts hb6d).1 3
  have z4 := (blk_facts hb6d).1 4
  have z5 := (blk_facts hb6d).1 5
  have z6 := (blk_facts hb6d).1 6
  have z7 := (blk_facts hb6d).1 7
  go_region_held3 (fun w' => w'.cell? ⟨b4, 0, none⟩ = some (.string key) ∧ w'.cell? ⟨b4, 1, none⟩ = some (.int .i64 metres) ∧ w'.cell? ⟨b4, 2, none⟩ = some (.int .i64 stroke) ∧ w'.cell? ⟨b4, 3, none⟩ = some (.int .i64 course) ∧ w'.cell? ⟨b4, 4, none⟩ = some (.int .i64 legs) ∧ w'.cell? ⟨b4, 5, none⟩ = some (.int .i64 sex) ∧ w'.cell? ⟨b4, 6, none⟩ = some (.int .i64 young) ∧ w'.cell? ⟨b4, 7, none⟩ = some (.int .i64 old)) (first | go_keep | with_reducible exact ⟨z0, z1, z2, z3, z4, z5, z6, z7⟩ | with_reducible exact ⟨y0, y1, y2, y3, y4, y5, y6, y7⟩ | with_reducible exact ⟨p0, p1, p2, p3, p4, p5, p6, p7⟩)
    (first
      | (go_at_call 6; with_reducible refine (hKs.out k1 _ _ a6d (by omega)).mono ?_; rintro e w7 ⟨A3, n3, c3, rfl, ho3, a7, g7⟩; have b7 := b6d.other g7 (by omega) (by omega); have hb7 := blk_stream hb6d a6d g7 (by decide); have y0 := (blk_facts hb7).1 0; have y1 := (blk_facts hb7).1 1; have y2 := (blk_facts hb7).1 2; have y3 := (blk_facts hb7).1 3; have y4 := (blk_facts hb7).1 4; have y5 := (blk_facts hb7).1 5; have y6 := (blk_facts hb7).1 6; have y7 := (blk_facts hb7).1 7)
      | (go_at_call 6; with_reducible refine (hKs.out k1 _ _ b7 (by omega)).mono ?_; rintro e w8 ⟨A4, n4, c4, rfl, ho4, b8, g8⟩; have hb8 := blk_stream hb7 b7 g8 (by decide); have p0 := (blk_facts hb8).1 0; have p1 := (blk_facts hb8).1 1; have p2 := (blk_facts hb8).1 2; have p3 := (blk_facts hb8).1 3; have p4 := (blk_facts hb8).1 4; have p5 := (blk_facts hb8).1 5; have p6 := (blk_facts hb8).1 6; have p7 := (blk_facts hb8).1 7))
  have hl3 : (KS k1).length = n3 := by have := ho3.1; rw [ints_len] at this; omega
  have hl4 : n4 = n3 := by have := ho4.1; rw [ints_len] at this; omega
  subst hl4
  obtain ⟨T, hT, hLb, hLc⟩ := hLk.out k1
  rw [hl3] at hT hLb
  have hLc' := Lib.hid hLc
  have k7 : Keep 25 w6.drew w7 := a6d.keep g7
  have k8 : Keep 25 w7 w8 := b7.keep g8
  have r3 := (R1.of_own ho3 (by omega)).keep (T := 25) (by decide) k8
  have r4 := R1.of_own ho4 (by omega)
  have hB7 := hB6d.trans (grown_below g7 (Nat.le_refl _) hB6d.size)
  have hB8 := hB7.trans (grown_below g8 (by omega) hB7.size)
  have rs1d : RSw w6.drew A1 n1 l1 := rs1.below (below_drewN (Below.refl _ _) 1)
  have rs2d : RSw w6.drew A2 n2 l2 := rs2.below (below_drewN (Below.refl _ _) 1)
  have K : K22 w (fun v => (((RSw v A1 n1 l1 ∧ RSw v A2 n2 l2) ∧ RI 3 v A3 n4 (KS k1)) ∧ RI 3 v A4 n4 (KS k1)) ∧ v.heap[b4]? = some (.cells #[.string key, .int .i64 metres, .int .i64 stroke, .int .i64 course, .int .i64 legs, .int .i64 sex, .int .i64 young, .int .i64 old] 27 (0, 0))) w8 := ⟨⟨⟨⟨⟨(rs1d.keep22 (T := 25) (by decide) (by decide) k7).keep22 (T := 25) (by decide) (by decide) k8, (rs2d.keep22 (T := 25) (by decide) (by decide) k7).keep22 (T := 25) (by decide) (by decide) k8⟩, r3⟩, r4⟩, hb8⟩, fun a b q B => ⟨⟨⟨⟨q.1.1.1.1.below B, q.1.1.1.2.below B⟩, q.1.1.2.below B⟩, q.1.2.below B⟩, blk_below q.2 B⟩, hB8⟩
  clear z0 z1 z2 z3 z4 z5 z6 z7 y0 y1 y2 y3 y4 y5 y6 y7 p0 p1 p2 p3 p4 p5 p6 p7
  clear hKs hLk ho3 ho4 a6 b6 a6d b6d hb6 hb6d hB6 hB6d a7 b7 hb7 b8 hb8 g7 g8 hB7 hB8 k7 k8 rs1d rs2d rs1 rs2 r3 r4 hLc hl3
  generalize KS k1 = L at *
  obtain ⟨bP, oP, x, hA3, hlP, hx, hcP⟩ := K.x.1.1.2.at_ (k := n4 - 1) (by omega)
  obtain rfl : x = T := by rw [hT] at hx; exact (Option.some.inj hx).symm
  have K0 := K.drew
  have hP0 : w8.drew.cell? ⟨bP, oP + (n4 - 1), none⟩ = some (.int .i64 x) := hcP
  have hr3 : RI 3 w8.drew A3 n4 L := K0.x.1.1.2
  have hb8d : w8.drew.heap[b4]? = _ := K0.x.2
  have hB8d : Below w.heap.size w w8.drew := K0.bel
  have z0 := (blk_facts hb8d).1 0
  have z1 := (blk_facts hb8d).1 1
  have z2 := (blk_facts hb8d).1 2
  have z3 := (blk_facts hb8d).1 3
  have z4 := (blk_facts hb8d).1 4
  have z5 := (blk_facts hb8d).1 5
  have z6 := (blk_facts hb8d).1 6
  have z7 := (blk_facts hb8d).1 7
  subst hA3
  have hLik := Lib.hid (hLc'.out _ n4 c3 w8.drew hr3)
  have hK8 := Lib.hid K0
  have hN8 := Lib.hid (fun W (B : Below w8.drew.heap.size w8.drew W) => (K0.below B).x.2)
  have hM8 := Lib.hid (fun W (B : Below w8.drew.heap.size w8.drew W) => (B.cell (p := ⟨bP, oP + (n4 - 1), none⟩) hlP).trans hP0)
  have u1 : IntKind.i64.wrap ((n4 : Int) - 1) = ((n4 - 1 : Nat) : Int) := by rw [IntWalk.i64_in _ (by omega)]; omega
  have u2 : n4 - 1 < n4 := by omega
  clear K K0 hT hx hr3 hLc' hb8d hcP hB8d
  go_wp2_with fail
  go_region_held3 (fun w' => (w'.cell? ⟨b4, 0, none⟩ = some (.string key) ∧ w'.cell? ⟨b4, 1, none⟩ = some (.int .i64 metres) ∧ w'.cell? ⟨b4, 2, none⟩ = some (.int .i64 stroke) ∧ w'.cell? ⟨b4, 3, none⟩ = some (.int .i64 course) ∧ w'.cell? ⟨b4, 4, none⟩ = some (.int .i64 legs) ∧ w'.cell? ⟨b4, 5, none⟩ = some (.int .i64 sex) ∧ w'.cell? ⟨b4, 6, none⟩ = some (.int .i64 young) ∧ w'.cell? ⟨b4, 7, none⟩ = some (.int .i64 old)) ∧ w'.cell? ⟨bP, oP + (n4 - 1), none⟩ = some (.int .i64 x)) (first | go_keep | with_reducible exact ⟨⟨z0, z1, z2, z3, z4, z5, z6, z7⟩, hP0⟩ | with_reducible exact ⟨⟨y0, y1, y2, y3, y4, y5, y6, y7⟩, hP9⟩)
    (first
      | (go_at_call 7; with_reducible refine hLik.out.mono ?_; rintro e w9 ⟨A9, c9, rfl, ho9, hn9, B9⟩; have hb9 := hN8.out _ B9; have y0 := (blk_facts hb9).1 0; have y1 := (blk_facts hb9).1 1; have y2 := (blk_facts hb9).1 2; have y3 := (blk_facts hb9).1 3; have y4 := (blk_facts hb9).1 4; have y5 := (blk_facts hb9).1 5; have y6 := (blk_facts hb9).1 6; have y7 := (blk_facts hb9).1 7; have hP9 := hM8.out _ B9))
  have S : Sp22 w8.drew w8.drew.heap.size A9 n4 c9 w9 := ⟨⟨_, by rw [ints_len]; have := ho9.1; rw [ints_len] at this; omega, ho9⟩, B9⟩
  clear z0 z1 z2 z3 z4 z5 z6 z7 y0 y1 y2 y3 y4 y5 y6 y7
  clear ho9 B9 hb9 hP0 hP9 hLik
  have K := hK8.out
  clear hK8 hN8 hM8
  generalize w8.drew = wB at *
  go_wp2_with fail
  go_loopw [12, 53] (fun _ i wr => ∃ k : Nat, k ≤ n4 ∧ i = .int .i64 k ∧ Sp22 wB wB.heap.size A9 n4 c9 wr) (fun _ i _ => n4 - (intOf i).toNat)
  case atStart => exact ⟨0, Nat.zero_le _, rfl, S⟩
  case round =>
    clear S
    rename World => wr
    obtain ⟨k, hk, rfl, S⟩ := hrel
    by_cases hlt : k < n4
    · obtain ⟨⟨xs, hxs, ho⟩, hB⟩ := S
      obtain ⟨g, rfl⟩ := own_cap22 ho (by omega)
      have c0 := ho.cellAt k (by omega)
      have f0 := ho.frozenAt k
      obtain ⟨v9, hv⟩ := at_of_lt (l := xs) (k := k) (by omega)
      rw [hv] at c0
      have hgb := (ho.lt g rfl).1
      have S2 : Sp22 wB wB.heap.size (some ⟨g, 0, none⟩) n4 c9 (wr.setCell ⟨g, k, none⟩ (.int .i64 777)) := ⟨⟨_, by rw [List.length_set]; exact hxs, (ho.stored k _).1⟩, hB.setCell hgb _⟩
      clear ho hB hgb hv hxs
      go_wp2_with fail
      go_roundw
      case rel => exact ⟨k + 1, by omega, by go_num, S2⟩
      case measure => simp [intOf]; omega
    · obtain rfl : k = n4 := by omega
      replace K := K.below S.bel
      clear S hk hlt
      have hb9 := K.x.2
      have z0 := (blk_facts hb9).1 0
      have z1 := (blk_facts hb9).1 1
      have z2 := (blk_facts hb9).1 2
      have z3 := (blk_facts hb9).1 3
      have z4 := (blk_facts hb9).1 4
      have z5 := (blk_facts hb9).1 5
      have z6 := (blk_facts hb9).1 6
      have z7 := (blk_facts hb9).1 7
      go_wp2_with fail
      refine (hLd.out A1 n1 c1 l1 _ K.x.1.1.1.1 hFE1).mono ?_; rintro e w11 ⟨A11, c11, P, rfl, S⟩
      clear z0 z1 z2 z3 z4 z5 z6 z7
      clear hb9 hLd
      have hPn := S.n
      go_wp2_with fail
      go_loopw [15, 16, 68] (fun _ _ i wy => ∃ j : Nat, j ≤ P.length ∧ i = .int .i64 j ∧ SpL wr wr.heap.size A11 c11 P wy) (fun _ _ i _ => P.length - (intOf i).toNat)
      case atStart => exact ⟨0, Nat.zero_le _, rfl, S⟩
      case round =>
        clear S
        rename World => wy
        obtain ⟨j, hj, rfl, S⟩ := hrel
        by_cases hlj : j < P.length
        · obtain ⟨y, hy⟩ := at_of_lt hlj
          obtain ⟨xs0, hxl0, hxo0, hxn⟩ := S.wh y (List.mem_of_getElem? hy)
          obtain ⟨gP, rfl⟩ := own_cap22 S.o (by omega)
          have hCell := Lib.hid (fun W (S : SpL wr wr.heap.size (some ⟨gP, 0, none⟩) c11 P W) => show W.cell? ⟨gP, j * 3 + 2, none⟩ = some (.slice y.A y.n y.c) from by rw [S.o.cellAt (j * 3 + 2) (by omega)]; exact flat_at phE_len _ _ y 2 _ hy rfl)
          have hWh := Lib.hid (fun W (S : SpL wr wr.heap.size (some ⟨gP, 0, none⟩) c11 P W) => S.wh y (List.mem_of_getElem? hy))
          have q2 := hCell.out _ S
          obtain ⟨yf, yt, yA, yn, yc, yw⟩ := y
          dsimp only at *
          clear hxo0 hxl0 hy
          go_wp2_with fail
          clear q2
          go_loopw [16, 77] (fun _ i wz => ∃ q : Nat, q ≤ yn ∧ i = .int .i64 q ∧ SpL wr wr.heap.size (some ⟨gP, 0, none⟩) c11 P wz) (fun _ i _ => yn - (intOf i).toNat)
          case atStart => exact ⟨0, Nat.zero_le _, rfl, S⟩
          case round =>
            clear S
            rename World => wz
            obtain ⟨q, hq, rfl, S⟩ := hrel
            by_cases hlq : q < yn
            · have q2 := hCell.out _ S
              obtain ⟨ys, hys, hyo, _⟩ := hWh.out _ S
              obtain ⟨gy, rfl⟩ := own_cap22 hyo (by omega)
              have c0 := hyo.cellAt q (by omega)
              have f0 := hyo.frozenAt q
              obtain ⟨v9, hv⟩ := at_of_lt (l := ys) (k := q) (by omega)
              rw [hv] at c0
              have S2 := S.spoil (o := q) hyo (.string ⟨#[115, 112, 111, 105, 108, 116]⟩)
              clear hyo hv hys S
              go_wp2_with fail
              go_roundw
              case rel => exact ⟨q + 1, by omega, by go_num, S2⟩
              case measure => simp [intOf]; omega
            · obtain rfl : q = yn := by omega
              go_wp2
              go_roundw
              case rel => exact ⟨j + 1, by omega, by go_num, S⟩
              case measure => simp [intOf]; omega
        · obtain rfl : j = P.length := by omega
          replace K := K.below S.bel
          clear S hj hlj
          go_wp2_with fail
          refine (equalSwF_c A1 A2 n1 c1 n2 c2 l1 l2 _ K.x.1.1.1.1 K.x.1.1.1.2 hll'.out).mono ?_; rintro e w14 ⟨rfl, B14⟩
          replace K := K.below B14
          clear B14
          have hE := Lib.hid (fun W h1 h2 => equal_c (some ⟨bP, oP, none⟩) A4 k c3 k c4 L L W h1 h2)
          go_wp2_with fail
          refine (hE.out _ K.x.1.1.2 K.x.1.2).mono ?_; rintro e w15 ⟨rfl, B15⟩
          replace K := K.below B15
          clear B15 hE
          rw [show eqB L L = true from by unfold eqB; exact beq_self_eq_true _]
          go_wp2_with fail
          refine (ready_c _).mono ?_; rintro e wM ⟨rfl, BM⟩
          have hB := (K.below BM).bel
          go_wp2
          go_ret
          exact ⟨rfl, hB⟩
end Go.Proofs.YtdbfcneeiiialaaDoor
