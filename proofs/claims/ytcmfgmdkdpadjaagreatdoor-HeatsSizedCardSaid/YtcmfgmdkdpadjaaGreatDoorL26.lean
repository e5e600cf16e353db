/- HeatsSized: CheckSeeds, CheckPool, Order, Sizes and Lanes answer as the reference says: the walk. Printed by wip/gen26.py. -/
import Derived.Test.YtcmfgmdkdpadjaaGreatDoorSizeM
import Derived.Test.YtcmfgmdkdpadjaaGreatDoorPoolM
import Derived.Test.YtcmfgmdkdpadjaaGreatDoorSeedM
import Derived.Test.YtcmfgmdkdpadjaaGreatDoorDraws
namespace Go.Proofs.YtcmfgmdkdpadjaaGreatDoor
open Go.RowKit
set_option linter.unusedVariables false

theorem eqS_shelf {e : TypeId} {w : World} {A : Option Addr} {n : Nat} {l : List ByteArray} (h : RS e w A n l) (hp : 0 < n) : ∃ b off, A = some ⟨b, off, none⟩ ∧ ∀ j, j < l.length → w.cell? ⟨b, off + j, none⟩ = some (.string (l.getD j ⟨#[]⟩)) := by
  obtain ⟨b, off, cs, fz, hA, hb, hc⟩ := h.2.2 hp
  refine ⟨b, off, hA, fun j hj => ?_⟩
  have hx : l[j]? = some (l.getD j ⟨#[]⟩) := by rw [List.getD_eq_getElem?_getD, List.getElem?_eq_getElem hj]; rfl
  rw [cell_of_row w b _ cs e fz hb]
  exact hc j _ hx
theorem equalNm_c (A1 A2 : Option Addr) (n c m d : Nat) (l : List ByteArray) (w : World) (h1 : RS 9 w A1 n l) (h2 : RS 9 w A2 m l) :
    Calls Tryz.prog 37 #[.slice A1 n c, .slice A2 m d] w fun e w' => e = .returned (.bool true) ∧ Below w.heap.size w w' := by
  have hl1 := h1.len
  have hb1 := h1.bd
  have hl2 := h2.len
  obtain rfl : n = m := by omega
  rcases Nat.eq_zero_or_pos n with h0 | hp
  · subst h0
    exact (Tryz.slices_Equal_string_empty A1 A2 c 0 d w (by omega)).mono fun _ _ ⟨he, hw⟩ => ⟨he, by rw [hw]; exact Below.refl _ _⟩
  · obtain ⟨b1, o1, rfl, hc1⟩ := eqS_shelf h1 hp
    obtain ⟨b2, o2, rfl, hc2⟩ := eqS_shelf h2 hp
    refine (Tryz.slices_Equal_string b1 o1 n c b2 o2 n d l l w (by omega) (by omega) (by omega) (by omega) hc1 hc2).mono fun _ _ ⟨he, q, hw⟩ => ⟨?_, by rw [hw]; exact below_drewN (Below.refl _ _) q⟩
    rw [he, decide_eq_true rfl]
def X26 (A : Option Addr) (n : Nat) (x : List Sd) (b : Nat) (p : Pl) (v : World) : Prop := RSd v A n x ∧ PoolB b p v
theorem X26.keep {A : Option Addr} {n : Nat} {x : List Sd} {b : Nat} {p : Pl} (a v : World) (h : X26 A n x b p a) (B : Below a.heap.size a v) : X26 A n x b p v := ⟨h.1.below B, PoolB.keep _ _ h.2 B⟩
set_option maxHeartbeats 12800000 in
set_option maxRecDepth 100000 in
theorem heatsSized_walk (a0 : Option Addr) (len0 cap0 : Nat) (z0 : List Int) (w : World) (w0 : IsRow .i64 w a0 len0 cap0 z0) (htab : Tb w) :
    Calls Tryz.prog 4 #[.slice a0 len0 cap0] w fun e w' => e = .returned (.bool true) ∧ Below w.heap.size w w' := by
  have hs := law_start w0
  clear w0
  generalize z0.take len0 = zs at *
  go_enter Tryz.func4, Tryz.ntmps4
  go_wp2_with fail
  have hs' : St (w.alloc (.cells #[.slice a0 len0 cap0, .int .i64 0] 25)) w.heap.size zs 0 := hs
  have hB1 := below_new w (.cells #[.slice a0 len0 cap0, .int .i64 0] 25)
  refine (seeds_c _ zs 0 12 _ w hs' (by omega) (by omega) htab hB1 (Nat.le_refl _)).mono ?_; rintro e w2 ⟨A, n, c, x, k2, rfl, ho, hxl, hn, s2, hk2, g2⟩
  have hB2 := hB1.trans (grown_below g2 (Nat.le_refl _) hB1.size)
  have hx2 : RSd w2 A n x := RN.of_own sdE_len ho hxl (by omega)
  clear hs hs' htab hB1 g2 ho
  go_wp2_with fail
  refine (poolOf_c _ zs k2 _ s2 (by omega)).mono ?_; rintro e w3 ⟨lo, hi, le, ci, k3, rfl, p0, p1, p2, p3, s3, hk3, g3⟩
  have hx3 : RSd w3 A n x := hx2.keep (T := 25) (by decide) (s2.keep g3)
  have hB3 := hB2.trans (grown_below g3 (Nat.le_refl _) hB2.size)
  clear hx2 s2 g3 hB2
  go_wp2_with fail
  refine (pick_c _ zs k3 _ _ _ [0, 1, 5, 9, 17, 30, 300, -1, 301] _ (s3.alloc _) (by omega) (R1.litAt _ _ _ _ (by simp) rfl (le_big (by simp))) (by simp)).mono ?_; rintro e w4 ⟨rfl, s4, g4⟩
  have hx4 : RSd w4 A n x := (hx3.alloc _).keep (T := 25) (by decide) ((s3.alloc _).keep g4)
  have hB4 := (hB3.alloc hB3.size _).trans (grown_below g4 (Nat.le_refl _) (hB3.alloc hB3.size _).size)
  clear hx3 s3 g4 hB3 s4 hk2 hk3
  generalize pickV zs k3 [0, 1, 5, 9, 17, 30, 300, -1, 301] = many at *
  have hbd : PlBd ⟨lo, hi, le, ci⟩ := ⟨p0, p1⟩
  have hb0 := heap_alloc_new w4 (.cells #[.int .i64 lo, .int .i64 hi, .int .i64 le, .int .i64 ci] 52)
  have K : KX w (X26 A n x w4.heap.size ⟨lo, hi, le, ci⟩) (w4.alloc (.cells #[.int .i64 lo, .int .i64 hi, .int .i64 le, .int .i64 ci] 52)) := ⟨⟨hx4.alloc _, hb0⟩, X26.keep, hB4.alloc hB4.size _⟩
  have hPF := Lib.hid (fun W => poolFault_c ⟨lo, hi, le, ci⟩ hbd W)
  have hCP := Lib.hid (fun W => checkPool_c ⟨lo, hi, le, ci⟩ hbd W)
  have hCS := Lib.hid (fun W h => checkSeeds_c A n c x W h)
  have hSF := Lib.hid (fun W h => seedsFault_c A n c x W h)
  have hOr := Lib.hid (fun W h => order47_c A n c x W h (by omega))
  have hOf := Lib.hid (fun W h h0 => orderRef_c A n c x W h (by omega) h0)
  have hSz := Lib.hid (fun W => sizesTop_c ⟨lo, hi, le, ci⟩ hbd many W)
  have hSo := Lib.hid (fun h hm W => sizesRef_c ⟨lo, hi, le, ci⟩ (poolErr_ok h) many hm W)
  have hLa := Lib.hid (fun W => lanesTop_c ⟨lo, hi, le, ci⟩ hbd W)
  have hLo := Lib.hid (fun h W => lanesRef_c ⟨lo, hi, le, ci⟩ (poolErr_ok h) W)
  have hOE := Lib.hid (fun (h : seedErr x ≠ 0) => show orderV x = [] from if_neg h)
  have hLT := Lib.hid (fun (h : poolErr ⟨lo, hi, le, ci⟩ = 0) => show laneT ⟨lo, hi, le, ci⟩ = laneV lo hi ∧ ((laneV lo hi).length : Int) ≤ 10 from ⟨if_pos h, by have h2 := poolErr_ok h; have h3 := laneV_len h2.1.2; have h4 := h2.2.1; have h5 := h2.1.1; dsimp only at h3 h4 h5; omega⟩)
  have hLN := Lib.hid (fun (h : poolErr ⟨lo, hi, le, ci⟩ ≠ 0) => show laneT ⟨lo, hi, le, ci⟩ = [] from if_neg h)
  have hSE := Lib.hid (show sizeErr ⟨lo, hi, le, ci⟩ many = if poolErr ⟨lo, hi, le, ci⟩ ≠ 0 then poolErr ⟨lo, hi, le, ci⟩ else if 0 ≤ many ∧ many ≤ 300 then szErr (hi - lo + 1) many else 1 from rfl)
  have hSL := Lib.hid (show sizeL ⟨lo, hi, le, ci⟩ many = if poolErr ⟨lo, hi, le, ci⟩ = 0 ∧ (0 ≤ many ∧ many ≤ 300) then szV (hi - lo + 1) le many else [] from rfl)
  have hEq := Lib.hid (fun A1 A2 n c m d l W h1 h2 => show Calls Tryz.prog 21 #[.slice A1 n c, .slice A2 m d] W fun e w' => e = .returned (.bool true) ∧ Below W.heap.size W w' from by have h := equal_c A1 A2 n c m d l l W h1 h2; rw [show eqB l l = true by unfold eqB; simp] at h; exact h)
  clear hb0 hx4 hB4 hbd p0 p1 p2 p3
  have hKs := Lib.hid (fun v (h : X26 A n x w4.heap.size ⟨lo, hi, le, ci⟩ v) => h.1)
  have hKp := Lib.hid (fun v (h : X26 A n x w4.heap.size ⟨lo, hi, le, ci⟩ v) => h.2.at_)
  have hXk := Lib.hid (fun a v (h : X26 A n x w4.heap.size ⟨lo, hi, le, ci⟩ a) B => X26.keep a v h B)
  generalize X26 A n x w4.heap.size ⟨lo, hi, le, ci⟩ = X at *
  dsimp only [Pl.val] at *
  generalize szErr (hi - lo + 1) many = ZE at *
  generalize szV (hi - lo + 1) le many = ZL at *
  generalize sizeErr ⟨lo, hi, le, ci⟩ many = SE at *
  generalize sizeL ⟨lo, hi, le, ci⟩ many = SL at *
  generalize laneT ⟨lo, hi, le, ci⟩ = LT at *
  generalize laneV lo hi = LV at *
  generalize orderV x = OV at *
  generalize poolErr ⟨lo, hi, le, ci⟩ = P at *
  generalize seedErr x = E at *
  obtain ⟨z0, z1, z2, z3⟩ := hKp.out _ K.x
  by_cases hE0 : E = 0
  rotate_left
  · by_cases hP0 : P = 0
    rotate_left
    · have dE : (E != 0) = true := by simpa using hE0
      have dE2 : (E == 0) = false := beq_eq_false_iff_ne.2 hE0
      obtain rfl := hOE.out hE0
      clear hE0 hOE hOf
      have dP : (P != 0) = true := by simpa using hP0
      have dP2 : (P == 0) = false := beq_eq_false_iff_ne.2 hP0
      obtain rfl := hLN.out hP0
      obtain rfl : SE = P := by rw [hSE.out, if_pos hP0]
      obtain rfl : SL = [] := by rw [hSL.out, if_neg (fun h => hP0 h.1)]
      have hor := Lib.hid (fun z => show orV [SE, z] = SE by simp only [orV]; rw [if_pos hP0])
      clear hP0 hLT hLN hLo hSo hSE hSL
      go_wp2_with (first
        | (go_at_call 32; refine (hPF.out _).mono ?_; rintro e wN ⟨rfl, BN⟩; replace K := K.below BN; clear z0 z1 z2 z3; obtain ⟨z0, z1, z2, z3⟩ := hKp.out _ K.x)
        | (go_at_call 33; refine (hCS.out _ (hKs.out _ K.x)).mono ?_; rintro e wN ⟨rfl, BN⟩; replace K := K.below BN; clear z0 z1 z2 z3; obtain ⟨z0, z1, z2, z3⟩ := hKp.out _ K.x)
        | (go_at_call 34; refine (hSF.out _ (hKs.out _ K.x)).mono ?_; rintro e wN ⟨rfl, BN⟩; replace K := K.below BN; clear z0 z1 z2 z3; obtain ⟨z0, z1, z2, z3⟩ := hKp.out _ K.x)
        | (go_at_call 35; refine (hCP.out _).mono ?_; rintro e wN ⟨rfl, BN⟩; replace K := K.below BN; clear z0 z1 z2 z3; obtain ⟨z0, z1, z2, z3⟩ := hKp.out _ K.x))
      refine (hOr.out _ (hKs.out _ K.x)).mono ?_; rintro e wN ⟨A1, n1, c1, rfl, hN, BN⟩
      obtain rfl : n1 = 0 := by rw [← hN.len]; rfl
      replace K := K.below BN
      clear z0 z1 z2 z3 hN; obtain ⟨z0, z1, z2, z3⟩ := hKp.out _ K.x
      go_wp2_with (first
        | (go_at_call 34; refine (hSF.out _ (hKs.out _ K.x)).mono ?_; rintro e wN ⟨rfl, BN⟩; replace K := K.below BN; clear z0 z1 z2 z3; obtain ⟨z0, z1, z2, z3⟩ := hKp.out _ K.x))
      refine (hSz.out _).mono ?_; rintro e wN ⟨A3, n3, c3, rfl, hN3, BN⟩
      replace K := ((K.below BN).weak (Y := X) (fun _ h => h) hXk.out).add (Y := fun v => RI 3 v A3 n3 []) hN3 (fun _ _ h B => h.below B)
      clear z0 z1 z2 z3 hN3; obtain ⟨z0, z1, z2, z3⟩ := hKp.out _ K.x.1
      have or01 : orV [0, 1] = 1 := by decide
      have or00 : orV [0, 0] = 0 := by decide
      go_wp2_with (first
        | (go_at_call 40; refine (spanFault_c _ _ _ _).mono ?_; rintro e wN ⟨rfl, rfl⟩)
        | (go_at_call 17; refine (orE_c _ _ _ [_, _] _ (R1.litAt _ _ _ [_, _] (by first | rfl | simp) rfl (by simp))).mono ?_; rintro e wN ⟨rfl, rfl⟩; replace K := K.below (below_new _ (.cells #[.int .i64 SE, .int .i64 (spanErr many 0 300)] 32)); clear z0 z1 z2 z3; obtain ⟨z0, z1, z2, z3⟩ := hKp.out _ K.x.1; rw [hor.out]))
      refine (hLa.out _).mono ?_; rintro e wN ⟨A5, n5, c5, rfl, hN5, BN⟩
      obtain rfl : n5 = 0 := by rw [← hN5.len]; rfl
      obtain rfl : n3 = 0 := by rw [← K.x.2.len]; rfl
      replace K := (K.below BN).add (Y := fun v => RI 3 v A5 0 []) hN5 (fun _ _ h B => h.below B)
      clear z0 z1 z2 z3 hN5; obtain ⟨z0, z1, z2, z3⟩ := hKp.out _ K.x.1.1
      go_wp2_with (first
        | (go_at_call 21; refine (hEq.out A3 none 0 c3 0 0 [] _ K.x.1.2 (R1.nil_ _ _ _ _)).mono ?_; rintro e wN ⟨rfl, BN⟩; replace K := K.below BN; clear z0 z1 z2 z3; obtain ⟨z0, z1, z2, z3⟩ := hKp.out _ K.x.1.1)
        | (go_at_call 44; refine (heated_c _).mono ?_; rintro e wN ⟨rfl, BN⟩; replace K := K.below BN))
      have hbel := K.bel
      go_ret
      exact ⟨rfl, hbel⟩
    · by_cases hm0 : 0 ≤ many ∧ many ≤ 300
      rotate_left
      · have dE : (E != 0) = true := by simpa using hE0
        have dE2 : (E == 0) = false := beq_eq_false_iff_ne.2 hE0
        obtain rfl := hOE.out hE0
        clear hE0 hOE hOf
        obtain rfl := hP0
        obtain ⟨rfl, hLlen⟩ := hLT.out rfl
        have hLo' := Lib.hid (fun W => hLo.out rfl W)
        clear hLT hLN hLo
        obtain rfl : SE = 1 := by rw [hSE.out, if_neg (by simp), if_neg hm0]
        obtain rfl : SL = [] := by rw [hSL.out, if_neg (fun h => hm0 h.2)]
        have hsp : spanErr many 0 300 = 1 := by unfold spanErr; rw [if_neg hm0]
        clear hSo hSE hSL hm0
        go_wp2_with (first
          | (go_at_call 32; refine (hPF.out _).mono ?_; rintro e wN ⟨rfl, BN⟩; replace K := K.below BN; clear z0 z1 z2 z3; obtain ⟨z0, z1, z2, z3⟩ := hKp.out _ K.x)
          | (go_at_call 33; refine (hCS.out _ (hKs.out _ K.x)).mono ?_; rintro e wN ⟨rfl, BN⟩; replace K := K.below BN; clear z0 z1 z2 z3; obtain ⟨z0, z1, z2, z3⟩ := hKp.out _ K.x)
          | (go_at_call 34; refine (hSF.out _ (hKs.out _ K.x)).mono ?_; rintro e wN ⟨rfl, BN⟩; replace K := K.below BN; clear z0 z1 z2 z3; obtain ⟨z0, z1, z2, z3⟩ := hKp.out _ K.x)
          | (go_at_call 35; refine (hCP.out _).mono ?_; rintro e wN ⟨rfl, BN⟩; replace K := K.below BN; clear z0 z1 z2 z3; obtain ⟨z0, z1, z2, z3⟩ := hKp.out _ K.x))
        refine (hOr.out _ (hKs.out _ K.x)).mono ?_; rintro e wN ⟨A1, n1, c1, rfl, hN, BN⟩
        obtain rfl : n1 = 0 := by rw [← hN.len]; rfl
        replace K := K.below BN
        clear z0 z1 z2 z3 hN; obtain ⟨z0, z1, z2, z3⟩ := hKp.out _ K.x
        go_wp2_with (first
          | (go_at_call 34; refine (hSF.out _ (hKs.out _ K.x)).mono ?_; rintro e wN ⟨rfl, BN⟩; replace K := K.below BN; clear z0 z1 z2 z3; obtain ⟨z0, z1, z2, z3⟩ := hKp.out _ K.x))
        refine (hSz.out _).mono ?_; rintro e wN ⟨A3, n3, c3, rfl, hN3, BN⟩
        replace K := ((K.below BN).weak (Y := X) (fun _ h => h) hXk.out).add (Y := fun v => RI 3 v A3 n3 []) hN3 (fun _ _ h B => h.below B)
        clear z0 z1 z2 z3 hN3; obtain ⟨z0, z1, z2, z3⟩ := hKp.out _ K.x.1
        have or01 : orV [0, 1] = 1 := by decide
        have or00 : orV [0, 0] = 0 := by decide
        go_wp2_with (first
          | (go_at_call 40; refine (spanFault_c _ _ _ _).mono ?_; rintro e wN ⟨rfl, rfl⟩; rw [hsp])
          | (go_at_call 17; refine (orE_c _ _ _ [_, _] _ (R1.litAt _ _ _ [_, _] (by first | rfl | simp) rfl (by simp))).mono ?_; rintro e wN ⟨rfl, rfl⟩; replace K := K.below (below_new _ (.cells #[.int .i64 0, .int .i64 1] 32)); clear z0 z1 z2 z3; obtain ⟨z0, z1, z2, z3⟩ := hKp.out _ K.x.1; rw [or01]))
        refine (hLa.out _).mono ?_; rintro e wN ⟨A5, n5, c5, rfl, hN5, BN⟩
        obtain rfl : n3 = 0 := by rw [← K.x.2.len]; rfl
        replace K := (K.below BN).add (Y := fun v => RI 3 v A5 n5 LT) hN5 (fun _ _ h B => h.below B)
        clear z0 z1 z2 z3 hN5; obtain ⟨z0, z1, z2, z3⟩ := hKp.out _ K.x.1.1
        go_wp2_with (first
          | (have hq := hN6; go_at_call 21; refine (hEq.out A5 A6 n5 c5 n6 c6 LT _ K.x.2 hN6).mono ?_; rintro e wN ⟨rfl, BN⟩; replace K := K.below BN; clear hN6)
          | (go_at_call 21; refine (hEq.out A3 none 0 c3 0 0 [] _ K.x.1.2 (R1.nil_ _ _ _ _)).mono ?_; rintro e wN ⟨rfl, BN⟩; replace K := K.below BN; clear z0 z1 z2 z3; obtain ⟨z0, z1, z2, z3⟩ := hKp.out _ K.x.1.1)
          | (go_at_call 43; refine (hLo'.out _).mono ?_; rintro e wN ⟨A6, n6, c6, rfl, hN6o, hN6l, BN⟩; replace K := K.below BN; have hN6 := R1.of_own hN6o (by omega); clear hN6o)
          | (go_at_call 44; refine (heated_c _).mono ?_; rintro e wN ⟨rfl, BN⟩; replace K := K.below BN))
        have hbel := K.bel
        go_ret
        exact ⟨rfl, hbel⟩
      · have dE : (E != 0) = true := by simpa using hE0
        have dE2 : (E == 0) = false := beq_eq_false_iff_ne.2 hE0
        obtain rfl := hOE.out hE0
        clear hE0 hOE hOf
        obtain rfl := hP0
        obtain ⟨rfl, hLlen⟩ := hLT.out rfl
        have hLo' := Lib.hid (fun W => hLo.out rfl W)
        clear hLT hLN hLo
        obtain rfl : SE = ZE := by rw [hSE.out, if_neg (by simp), if_pos hm0]
        obtain rfl : SL = ZL := by rw [hSL.out, if_pos ⟨rfl, hm0⟩]
        have hsp : spanErr many 0 300 = 0 := by unfold spanErr; rw [if_pos hm0]
        have hSo' := Lib.hid (fun W => hSo.out rfl hm0 W)
        clear hSo hSE hSL hm0
        go_wp2_with (first
          | (go_at_call 32; refine (hPF.out _).mono ?_; rintro e wN ⟨rfl, BN⟩; replace K := K.below BN; clear z0 z1 z2 z3; obtain ⟨z0, z1, z2, z3⟩ := hKp.out _ K.x)
          | (go_at_call 33; refine (hCS.out _ (hKs.out _ K.x)).mono ?_; rintro e wN ⟨rfl, BN⟩; replace K := K.below BN; clear z0 z1 z2 z3; obtain ⟨z0, z1, z2, z3⟩ := hKp.out _ K.x)
          | (go_at_call 34; refine (hSF.out _ (hKs.out _ K.x)).mono ?_; rintro e wN ⟨rfl, BN⟩; replace K := K.below BN; clear z0 z1 z2 z3; obtain ⟨z0, z1, z2, z3⟩ := hKp.out _ K.x)
          | (go_at_call 35; refine (hCP.out _).mono ?_; rintro e wN ⟨rfl, BN⟩; replace K := K.below BN; clear z0 z1 z2 z3; obtain ⟨z0, z1, z2, z3⟩ := hKp.out _ K.x))
        refine (hOr.out _ (hKs.out _ K.x)).mono ?_; rintro e wN ⟨A1, n1, c1, rfl, hN, BN⟩
        obtain rfl : n1 = 0 := by rw [← hN.len]; rfl
        replace K := K.below BN
        clear z0 z1 z2 z3 hN; obtain ⟨z0, z1, z2, z3⟩ := hKp.out _ K.x
        go_wp2_with (first
          | (go_at_call 34; refine (hSF.out _ (hKs.out _ K.x)).mono ?_; rintro e wN ⟨rfl, BN⟩; replace K := K.below BN; clear z0 z1 z2 z3; obtain ⟨z0, z1, z2, z3⟩ := hKp.out _ K.x))
        refine (hSz.out _).mono ?_; rintro e wN ⟨A3, n3, c3, rfl, hN3, BN⟩
        replace K := ((K.below BN).weak (Y := X) (fun _ h => h) hXk.out).add (Y := fun v => RI 3 v A3 n3 SL) hN3 (fun _ _ h B => h.below B)
        clear z0 z1 z2 z3 hN3; obtain ⟨z0, z1, z2, z3⟩ := hKp.out _ K.x.1
        have or01 : orV [0, 1] = 1 := by decide
        have or00 : orV [0, 0] = 0 := by decide
        go_wp2_with (first
          | (go_at_call 40; refine (spanFault_c _ _ _ _).mono ?_; rintro e wN ⟨rfl, rfl⟩; rw [hsp])
          | (go_at_call 17; refine (orE_c _ _ _ [_, _] _ (R1.litAt _ _ _ [_, _] (by first | rfl | simp) rfl (by simp))).mono ?_; rintro e wN ⟨rfl, rfl⟩; replace K := K.below (below_new _ (.cells #[.int .i64 0, .int .i64 0] 32)); clear z0 z1 z2 z3; obtain ⟨z0, z1, z2, z3⟩ := hKp.out _ K.x.1; rw [or00])
          | (go_at_call 41; refine (hSo'.out _).mono ?_; rintro e wN ⟨A4, n4, c4, rfl, hN4, BN⟩; replace K := (K.below BN).add (Y := fun v => RI 3 v A4 n4 SL) hN4 (fun _ _ h B => h.below B); clear z0 z1 z2 z3 hN4; obtain ⟨z0, z1, z2, z3⟩ := hKp.out _ K.x.1.1))
        refine (hLa.out _).mono ?_; rintro e wN ⟨A5, n5, c5, rfl, hN5, BN⟩
        replace K := (K.below BN).add (Y := fun v => RI 3 v A5 n5 LT) hN5 (fun _ _ h B => h.below B)
        clear z0 z1 z2 z3 hN5; obtain ⟨z0, z1, z2, z3⟩ := hKp.out _ K.x.1.1.1
        go_wp2_with (first
          | (have hq := hN6; go_at_call 21; refine (hEq.out A5 A6 n5 c5 n6 c6 LT _ K.x.2 hN6).mono ?_; rintro e wN ⟨rfl, BN⟩; replace K := K.below BN; clear hN6)
          | (go_at_call 21; refine (hEq.out A3 A4 n3 c3 n4 c4 SL _ K.x.1.1.2 K.x.1.2).mono ?_; rintro e wN ⟨rfl, BN⟩; replace K := K.below BN; clear z0 z1 z2 z3; obtain ⟨z0, z1, z2, z3⟩ := hKp.out _ K.x.1.1.1)
          | (go_at_call 43; refine (hLo'.out _).mono ?_; rintro e wN ⟨A6, n6, c6, rfl, hN6o, hN6l, BN⟩; replace K := K.below BN; have hN6 := R1.of_own hN6o (by omega); clear hN6o)
          | (go_at_call 44; refine (heated_c _).mono ?_; rintro e wN ⟨rfl, BN⟩; replace K := K.below BN))
        have hbel := K.bel
        go_ret
        exact ⟨rfl, hbel⟩
  · by_cases hP0 : P = 0
    rotate_left
    · obtain rfl := hE0
      have hOf' := Lib.hid (fun W h => hOf.out W h rfl)
      clear hOE hOf
      have dP : (P != 0) = true := by simpa using hP0
      have dP2 : (P == 0) = false := beq_eq_false_iff_ne.2 hP0
      obtain rfl := hLN.out hP0
      obtain rfl : SE = P := by rw [hSE.out, if_pos hP0]
      obtain rfl : SL = [] := by rw [hSL.out, if_neg (fun h => hP0 h.1)]
      have hor := Lib.hid (fun z => show orV [SE, z] = SE by simp only [orV]; rw [if_pos hP0])
      clear hP0 hLT hLN hLo hSo hSE hSL
      go_wp2_with (first
        | (go_at_call 32; refine (hPF.out _).mono ?_; rintro e wN ⟨rfl, BN⟩; replace K := K.below BN; clear z0 z1 z2 z3; obtain ⟨z0, z1, z2, z3⟩ := hKp.out _ K.x)
        | (go_at_call 33; refine (hCS.out _ (hKs.out _ K.x)).mono ?_; rintro e wN ⟨rfl, BN⟩; replace K := K.below BN; clear z0 z1 z2 z3; obtain ⟨z0, z1, z2, z3⟩ := hKp.out _ K.x)
        | (go_at_call 34; refine (hSF.out _ (hKs.out _ K.x)).mono ?_; rintro e wN ⟨rfl, BN⟩; replace K := K.below BN; clear z0 z1 z2 z3; obtain ⟨z0, z1, z2, z3⟩ := hKp.out _ K.x)
        | (go_at_call 35; refine (hCP.out _).mono ?_; rintro e wN ⟨rfl, BN⟩; replace K := K.below BN; clear z0 z1 z2 z3; obtain ⟨z0, z1, z2, z3⟩ := hKp.out _ K.x))
      refine (hOr.out _ (hKs.out _ K.x)).mono ?_; rintro e wN ⟨A1, n1, c1, rfl, hN, BN⟩
      replace K := (K.below BN).add (Y := fun v => RS 9 v A1 n1 OV) hN (fun _ _ h B => h.below B)
      clear z0 z1 z2 z3 hN; obtain ⟨z0, z1, z2, z3⟩ := hKp.out _ K.x.1
      go_wp2_with (first
        | (go_at_call 34; refine (hSF.out _ (hKs.out _ K.x.1)).mono ?_; rintro e wN ⟨rfl, BN⟩; replace K := K.below BN; clear z0 z1 z2 z3; obtain ⟨z0, z1, z2, z3⟩ := hKp.out _ K.x.1)
        | (go_at_call 38; refine (hOf'.out _ (hKs.out _ K.x.1)).mono ?_; rintro e wN ⟨A2, n2, c2, rfl, hN2, BN⟩; replace K := K.below BN; clear z0 z1 z2 z3; obtain ⟨z0, z1, z2, z3⟩ := hKp.out _ K.x.1)
        | (go_at_call 37; refine (equalNm_c A1 A2 n1 c1 n2 c2 OV _ K.x.2 hN2).mono ?_; rintro e wN ⟨rfl, BN⟩; replace K := K.below BN; clear z0 z1 z2 z3; obtain ⟨z0, z1, z2, z3⟩ := hKp.out _ K.x.1; clear hN2))
      refine (hSz.out _).mono ?_; rintro e wN ⟨A3, n3, c3, rfl, hN3, BN⟩
      replace K := ((K.below BN).weak (Y := X) (fun _ h => h.1) hXk.out).add (Y := fun v => RI 3 v A3 n3 []) hN3 (fun _ _ h B => h.below B)
      clear z0 z1 z2 z3 hN3; obtain ⟨z0, z1, z2, z3⟩ := hKp.out _ K.x.1
      have or01 : orV [0, 1] = 1 := by decide
      have or00 : orV [0, 0] = 0 := by decide
      go_wp2_with (first
        | (go_at_call 40; refine (spanFault_c _ _ _ _).mono ?_; rintro e wN ⟨rfl, rfl⟩)
        | (go_at_call 17; refine (orE_c _ _ _ [_, _] _ (R1.litAt _ _ _ [_, _] (by first | rfl | simp) rfl (by simp))).mono ?_; rintro e wN ⟨rfl, rfl⟩; replace K := K.below (below_new _ (.cells #[.int .i64 SE, .int .i64 (spanErr many 0 300)] 32)); clear z0 z1 z2 z3; obtain ⟨z0, z1, z2, z3⟩ := hKp.out _ K.x.1; rw [hor.out]))
      refine (hLa.out _).mono ?_; rintro e wN ⟨A5, n5, c5, rfl, hN5, BN⟩
      obtain rfl : n5 = 0 := by rw [← hN5.len]; rfl
      obtain rfl : n3 = 0 := by rw [← K.x.2.len]; rfl
      replace K := (K.below BN).add (Y := fun v => RI 3 v A5 0 []) hN5 (fun _ _ h B => h.below B)
      clear z0 z1 z2 z3 hN5; obtain ⟨z0, z1, z2, z3⟩ := hKp.out _ K.x.1.1
      go_wp2_with (first
        | (go_at_call 21; refine (hEq.out A3 none 0 c3 0 0 [] _ K.x.1.2 (R1.nil_ _ _ _ _)).mono ?_; rintro e wN ⟨rfl, BN⟩; replace K := K.below BN; clear z0 z1 z2 z3; obtain ⟨z0, z1, z2, z3⟩ := hKp.out _ K.x.1.1)
        | (go_at_call 44; refine (heated_c _).mono ?_; rintro e wN ⟨rfl, BN⟩; replace K := K.below BN))
      have hbel := K.bel
      go_ret
      exact ⟨rfl, hbel⟩
    · by_cases hm0 : 0 ≤ many ∧ many ≤ 300
      rotate_left
      · obtain rfl := hE0
        have hOf' := Lib.hid (fun W h => hOf.out W h rfl)
        clear hOE hOf
        obtain rfl := hP0
        obtain ⟨rfl, hLlen⟩ := hLT.out rfl
        have hLo' := Lib.hid (fun W => hLo.out rfl W)
        clear hLT hLN hLo
        obtain rfl : SE = 1 := by rw [hSE.out, if_neg (by simp), if_neg hm0]
        obtain rfl : SL = [] := by rw [hSL.out, if_neg (fun h => hm0 h.2)]
        have hsp : spanErr many 0 300 = 1 := by unfold spanErr; rw [if_neg hm0]
        clear hSo hSE hSL hm0
        go_wp2_with (first
          | (go_at_call 32; refine (hPF.out _).mono ?_; rintro e wN ⟨rfl, BN⟩; replace K := K.below BN; clear z0 z1 z2 z3; obtain ⟨z0, z1, z2, z3⟩ := hKp.out _ K.x)
          | (go_at_call 33; refine (hCS.out _ (hKs.out _ K.x)).mono ?_; rintro e wN ⟨rfl, BN⟩; replace K := K.below BN; clear z0 z1 z2 z3; obtain ⟨z0, z1, z2, z3⟩ := hKp.out _ K.x)
          | (go_at_call 34; refine (hSF.out _ (hKs.out _ K.x)).mono ?_; rintro e wN ⟨rfl, BN⟩; replace K := K.below BN; clear z0 z1 z2 z3; obtain ⟨z0, z1, z2, z3⟩ := hKp.out _ K.x)
          | (go_at_call 35; refine (hCP.out _).mono ?_; rintro e wN ⟨rfl, BN⟩; replace K := K.below BN; clear z0 z1 z2 z3; obtain ⟨z0, z1, z2, z3⟩ := hKp.out _ K.x))
        refine (hOr.out _ (hKs.out _ K.x)).mono ?_; rintro e wN ⟨A1, n1, c1, rfl, hN, BN⟩
        replace K := (K.below BN).add (Y := fun v => RS 9 v A1 n1 OV) hN (fun _ _ h B => h.below B)
        clear z0 z1 z2 z3 hN; obtain ⟨z0, z1, z2, z3⟩ := hKp.out _ K.x.1
        go_wp2_with (first
          | (go_at_call 34; refine (hSF.out _ (hKs.out _ K.x.1)).mono ?_; rintro e wN ⟨rfl, BN⟩; replace K := K.below BN; clear z0 z1 z2 z3; obtain ⟨z0, z1, z2, z3⟩ := hKp.out _ K.x.1)
          | (go_at_call 38; refine (hOf'.out _ (hKs.out _ K.x.1)).mono ?_; rintro e wN ⟨A2, n2, c2, rfl, hN2, BN⟩; replace K := K.below BN; clear z0 z1 z2 z3; obtain ⟨z0, z1, z2, z3⟩ := hKp.out _ K.x.1)
          | (go_at_call 37; refine (equalNm_c A1 A2 n1 c1 n2 c2 OV _ K.x.2 hN2).mono ?_; rintro e wN ⟨rfl, BN⟩; replace K := K.below BN; clear z0 z1 z2 z3; obtain ⟨z0, z1, z2, z3⟩ := hKp.out _ K.x.1; clear hN2))
        refine (hSz.out _).mono ?_; rintro e wN ⟨A3, n3, c3, rfl, hN3, BN⟩
        replace K := ((K.below BN).weak (Y := X) (fun _ h => h.1) hXk.out).add (Y := fun v => RI 3 v A3 n3 []) hN3 (fun _ _ h B => h.below B)
        clear z0 z1 z2 z3 hN3; obtain ⟨z0, z1, z2, z3⟩ := hKp.out _ K.x.1
        have or01 : orV [0, 1] = 1 := by decide
        have or00 : orV [0, 0] = 0 := by decide
        go_wp2_with (first
          | (go_at_call 40; refine (spanFault_c _ _ _ _).mono ?_; rintro e wN ⟨rfl, rfl⟩; rw [hsp])
          | (go_at_call 17; refine (orE_c _ _ _ [_, _] _ (R1.litAt _ _ _ [_, _] (by first | rfl | simp) rfl (by simp))).mono ?_; rintro e wN ⟨rfl, rfl⟩; replace K := K.below (below_new _ (.cells #[.int .i64 0, .int .i64 1] 32)); clear z0 z1 z2 z3; obtain ⟨z0, z1, z2, z3⟩ := hKp.out _ K.x.1; rw [or01]))
        refine (hLa.out _).mono ?_; rintro e wN ⟨A5, n5, c5, rfl, hN5, BN⟩
        obtain rfl : n3 = 0 := by rw [← K.x.2.len]; rfl
        replace K := (K.below BN).add (Y := fun v => RI 3 v A5 n5 LT) hN5 (fun _ _ h B => h.below B)
        clear z0 z1 z2 z3 hN5; obtain ⟨z0, z1, z2, z3⟩ := hKp.out _ K.x.1.1
        go_wp2_with (first
          | (have hq := hN6; go_at_call 21; refine (hEq.out A5 A6 n5 c5 n6 c6 LT _ K.x.2 hN6).mono ?_; rintro e wN ⟨rfl, BN⟩; replace K := K.below BN; clear hN6)
          | (go_at_call 21; refine (hEq.out A3 none 0 c3 0 0 [] _ K.x.1.2 (R1.nil_ _ _ _ _)).mono ?_; rintro e wN ⟨rfl, BN⟩; replace K := K.below BN; clear z0 z1 z2 z3; obtain ⟨z0, z1, z2, z3⟩ := hKp.out _ K.x.1.1)
          | (go_at_call 43; refine (hLo'.out _).mono ?_; rintro e wN ⟨A6, n6, c6, rfl, hN6o, hN6l, BN⟩; replace K := K.below BN; have hN6 := R1.of_own hN6o (by omega); clear hN6o)
          | (go_at_call 44; refine (heated_c _).mono ?_; rintro e wN ⟨rfl, BN⟩; replace K := K.below BN))
        have hbel := K.bel
        go_ret
        exact ⟨rfl, hbel⟩
      · obtain rfl := hE0
        have hOf' := Lib.hid (fun W h => hOf.out W h rfl)
        clear hOE hOf
        obtain rfl := hP0
        obtain ⟨rfl, hLlen⟩ := hLT.out rfl
        have hLo' := Lib.hid (fun W => hLo.out rfl W)
        clear hLT hLN hLo
        obtain rfl : SE = ZE := by rw [hSE.out, if_neg (by simp), if_pos hm0]
        obtain rfl : SL = ZL := by rw [hSL.out, if_pos ⟨rfl, hm0⟩]
        have hsp : spanErr many 0 300 = 0 := by unfold spanErr; rw [if_pos hm0]
        have hSo' := Lib.hid (fun W => hSo.out rfl hm0 W)
        clear hSo hSE hSL hm0
        go_wp2_with (first
          | (go_at_call 32; refine (hPF.out _).mono ?_; rintro e wN ⟨rfl, BN⟩; replace K := K.below BN; clear z0 z1 z2 z3; obtain ⟨z0, z1, z2, z3⟩ := hKp.out _ K.x)
          | (go_at_call 33; refine (hCS.out _ (hKs.out _ K.x)).mono ?_; rintro e wN ⟨rfl, BN⟩; replace K := K.below BN; clear z0 z1 z2 z3; obtain ⟨z0, z1, z2, z3⟩ := hKp.out _ K.x)
          | (go_at_call 34; refine (hSF.out _ (hKs.out _ K.x)).mono ?_; rintro e wN ⟨rfl, BN⟩; replace K := K.below BN; clear z0 z1 z2 z3; obtain ⟨z0, z1, z2, z3⟩ := hKp.out _ K.x)
          | (go_at_call 35; refine (hCP.out _).mono ?_; rintro e wN ⟨rfl, BN⟩; replace K := K.below BN; clear z0 z1 z2 z3; obtain ⟨z0, z1, z2, z3⟩ := hKp.out _ K.x))
        refine (hOr.out _ (hKs.out _ K.x)).mono ?_; rintro e wN ⟨A1, n1, c1, rfl, hN, BN⟩
        replace K := (K.below BN).add (Y := fun v => RS 9 v A1 n1 OV) hN (fun _ _ h B => h.below B)
        clear z0 z1 z2 z3 hN; obtain ⟨z0, z1, z2, z3⟩ := hKp.out _ K.x.1
        go_wp2_with (first
          | (go_at_call 34; refine (hSF.out _ (hKs.out _ K.x.1)).mono ?_; rintro e wN ⟨rfl, BN⟩; replace K := K.below BN; clear z0 z1 z2 z3; obtain ⟨z0, z1, z2, z3⟩ := hKp.out _ K.x.1)
          | (go_at_call 38; refine (hOf'.out _ (hKs.out _ K.x.1)).mono ?_; rintro e wN ⟨A2, n2, c2, rfl, hN2, BN⟩; replace K := K.below BN; clear z0 z1 z2 z3; obtain ⟨z0, z1, z2, z3⟩ := hKp.out _ K.x.1)
          | (go_at_call 37; refine (equalNm_c A1 A2 n1 c1 n2 c2 OV _ K.x.2 hN2).mono ?_; rintro e wN ⟨rfl, BN⟩; replace K := K.below BN; clear z0 z1 z2 z3; obtain ⟨z0, z1, z2, z3⟩ := hKp.out _ K.x.1; clear hN2))
        refine (hSz.out _).mono ?_; rintro e wN ⟨A3, n3, c3, rfl, hN3, BN⟩
        replace K := ((K.below BN).weak (Y := X) (fun _ h => h.1) hXk.out).add (Y := fun v => RI 3 v A3 n3 SL) hN3 (fun _ _ h B => h.below B)
        clear z0 z1 z2 z3 hN3; obtain ⟨z0, z1, z2, z3⟩ := hKp.out _ K.x.1
        have or01 : orV [0, 1] = 1 := by decide
        have or00 : orV [0, 0] = 0 := by decide
        go_wp2_with (first
          | (go_at_call 40; refine (spanFault_c _ _ _ _).mono ?_; rintro e wN ⟨rfl, rfl⟩; rw [hsp])
          | (go_at_call 17; refine (orE_c _ _ _ [_, _] _ (R1.litAt _ _ _ [_, _] (by first | rfl | simp) rfl (by simp))).mono ?_; rintro e wN ⟨rfl, rfl⟩; replace K := K.below (below_new _ (.cells #[.int .i64 0, .int .i64 0] 32)); clear z0 z1 z2 z3; obtain ⟨z0, z1, z2, z3⟩ := hKp.out _ K.x.1; rw [or00])
          | (go_at_call 41; refine (hSo'.out _).mono ?_; rintro e wN ⟨A4, n4, c4, rfl, hN4, BN⟩; replace K := (K.below BN).add (Y := fun v => RI 3 v A4 n4 SL) hN4 (fun _ _ h B => h.below B); clear z0 z1 z2 z3 hN4; obtain ⟨z0, z1, z2, z3⟩ := hKp.out _ K.x.1.1))
        refine (hLa.out _).mono ?_; rintro e wN ⟨A5, n5, c5, rfl, hN5, BN⟩
        replace K := (K.below BN).add (Y := fun v => RI 3 v A5 n5 LT) hN5 (fun _ _ h B => h.below B)
        clear z0 z1 z2 z3 hN5; obtain ⟨z0, z1, z2, z3⟩ := hKp.out _ K.x.1.1.1
        go_wp2_with (first
          | (have hq := hN6; go_at_call 21; refine (hEq.out A5 A6 n5 c5 n6 c6 LT _ K.x.2 hN6).mono ?_; rintro e wN ⟨rfl, BN⟩; replace K := K.below BN; clear hN6)
          | (go_at_call 21; refine (hEq.out A3 A4 n3 c3 n4 c4 SL _ K.x.1.1.2 K.x.1.2).mono ?_; rintro e wN ⟨rfl, BN⟩; replace K := K.below BN; clear z0 z1 z2 z3; obtain ⟨z0, z1, z2, z3⟩ := hKp.out _ K.x.1.1.1)
          | (go_at_call 43; refine (hLo'.out _).mono ?_; rintro e wN ⟨A6, n6, c6, rfl, hN6o, hN6l, BN⟩; replace K := K.below BN; have hN6 := R1.of_own hN6o (by omega); clear hN6o)
          | (go_at_call 44; refine (heated_c _).mono ?_; rintro e wN ⟨rfl, BN⟩; replace K := K.below BN))
        have hbel := K.bel
        go_ret
        exact ⟨rfl, hbel⟩
end Go.Proofs.YtcmfgmdkdpadjaaGreatDoor
