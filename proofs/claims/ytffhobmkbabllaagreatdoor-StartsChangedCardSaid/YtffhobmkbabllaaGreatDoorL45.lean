/- StartsChanged: CheckStarts, Empty, Scratch and Late answer as the reference says: the walk. -/
import Derived.Test.YtffhobmkbabllaaGreatDoorStaL
import Derived.Test.YtffhobmkbabllaaGreatDoorPoolM
import Derived.Test.YtffhobmkbabllaaGreatDoorLatM
import Derived.Test.YtffhobmkbabllaaGreatDoorStaN
import Derived.Test.YtffhobmkbabllaaGreatDoorScrP
import Derived.Test.YtffhobmkbabllaaGreatDoorGoneC
import Derived.Deep.DeepCutAuto
import Derived.Deep.RegionHeld3
namespace Go.Proofs.YtffhobmkbabllaaGreatDoor
open Go.RowKit Go.Shelf Go.Lib Go.Sort
set_option linter.unusedVariables false

def whenE (b : Bool) (e : Int) : Int := if b then e else 0
theorem when45_c (b : Bool) (e : Int) (w : World) : Calls Tryz.prog 22 #[.bool b, .int .i64 e] w fun e' w' => e' = .returned (.int .i64 (whenE b e)) ∧ w = w' := by
  cases b
  · go_enter Tryz.func22, Tryz.ntmps22
    go_wp2
    go_ret
    exact ⟨rfl, rfl⟩
  · go_enter Tryz.func22, Tryz.ntmps22
    go_wp2
    go_ret
    exact ⟨rfl, rfl⟩
structure X45 (A : Option Addr) (n : Nat) (x : List Sp) (B : Option Addr) (m : Nat) (who : List ByteArray) (b : Nat) (p : Pl) (b7 : Nat) (sd : Sd) (v : World) : Prop where
  x : RSp v A n x
  wh : RS 9 v B m who
  pb : PoolB b p v
  sb : v.heap[b7]? = some (.cells #[.string sd.who, .int .i64 sd.time] 40 (0, 0))
theorem X45.keep {A : Option Addr} {n : Nat} {x : List Sp} {B : Option Addr} {m : Nat} {who : List ByteArray} {b : Nat} {p : Pl} {b7 : Nat} {sd : Sd} (a v : World) (h : X45 A n x B m who b p b7 sd a) (hB : Below a.heap.size a v) : X45 A n x B m who b p b7 sd v := ⟨h.x.below hB, h.wh.below hB, PoolB.keep _ _ h.pb hB, blk_below h.sb hB⟩
theorem X45.at_ {A : Option Addr} {n : Nat} {x : List Sp} {B : Option Addr} {m : Nat} {who : List ByteArray} {b : Nat} {p : Pl} {b7 : Nat} {sd : Sd} {v : World} (h : X45 A n x B m who b p b7 sd v) : v.cell? ⟨b, 0, none⟩ = some (.int .i64 p.lo) ∧ v.cell? ⟨b, 1, none⟩ = some (.int .i64 p.hi) ∧ v.cell? ⟨b, 2, none⟩ = some (.int .i64 p.le) ∧ v.cell? ⟨b, 3, none⟩ = some (.int .i64 p.ci) ∧ v.cell? ⟨b7, 0, none⟩ = some (.string sd.who) ∧ v.cell? ⟨b7, 1, none⟩ = some (.int .i64 sd.time) := by
  obtain ⟨h0, h1, h2, h3⟩ := h.pb.at_
  exact ⟨h0, h1, h2, h3, (blk_facts h.sb).1 0, (blk_facts h.sb).1 1⟩
set_option maxHeartbeats 12800000 in
set_option maxRecDepth 100000 in
theorem startsChanged_walk (a0 : Option Addr) (len0 cap0 : Nat) (z0 : List Int) (w : World) (w0 : IsRow .i64 w a0 len0 cap0 z0) (htab : Tb w) :
    Calls Tryz.prog 5 #[.slice a0 len0 cap0] w fun e w' => e = .returned (.bool true) ∧ Below w.heap.size w w' := by
  have hs := law_start w0
  clear w0
  generalize z0.take len0 = zs at *
  go_enter Tryz.func5, Tryz.ntmps5
  go_wp2_with fail
  have hs' : St (w.alloc (.cells #[.slice a0 len0 cap0, .int .i64 0] 25)) w.heap.size zs 0 := hs
  have hB1 := below_new w (.cells #[.slice a0 len0 cap0, .int .i64 0] 25)
  refine (poolOf_c _ zs 0 _ hs' (by omega)).mono ?_; rintro e w2 ⟨lo, hi, le, ci, k2, rfl, p0, p1, p2, p3, s2, hk2, g2⟩
  have hB2 := hB1.trans (grown_below g2 (Nat.le_refl _) hB1.size)
  have hbd : PlBd ⟨lo, hi, le, ci⟩ := ⟨p0, p1⟩
  have hz2 := hB2.size
  have hp2 : PoolB w2.heap.size ⟨lo, hi, le, ci⟩ (w2.alloc (.cells #[.int .i64 lo, .int .i64 hi, .int .i64 le, .int .i64 ci] 72)) := heap_alloc_new w2 _
  have s3 := s2.alloc (.cells #[.int .i64 lo, .int .i64 hi, .int .i64 le, .int .i64 ci] 72)
  have hB3 := hB2.alloc hB2.size (.cells #[.int .i64 lo, .int .i64 hi, .int .i64 le, .int .i64 ci] 72)
  obtain ⟨z0', z1, z2, z3⟩ := hp2.at_
  clear hs hs' hB1 g2 hB2 s2 p0 p1 p2 p3
  dsimp only at z0' z1 z2 z3
  go_wp2_with fail
  generalize hw3 : w2.alloc (.cells #[.int .i64 lo, .int .i64 hi, .int .i64 le, .int .i64 ci] 72) = w3 at *
  generalize w2.heap.size = b4 at *
  clear hw3
  refine (startList_c ⟨lo, hi, le, ci⟩ hbd _ zs k2 w3 w s3 (by omega) htab hB3 (Nat.le_refl _)).mono ?_; rintro e w4 ⟨A, n, c, x, k4, rfl, ho4, hn20, s4, hk4, g4⟩
  have hx4 : RSp w4 A n x := RN.of_own spE_len ho4 (own_len spE_len (by decide) ho4) (by omega)
  have hp4 : PoolB b4 ⟨lo, hi, le, ci⟩ w4 := (s3.keep g4) _ _ _ _ (by decide) hp2
  have hB4 := hB3.trans (grown_below g4 (Nat.le_refl _) hB3.size)
  clear hp2 s3 hB3 g4 ho4 z0' z1 z2 z3
  go_wp2_with fail
  refine (startNames_c A n c x _ hx4 (by omega)).mono ?_; rintro e w5 ⟨A5, n5, c5, rfl, rn5, B5⟩
  obtain rfl : n5 = n := by rw [← rn5.len, List.length_map]; exact hx4.len
  have s5 := s4.below B5
  have hx5 := hx4.below B5
  have hp5 := PoolB.keep _ _ hp4 B5
  have hB5 := below_next hB4 B5
  clear s4 hx4 hp4 hB4 B5
  go_wp2_with fail
  refine (taken_c _ zs k4 n5 c5 A5 _ _ s5 (by omega) (by omega) rn5).mono ?_; rintro e w6 ⟨B, m, d, who, k6, rfl, rw6, hcap, hm, s6, hk6, g6⟩
  have hx6 : RSp w6 A n5 x := hx5.keep (T := 25) (by decide) (s5.keep g6)
  have hp6 : PoolB b4 ⟨lo, hi, le, ci⟩ w6 := (s5.keep g6) _ _ _ _ (by decide) hp5
  have hB6 := hB5.trans (grown_below g6 (Nat.le_refl _) hB5.size)
  clear s5 hx5 hp5 hB5 g6 rn5
  have hoS := Lib.hid (someE_c _ zs k6 [⟨#[122, 122]⟩, ⟨#[122, 122]⟩, ⟨#[122, 122]⟩, ⟨#[115, 48]⟩, ⟨#[]⟩] 5 5 w6.heap.size #[.string ⟨#[122, 122]⟩, .string ⟨#[122, 122]⟩, .string ⟨#[122, 122]⟩, .string ⟨#[115, 48]⟩, .string ⟨#[]⟩] w6 s6 (by omega) rfl rfl rfl (by decide) (by decide))
  go_wp2_with fail
  refine hoS.out.mono ?_; rintro e w7 ⟨yw, rfl, _, s7, g7⟩
  have hx7 : RSp w7 A n5 x := hx6.keep (T := 25) (by decide) (s6.keep g7)
  have hw7 : RS 9 w7 B m who := rw6.keep (T := 25) (by decide) (s6.keep g7)
  have hp7 : PoolB b4 ⟨lo, hi, le, ci⟩ w7 := (s6.keep g7) _ _ _ _ (by decide) hp6
  have hB7 := hB6.trans (grown_below g7 (Nat.le_refl _) hB6.size)
  clear s6 hx6 rw6 hp6 hB6 g7 hoS
  go_wp2_with fail
  refine (pickE_c _ zs _ _ _ _ [0, 5000, -1] _ (s7.alloc _) (by omega) (R1.litAt _ _ _ _ (by first | rfl | (simp; done)) (by simp) (by simp)) (by simp)).mono ?_; rintro e w8 ⟨yt, rfl, _, s8, g8⟩
  have hx8 : RSp w8 A n5 x := (hx7.below (below_new w7 _)).keep (T := 25) (by decide) ((s7.alloc (.cells #[.int .i64 0, .int .i64 5000, .int .i64 (-1)] 3)).keep g8)
  have hw8 : RS 9 w8 B m who := (hw7.below (below_new w7 _)).keep (T := 25) (by decide) ((s7.alloc (.cells #[.int .i64 0, .int .i64 5000, .int .i64 (-1)] 3)).keep g8)
  have hp8 : PoolB b4 ⟨lo, hi, le, ci⟩ w8 := ((s7.alloc (.cells #[.int .i64 0, .int .i64 5000, .int .i64 (-1)] 3)).keep g8) _ _ _ _ (by decide) (PoolB.keep _ _ hp7 (below_new w7 _))
  have hB8 := (hB7.alloc hB7.size (.cells #[.int .i64 0, .int .i64 5000, .int .i64 (-1)] 3)).trans (grown_below g8 (Nat.le_refl _) (hB7.alloc hB7.size (.cells #[.int .i64 0, .int .i64 5000, .int .i64 (-1)] 3)).size)
  clear s7 hx7 hw7 hp7 hB7 g8 s8 hk2 hk4 hk6 htab hz2
  have hBn := below_new w8 (.cells #[.string yw, .int .i64 yt] 40)
  have K : KX w (X45 A n5 x B m who b4 ⟨lo, hi, le, ci⟩ w8.heap.size ⟨yw, yt⟩) (w8.alloc (.cells #[.string yw, .int .i64 yt] 40)) := ⟨⟨hx8.below hBn, hw8.below hBn, PoolB.keep _ _ hp8 hBn, heap_alloc_new w8 _⟩, X45.keep, below_next hB8 hBn⟩
  have hPF := Lib.hid (fun W => poolFault_c ⟨lo, hi, le, ci⟩ hbd W)
  have hCS := Lib.hid (fun W h => checkStarts_c ⟨lo, hi, le, ci⟩ hbd A n5 c x W h)
  have hSF := Lib.hid (fun h0 W h => startsFault_c ⟨lo, hi, le, ci⟩ h0 A n5 c x W h)
  have hEm := Lib.hid (fun W h => empty_c ⟨lo, hi, le, ci⟩ hbd A n5 c x W h)
  have hEo := Lib.hid (fun h0 W h => emptyOf_c ⟨lo, hi, le, ci⟩ A n5 c x (startsErr_ok h0) W h)
  have hSc := Lib.hid (fun W h h2 => scratch_c ⟨lo, hi, le, ci⟩ hbd A B n5 c m d x who W h h2 hcap (by omega))
  have hSo := Lib.hid (fun W h h2 => scratchOf_c A B n5 c m d x who W h h2 (by omega))
  have hLa := Lib.hid (fun W h => late_c ⟨lo, hi, le, ci⟩ hbd A n5 c x ⟨yw, yt⟩ W h (by omega))
  have hLo := Lib.hid (fun h0 W h => lateOf_c ⟨lo, hi, le, ci⟩ A n5 c x (startsErr_ok h0) ⟨yw, yt⟩ W h)
  have hNm := Lib.hid (fun W h => startNames_c A n5 c x W h (by omega))
  have hGo := Lib.hid (fun A' n' c' W h1 h2 => goneFault_c A' B n' c' m d (x.map Sp.who) who W h1 h2 hcap)
  have hEq := Lib.hid (fun A1 A2 n c m d l W h1 h2 => show Calls Tryz.prog 50 #[.slice A1 n c, .slice A2 m d] W fun e w' => e = .returned (.bool true) ∧ Below W.heap.size W w' from (equalSp_c A1 A2 n c m d l l W h1 h2).mono fun e w' ⟨he, q, hq⟩ => ⟨by rw [he]; simp, by rw [hq]; exact below_drewN (Below.refl _ _) q⟩)
  have hXk := Lib.hid (fun a v (h : X45 A n5 x B m who b4 ⟨lo, hi, le, ci⟩ w8.heap.size ⟨yw, yt⟩ a) hB => X45.keep a v h hB)
  have hXx := Lib.hid (fun v (h : X45 A n5 x B m who b4 ⟨lo, hi, le, ci⟩ w8.heap.size ⟨yw, yt⟩ v) => h.x)
  have hXw := Lib.hid (fun v (h : X45 A n5 x B m who b4 ⟨lo, hi, le, ci⟩ w8.heap.size ⟨yw, yt⟩ v) => h.wh)
  have hXa := Lib.hid (fun v (h : X45 A n5 x B m who b4 ⟨lo, hi, le, ci⟩ w8.heap.size ⟨yw, yt⟩ v) => h.at_)
  have hPS := Lib.hid (fun (h : poolErr ⟨lo, hi, le, ci⟩ ≠ 0) => show startsErr ⟨lo, hi, le, ci⟩ x = poolErr ⟨lo, hi, le, ci⟩ by unfold startsErr; rw [if_pos h])
  have hScE := Lib.hid (show scrErr ⟨lo, hi, le, ci⟩ x who = if startsErr ⟨lo, hi, le, ci⟩ x ≠ 0 then startsErr ⟨lo, hi, le, ci⟩ x else goneErr (x.map Sp.who) who from rfl)
  have hLaE := Lib.hid (show lateErr ⟨lo, hi, le, ci⟩ x ⟨yw, yt⟩ = if startsErr ⟨lo, hi, le, ci⟩ x ≠ 0 then startsErr ⟨lo, hi, le, ci⟩ x else if seedErr [⟨yw, yt⟩] ≠ 0 then seedErr [⟨yw, yt⟩] else if Lib.containsS (x.map Sp.who) yw = true then 6 else 0 by
    unfold lateErr
    rw [if_neg (c := 300 ≤ x.length) (by have := hx8.len; omega)])
  have hLQ := Lib.hid (fun L b (h : LateQ ⟨lo, hi, le, ci⟩ x ⟨yw, yt⟩ L b) (he : lateErr ⟨lo, hi, le, ci⟩ x ⟨yw, yt⟩ ≠ 0) => show L = [] ∧ b = false by unfold LateQ at h; rw [if_pos he] at h; exact h)
  have hLD := Lib.hid (fun L1 L2 b1 b2 h0 hs h1 h2 => late_det (p := ⟨lo, hi, le, ci⟩) (l := x) (sd := ⟨yw, yt⟩) (L1 := L1) (L2 := L2) (b1 := b1) (b2 := b2) h0 hs h1 h2)
  have hxl := Lib.hid hx8.len
  have hor := Lib.hid (show orV [seedErr [⟨yw, yt⟩], whenE (Lib.containsS (x.map Sp.who) yw) 6] = if seedErr [⟨yw, yt⟩] ≠ 0 then seedErr [⟨yw, yt⟩] else if Lib.containsS (x.map Sp.who) yw = true then 6 else 0 by rw [orV_two]; unfold whenE; rfl)
  dsimp only [Pl.val] at *
  clear hx8 hw8 hp8 hB8 hBn hbd hcap
  generalize X45 A n5 x B m who b4 ⟨lo, hi, le, ci⟩ w8.heap.size ⟨yw, yt⟩ = X at *
  generalize poolErr ⟨lo, hi, le, ci⟩ = PE at *
  generalize startsErr ⟨lo, hi, le, ci⟩ x = SE at *
  generalize scrErr ⟨lo, hi, le, ci⟩ x who = CE at *
  generalize goneErr (x.map Sp.who) who = GE at *
  generalize lateErr ⟨lo, hi, le, ci⟩ x ⟨yw, yt⟩ = LE at *
  generalize LateQ ⟨lo, hi, le, ci⟩ x ⟨yw, yt⟩ = LQ at *
  generalize LateO ⟨lo, hi, le, ci⟩ x ⟨yw, yt⟩ = LO' at *
  generalize emptyL ⟨lo, hi, le, ci⟩ x = EL at *
  generalize scrL who x = SL at *
  obtain ⟨z0', z1, z2, z3, y0, y1⟩ := hXa.out _ K.x
  go_wp2_with fail
  refine (hPF.out _).mono ?_; rintro e wN ⟨rfl, BN⟩
  replace K := K.below BN
  clear z0' z1 z2 z3 y0 y1 BN hPF
  obtain ⟨z0', z1, z2, z3, y0, y1⟩ := hXa.out _ K.x
  go_upto_if 42 with (fail)
  generalize w8.heap.size = b8 at *
  go_cut [8] (fun s wx => s = .int .i64 SE ∧ KX w X wx)
  case first =>
    by_cases hP : PE = 0
    · have hSF' := Lib.hid (fun W h => hSF.out hP W h)
      subst hP
      clear hPS hSF
      go_wp2_with fail
      refine (hSF'.out _ (hXx.out _ K.x)).mono ?_; rintro e wM ⟨rfl, BM⟩
      replace K := K.below BM
      clear z0' z1 z2 z3 y0 y1 BM
      go_wp2
      go_meet
      case rel => exact ⟨rfl, K⟩
    · have dP : (PE == 0) = false := beq_eq_false_iff_ne.2 hP
      have e9 := Lib.hid (hPS.out hP)
      clear hP hPS hSF
      go_wp2
      go_meet
      case rel => first | exact ⟨by rw [e9.out], K⟩ | exact ⟨_, ⟨by rw [e9.out], K⟩, rfl⟩
  case rest =>
    clear K hPS hSF z0' z1 z2 z3 y0 y1
    rename World => wx
    obtain ⟨rfl, K⟩ := hcut
    obtain ⟨z0', z1, z2, z3, y0, y1⟩ := hXa.out _ K.x
    by_cases hS : SE = 0
    rotate_left
    · have dS : (SE != 0) = true := by simpa using hS
      have dS2 : (SE == 0) = false := beq_eq_false_iff_ne.2 hS
      have eC : CE = SE := by rw [hScE.out, if_pos hS]
      have eL : LE = SE := by rw [hLaE.out, if_pos hS]
      subst eC eL
      rw [if_neg hS] at hEm hSc
      have hLQ' := Lib.hid (fun L b h => hLQ.out L b h hS)
      clear hScE hLaE hLQ hLD hEo hSo hLo hNm hGo hS
      go_wp2_with fail
      refine (hEm.out _ (hXx.out _ K.x)).mono ?_; rintro e wN ⟨A1, n1, c1, rfl, r1, _, _, BN⟩
      obtain rfl : n1 = 0 := by rw [← r1.len]; rfl
      replace K := K.below BN
      clear z0' z1 z2 z3 y0 y1 BN r1
      obtain ⟨z0', z1, z2, z3, y0, y1⟩ := hXa.out _ K.x
      go_wp2_with fail
      refine (hSc.out _ (hXx.out _ K.x) (hXw.out _ K.x)).mono ?_; rintro e wN ⟨A2, n2, c2, rfl, r2, _, _, BN⟩
      obtain rfl : n2 = 0 := by rw [← r2.len]; rfl
      replace K := K.below BN
      clear z0' z1 z2 z3 y0 y1 BN r2
      obtain ⟨z0', z1, z2, z3, y0, y1⟩ := hXa.out _ K.x
      go_wp2_with fail
      refine (hLa.out _ (hXx.out _ K.x)).mono ?_; rintro e wN ⟨A3, n3, c3, b3, L3, rfl, r3, q3, _, BN⟩
      obtain ⟨rfl, rfl⟩ := hLQ'.out _ _ q3
      obtain rfl : n3 = 0 := by rw [← r3.len]; rfl
      replace K := K.below BN
      clear z0' z1 z2 z3 y0 y1 BN r3 q3
      obtain ⟨z0', z1, z2, z3, y0, y1⟩ := hXa.out _ K.x
      go_wp2_with fail
      refine (hCS.out _ (hXx.out _ K.x)).mono ?_; rintro e wN ⟨rfl, BN⟩
      replace K := K.below BN
      clear z0' z1 z2 z3 y0 y1 BN
      go_wp2_with (go_at_call 49; refine (heated_c _).mono ?_; rintro e wN ⟨rfl, BN⟩; replace K := K.below BN)
      have hbel := K.bel
      go_ret
      exact ⟨rfl, hbel⟩
    · have hEo' := Lib.hid (fun W h => hEo.out hS W h)
      have hLo' := Lib.hid (fun W h => hLo.out hS W h)
      have hLD' := Lib.hid (fun L1 L2 b1 b2 h0 h1 h2 => hLD.out L1 L2 b1 b2 h0 hS h1 h2)
      have eC : CE = GE := by rw [hScE.out, if_neg (by simpa using hS)]
      rw [if_neg (by simpa using hS)] at hLaE
      rw [if_pos hS] at hEm
      subst hS eC
      clear hScE hEo hLo hLD
      go_wp2_with fail
      refine (hEm.out _ (hXx.out _ K.x)).mono ?_; rintro e wN ⟨A1, n1, c1, rfl, r1, _, _, BN⟩
      replace K := (K.below BN).add (Y := fun v => RSp v A1 n1 EL) r1 (fun _ _ h B => h.below B)
      clear z0' z1 z2 z3 y0 y1 BN r1
      obtain ⟨z0', z1, z2, z3, y0, y1⟩ := hXa.out _ K.x.1
      go_wp2_with fail
      refine (hSc.out _ (hXx.out _ K.x.1) (hXw.out _ K.x.1)).mono ?_; rintro e wN ⟨A2, n2, c2, rfl, r2, _, _, BN⟩
      replace K := (K.below BN).add (Y := fun v => RSp v A2 n2 (if CE = 0 then SL else [])) r2 (fun _ _ h B => h.below B)
      clear z0' z1 z2 z3 y0 y1 BN r2
      obtain ⟨z0', z1, z2, z3, y0, y1⟩ := hXa.out _ K.x.1.1
      go_wp2_with fail
      refine (hLa.out _ (hXx.out _ K.x.1.1)).mono ?_; rintro e wN ⟨A3, n3, c3, b3, L3, rfl, r3, q3, _, BN⟩
      have q3' := Lib.hid q3
      replace K := (K.below BN).add (Y := fun v => RSp v A3 n3 L3) r3 (fun _ _ h B => h.below B)
      clear z0' z1 z2 z3 y0 y1 BN r3 q3
      obtain ⟨z0', z1, z2, z3, y0, y1⟩ := hXa.out _ K.x.1.1.1
      go_wp2_with fail
      refine (hCS.out _ (hXx.out _ K.x.1.1.1)).mono ?_; rintro e wN ⟨rfl, BN⟩
      replace K := K.below BN
      clear z0' z1 z2 z3 y0 y1 BN
      obtain ⟨z0', z1, z2, z3, y0, y1⟩ := hXa.out _ K.x.1.1.1
      go_wp2_with (first
        | (go_at_call 51; refine (hEo'.out _ (hXx.out _ K.x.1.1.1)).mono ?_; rintro e wN ⟨A4, n4, c4, rfl, r4, _, _, BN⟩; replace K := K.below BN; clear z0' z1 z2 z3 y0 y1 BN; obtain ⟨z0', z1, z2, z3, y0, y1⟩ := hXa.out _ K.x.1.1.1)
        | (go_at_call 50; refine (hEq.out A1 A4 n1 c1 n4 c4 EL _ K.x.1.1.2 r4).mono ?_; rintro e wN ⟨rfl, BN⟩; replace K := K.below BN; clear z0' z1 z2 z3 y0 y1 BN r4; obtain ⟨z0', z1, z2, z3, y0, y1⟩ := hXa.out _ K.x.1.1.1))
      refine (hNm.out _ (hXx.out _ K.x.1.1.1)).mono ?_; rintro e wN ⟨A5, n6, c6, rfl, r5, BN⟩
      replace K := K.below BN
      clear z0' z1 z2 z3 y0 y1 BN
      go_wp2_with fail
      refine (hGo.out A5 n6 c6 _ r5 (hXw.out _ K.x.1.1.1)).mono ?_; rintro e wM ⟨rfl, rfl⟩
      clear r5
      go_upto_region 18 with (fail)
      go_cut [142] (fun s wx => s = .bool false ∧ KX w (fun v => X v ∧ RSp v A3 n3 L3) wx)
      case first =>
        by_cases hG : CE = 0
        · rw [if_pos hG] at K
          subst hG
          go_wp2_with (first
            | (go_at_call 53; refine (hSo.out _ (hXx.out _ K.x.1.1.1) (hXw.out _ K.x.1.1.1)).mono ?_; rintro e wO ⟨A8, n8, c8, rfl, o8, hn8, BO⟩; replace K := K.below BO; have r8 : RSp wO A8 n8 SL := RN.of_own spE_len o8 (own_len spE_len (by decide) o8) (by omega); clear o8 BO)
            | (go_at_call 50; refine (hEq.out A2 A8 n2 c2 n8 c8 SL _ K.x.1.2 r8).mono ?_; rintro e wO ⟨rfl, BO⟩; replace K := K.below BO; clear r8 BO))
          go_meet
          case rel => exact ⟨rfl, K.weak (Y := fun v => X v ∧ RSp v A3 n3 L3) (fun v h => ⟨h.1.1.1, h.2⟩) (fun a b q B => ⟨hXk.out _ _ q.1 B, q.2.below B⟩)⟩
        · rw [if_neg hG] at K
          have dG : (CE == 0) = false := beq_eq_false_iff_ne.2 hG
          have dG2 : (CE != 0) = true := by simpa using hG
          obtain rfl : n2 = 0 := by rw [← K.x.1.2.len]; rfl
          clear hG
          go_wp2
          go_meet
          case rel => exact ⟨rfl, K.weak (Y := fun v => X v ∧ RSp v A3 n3 L3) (fun v h => ⟨h.1.1.1, h.2⟩) (fun a b q B => ⟨hXk.out _ _ q.1 B, q.2.below B⟩)⟩
      case rest =>
        clear K
        rename World => wy
        obtain ⟨rfl, K⟩ := hcut
        obtain ⟨_, _, _, _, y0, y1⟩ := hXa.out _ K.x.1
        clear hEm hSc hSo hEo' hGo hCS
        go_wp2_with fail
        go_region_held3 (fun w' => w'.cell? ⟨b8, 0, none⟩ = some (.string yw) ∧ w'.cell? ⟨b8, 1, none⟩ = some (.int .i64 yt))
          (first | go_keep | with_reducible exact ⟨y20, y21⟩ | with_reducible exact ⟨y10, y11⟩)
          (first
            | (go_at_call 15; refine (seedsFault_c _ 1 1 [⟨yw, yt⟩] _ (oneSeed wy.drew ⟨yw, yt⟩)).mono ?_; rintro e w11 ⟨rfl, B11⟩; have K11 := ((K.below (below_drewN (Below.refl _ _) 1)).below (below_new wy.drew (.cells #[.string yw, .int .i64 yt] 40))).below B11; obtain ⟨_, _, _, _, y10, y11⟩ := hXa.out _ K11.x.1)
            | (go_at_call 40; refine (hNm.out _ (hXx.out _ K11.x.1)).mono ?_; rintro e w12 ⟨A6, n7, c7, rfl, r6, B12⟩; have K12 := K11.below B12; obtain ⟨_, _, _, _, y20, y21⟩ := hXa.out _ K12.x.1)
            | (go_at_call 54; refine (containsN_c A6 n7 c7 _ yw _ r6).mono ?_; rintro e w13 ⟨rfl, rfl⟩)
            | (go_at_call 22; refine (when45_c _ 6 _).mono ?_; rintro e w14 ⟨rfl, rfl⟩)
            | (go_at_call 14; refine (orE_c _ _ _ [_, _] _ (R1.litAt _ _ _ [_, _] (by first | rfl | simp) rfl (by simp))).mono ?_; rintro e w15 ⟨rfl, rfl⟩; have K15 := K12.below (below_new _ (.cells #[.int .i64 (seedErr [⟨yw, yt⟩]), .int .i64 (whenE (Lib.containsS (x.map Sp.who) yw) 6)] 30))))
        rw [hor.out, ← hLaE.out]
        have hLa0 := Lib.hid (show LE = LE from rfl)
        clear hor hNm y0 y1 y10 y11 y20 y21 r6 K K11 K12 B11 B12 hLaE
        by_cases hL : LE = 0
        rotate_left
        · have dL : (LE != 0) = true := by simpa using hL
          have dL2 : (LE == 0) = false := beq_eq_false_iff_ne.2 hL
          obtain ⟨rfl, rfl⟩ := hLQ.out _ _ q3'.out hL
          obtain rfl : n3 = 0 := by rw [← K15.x.2.len]; rfl
          clear hL hLD' hLo' hLQ hLa hEq
          go_wp2_with (go_at_call 49; refine (heated_c _).mono ?_; rintro e wO ⟨rfl, BO⟩; replace K15 := K15.below BO)
          have hbel := K15.bel
          go_ret
          exact ⟨rfl, hbel⟩
        · subst hL
          obtain ⟨z0', z1, z2, z3, y0, y1⟩ := hXa.out _ K15.x.1
          clear hLQ hLa
          go_wp2_with fail
          refine (hLo'.out _ (hXx.out _ K15.x.1)).mono ?_; rintro e wO ⟨A9, n9, c9, b9, L9, rfl, r9, q9, _, BO⟩
          obtain ⟨rfl, rfl⟩ := hLD'.out _ _ _ _ (by simp) q3'.out q9
          have K16 := K15.below BO
          clear z0' z1 z2 z3 y0 y1 K15 BO q9 hLD' hLo'
          cases b3
          all_goals
            go_wp2_with (first
              | (go_at_call 50; refine (hEq.out A3 A9 n3 c3 n9 c9 L3 _ K16.x.2 r9).mono ?_; rintro e wP ⟨rfl, BP⟩; replace K16 := K16.below BP; clear r9 BP)
              | (go_at_call 49; refine (heated_c _).mono ?_; rintro e wP ⟨rfl, BP⟩; replace K16 := K16.below BP; clear BP))
            have hbel := K16.bel
            go_ret
            exact ⟨rfl, hbel⟩
end Go.Proofs.YtffhobmkbabllaaGreatDoor
