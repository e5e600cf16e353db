/- TopFinalsAreRanks: who swims the finals has the rank that the times of the heats give, and swims them in the lanes of a pool once: the walk. -/
import Derived.Test.YtcmfgmdkdpadjaaGreatDoorP31
import Derived.Test.YtcmfgmdkdpadjaaGreatDoorPoolM
import Derived.Test.YtcmfgmdkdpadjaaGreatDoorReady4
import Derived.Test.YtcmfgmdkdpadjaaGreatDoorMovedM
import Derived.Test.YtcmfgmdkdpadjaaGreatDoorDraws
namespace Go.Proofs.YtcmfgmdkdpadjaaGreatDoor
open Go.RowKit
set_option linter.unusedVariables false

set_option maxRecDepth 100000 in
set_option maxHeartbeats 1600000 in
theorem h31_c (w : World) : Calls Tryz.prog 59 #[] w fun e w' => e = .returned (.bool true) ∧ Below w.heap.size w w' := by
  go_enter Tryz.func59, Tryz.ntmps59
  go_wp2_with fail
  refine (write12_c _).mono ?_; rintro e w1 ⟨rfl, B1⟩
  go_wp2_with fail
  refine (lanes_c _).mono ?_; rintro e w2 ⟨A2, n2, c2, rfl, hr2, B2⟩
  have hB2 := below_next B1 B2
  have hn2 := hr2.len
  simp only [List.length_cons, List.length_nil] at hn2
  subst hn2
  go_wp2_with fail
  refine (rankA_c _ _ (heap_alloc_new w2 _)).mono ?_; rintro e w4 ⟨A4, c4, rfl, hown4, B4⟩
  have hr4 := (hr2.alloc _).below B4
  have hB4 := below_next hB2 (below_box B4)
  clear hr2 hB2 B4 hown4 B1 B2
  go_wp2_with fail
  refine (equal_c _ _ _ _ _ _ _ _ _ (hr4.alloc _) (R1.lit (enc := Value.int .i64) (e := 3) w4 #[.int .i64 3, .int .i64 4, .int .i64 2, .int .i64 5, .int .i64 1] [3, 4, 2, 5, 1] rfl (le_big (by decide)))).mono ?_; rintro e w5 ⟨rfl, B5⟩
  rw [show eqB [3, 4, 2, 5, 1] [3, 4, 2, 5, 1] = true from rfl]
  go_wp2
  go_ret
  exact ⟨rfl, below_next hB4 (below_box B5)⟩
structure X31 (A : Option Addr) (n : Nat) (x : List Sd) (b : Nat) (f : Fl) (b' : Nat) (p : Pl) (v : World) : Prop where
  sd : RSd v A n x
  fb : FinB b f v
  pb : PoolB b' p v
theorem X31.keep {A : Option Addr} {n : Nat} {x : List Sd} {b : Nat} {f : Fl} {b' : Nat} {p : Pl} (a v : World) (h : X31 A n x b f b' p a) (B : Below a.heap.size a v) : X31 A n x b f b' p v := ⟨h.sd.below B, h.fb.keep _ _ B, h.pb.keep _ _ B⟩
set_option maxHeartbeats 12800000 in
set_option maxRecDepth 100000 in
theorem topFinalsAreRanks_walk (a0 : Option Addr) (len0 cap0 : Nat) (z0 : List Int) (w : World) (w0 : IsRow .i64 w a0 len0 cap0 z0) (htab : Tb w) :
    Calls Tryz.prog 6 #[.slice a0 len0 cap0] w fun e w' => e = .returned (.bool true) ∧ Below w.heap.size w w' := by
  have hs := law_start w0
  clear w0
  generalize z0.take len0 = zs at *
  go_enter Tryz.func6, Tryz.ntmps6
  go_wp2_with fail
  have hs' : St (w.alloc (.cells #[.slice a0 len0 cap0, .int .i64 0] 25)) w.heap.size zs 0 := hs
  have hB1 := below_new w (.cells #[.slice a0 len0 cap0, .int .i64 0] 25)
  refine (finalOf_c _ zs 0 _ hs' (by omega)).mono ?_; rintro e w2 ⟨sz, mn, rs, k2, rfl, b0, b1, b2, s2, hk2, g2⟩
  have hB2 := hB1.trans (grown_below g2 (Nat.le_refl _) hB1.size)
  clear hs hs' hB1 g2
  go_wp2_with fail
  refine (poolOf_c _ zs k2 _ s2 (by omega)).mono ?_; rintro e w3 ⟨lo, hi, le, ci, k3, rfl, p0, p1, p2, p3, s3, hk3, g3⟩
  have hB3 := hB2.trans (grown_below g3 (Nat.le_refl _) hB2.size)
  clear s2 g3 hB2
  go_wp2_with fail
  refine (rightSeeds_c _ zs k3 14 _ w s3 (by omega) (by omega) htab hB3 (Nat.le_refl _)).mono ?_; rintro e w4 ⟨A, n, c, x, k4, rfl, hx, hx0, hn, s4, hk4, g4, _⟩
  have hB4 := hB3.trans (grown_below g4 (Nat.le_refl _) hB3.size)
  clear s3 g4 hB3 htab s4
  have hbd : PlBd ⟨lo, hi, le, ci⟩ := ⟨p0, p1⟩
  have hf0 : FinB w4.heap.size ⟨sz, mn, rs⟩ ((w4.alloc (.cells #[.int .i64 sz, .int .i64 mn, .int .i64 rs] 66)).alloc (.cells #[.int .i64 lo, .int .i64 hi, .int .i64 le, .int .i64 ci] 52)) := FinB.keep _ _ (heap_alloc_new w4 _) (below_new _ _)
  have hp0 : PoolB (w4.heap.size + 1) ⟨lo, hi, le, ci⟩ ((w4.alloc (.cells #[.int .i64 sz, .int .i64 mn, .int .i64 rs] 66)).alloc (.cells #[.int .i64 lo, .int .i64 hi, .int .i64 le, .int .i64 ci] 52)) := by
    have := heap_alloc_new (w4.alloc (.cells #[.int .i64 sz, .int .i64 mn, .int .i64 rs] 66)) (.cells #[.int .i64 lo, .int .i64 hi, .int .i64 le, .int .i64 ci] 52)
    rw [alloc_size] at this
    exact this
  have K : KX w (X31 A n x w4.heap.size ⟨sz, mn, rs⟩ (w4.heap.size + 1) ⟨lo, hi, le, ci⟩) ((w4.alloc (.cells #[.int .i64 sz, .int .i64 mn, .int .i64 rs] 66)).alloc (.cells #[.int .i64 lo, .int .i64 hi, .int .i64 le, .int .i64 ci] 52)) := ⟨⟨(hx.alloc _).alloc _, hf0, hp0⟩, X31.keep, (hB4.alloc hB4.size _).alloc (by have := hB4.size; simp; omega) _⟩
  have hFF := Lib.hid (fun W => finalFault_c ⟨sz, mn, rs⟩ W)
  have hPF := Lib.hid (fun W => poolFault_c ⟨lo, hi, le, ci⟩ hbd W)
  have hXf := Lib.hid (fun v (h : X31 A n x w4.heap.size ⟨sz, mn, rs⟩ (w4.heap.size + 1) ⟨lo, hi, le, ci⟩ v) => h.fb.at_)
  have hXp := Lib.hid (fun v (h : X31 A n x w4.heap.size ⟨sz, mn, rs⟩ (w4.heap.size + 1) ⟨lo, hi, le, ci⟩ v) => h.pb.at_)
  have hXs := Lib.hid (fun v (h : X31 A n x w4.heap.size ⟨sz, mn, rs⟩ (w4.heap.size + 1) ⟨lo, hi, le, ci⟩ v) => h.sd)
  have hxl := Lib.hid hx.len
  clear hx hB4 hf0 hp0
  generalize X31 A n x w4.heap.size ⟨sz, mn, rs⟩ (w4.heap.size + 1) ⟨lo, hi, le, ci⟩ = X at *
  dsimp only [Fl.val, Pl.val] at *
  obtain ⟨z0, z1, z2⟩ := hXf.out _ K.x
  obtain ⟨y0, y1, y2, y3⟩ := hXp.out _ K.x
  by_cases h0 : FlOk ⟨sz, mn, rs⟩
  rotate_left
  · rw [show finErr ⟨sz, mn, rs⟩ = 1 from if_neg h0] at hFF
    clear h0
    go_wp2_with (go_at_call 47; refine (hFF.out _).mono ?_; rintro e wN ⟨rfl, BN⟩)
    replace K := K.below BN
    clear BN hFF
    refine (h31_c _).mono ?_; rintro e wM ⟨rfl, BM⟩
    have hB := (K.below BM).bel
    go_wp2
    go_ret
    exact ⟨rfl, hB⟩
  rw [show finErr ⟨sz, mn, rs⟩ = 0 from if_pos h0] at hFF
  by_cases hp : PlOk ⟨lo, hi, le, ci⟩
  rotate_left
  · rw [poolErr_no hp] at hPF
    clear h0 hp
    go_wp2_with (first | (go_at_call 47; refine (hFF.out _).mono ?_; rintro e wN ⟨rfl, BN⟩; replace K := K.below BN; clear y0 y1 y2 y3; obtain ⟨y0, y1, y2, y3⟩ := hXp.out _ K.x) | (go_at_call 32; refine (hPF.out _).mono ?_; rintro e wO ⟨rfl, BO⟩; replace K := K.below BO))
    refine (h31_c _).mono ?_; rintro e wM ⟨rfl, BM⟩
    have hB := (K.below BM).bel
    go_wp2
    go_ret
    exact ⟨rfl, hB⟩
  rw [show poolErr ⟨lo, hi, le, ci⟩ = 0 from if_pos hp] at hPF
  have hFi := Lib.hid (fun W h => finals_c ⟨sz, mn, rs⟩ h0 A n c x W h (by omega) hx0)
  have hlx : x.length ≤ 19 := by rw [hxl.out]; omega
  obtain ⟨_, hso⟩ := seedErr_ok hx0
  have hRk := Lib.hid (fun W h => rankTop_c A none n c 0 0 x [] W h (RN.nil_ _ _ _ _ _) (by omega))
  have hE : rankE x [] = 0 := by unfold rankE; rw [hx0, if_neg (by simp)]; rfl
  rw [hE, show rankD 1 x [] = rankL 1 (faultV []) x from if_pos hE] at hRk
  have hok := plcV_ok h0 hx0 hlx
  have hrp := Lib.hid (fun i y h => ranks_places (f := ⟨sz, mn, rs⟩) h0 (l := x) (fun z hz => (hso z hz).2.1) (i := i) (y := y) h)
  have hFS := Lib.hid (fun A1 n1 c1 W h => finalStarts_c ⟨lo, hi, le, ci⟩ hp hbd ⟨sz, mn, rs⟩ h0 A1 n1 c1 _ hok W h)
  have hFo := Lib.hid (fun D hfull hD => finalStarts_ok (D := D) hp h0 hok hfull hD)
  have hCS := Lib.hid (fun A1 n1 c1 D W h => checkStarts_c ⟨lo, hi, le, ci⟩ hbd A1 n1 c1 D W h)
  have hpl := Lib.hid hok.big
  obtain ⟨⟨f0, f1⟩, _⟩ := h0
  obtain ⟨⟨q0, q1⟩, q2, _⟩ := hp
  unfold RetFs at hFS
  dsimp only [Fl.val, Pl.val] at *
  generalize plcV ⟨sz, mn, rs⟩ x = P at *
  generalize rankL 1 (faultV []) x = R at *
  have w1' : IntKind.i64.wrap (hi - lo) = hi - lo := IntWalk.i64_in _ (by omega)
  have w2' : IntKind.i64.wrap (hi - lo + 1) = hi - lo + 1 := IntWalk.i64_in _ (by omega)
  clear hok hso hlx hE hbd b0 b1 b2 p0 p1 p2 p3
  go_wp2_with (first | (go_at_call 47; refine (hFF.out _).mono ?_; rintro e wN ⟨rfl, BN⟩; replace K := K.below BN; clear y0 y1 y2 y3 z0 z1 z2 BN; obtain ⟨y0, y1, y2, y3⟩ := hXp.out _ K.x) | (go_at_call 32; refine (hPF.out _).mono ?_; rintro e wO ⟨rfl, BO⟩; replace K := K.below BO; clear y0 y1 y2 y3 BO; obtain ⟨y0, y1, y2, y3⟩ := hXp.out _ K.x; obtain ⟨z0, z1, z2⟩ := hXf.out _ K.x))
  refine (hFi.out _ (hXs.out _ K.x)).mono ?_; rintro e wP ⟨A1, n1, c1, rfl, hP, hn1, BN⟩
  have hPn := Lib.hid hP.len
  have K2 := (K.below BN).add (Y := fun v => RPc v A1 n1 P) hP (fun _ _ h B => h.below B)
  clear K BN hFi y0 y1 y2 y3 z0 z1 z2 hP hFF hPF
  go_wp2_with fail
  refine (hRk.out _ (hXs.out _ K2.x.1)).mono ?_; rintro e wR ⟨A2, n2, c2, rfl, hR, BR, _⟩
  have hRn := Lib.hid hR.len
  have K3 := (K2.below BR).add (Y := fun v => RRk v A2 n2 R) hR (fun _ _ h B => h.below B)
  clear K2 BR hRk hR
  go_wp2_with fail
  go_loopw [11, 52] (fun sw i wr => ∃ k : Nat, k ≤ n1 ∧ i = .int .i64 k ∧ sw = .int .i64 (((P.take k).filter fun y => decide (0 < y.fin)).length : Nat) ∧ KX w (fun v => (X v ∧ RPc v A1 n1 P) ∧ RRk v A2 n2 R) wr) (fun _ i _ => n1 - (intOf i).toNat)
  case atStart => exact ⟨0, Nat.zero_le _, rfl, rfl, K3⟩
  case round =>
    clear K3
    obtain ⟨k, hk, rfl, rfl, K⟩ := hrel
    have hsl : ((P.take k).filter fun y => decide (0 < y.fin)).length ≤ k := by have := List.length_filter_le (fun y : Pc => decide (0 < y.fin)) (P.take k); rw [List.length_take] at this; omega
    have hn300 : n1 ≤ 300 := by have := hpl.out; rw [hPn.out] at this; exact this
    by_cases hlt : k < n1
    · obtain ⟨b, off, y, rfl, hbl, hy, c0, c1', c2'⟩ := RPc_at3 K.x.1.2 hlt
      obtain ⟨r, hr, hrw, hrr⟩ := hrp.out k y hy
      have hkR : k < n2 := by rw [← hRn.out]; exact lt_of_at hr
      have hsn := Lib.hid (show ((P.take (k + 1)).filter fun y => decide (0 < y.fin)).length = ((P.take k).filter fun y => decide (0 < y.fin)).length + if 0 < y.fin then 1 else 0 by
        rw [List.take_add_one, hy, List.filter_append, List.length_append]
        congr 1
        by_cases h : 0 < y.fin <;> simp [h])
      have K5 := K.below (below_new wr (.cells #[.string y.who, .int .i64 y.fin, .int .i64 y.rk] 79))
      obtain ⟨br, or, r', hAr, _, hr', d0, d1, d2, d3⟩ := RRk.at4 K5.x.2 hkR
      rw [hr] at hr'
      obtain rfl := Option.some.inj hr'
      rw [hrw] at d0
      rw [hrr] at d1
      subst hAr
      obtain ⟨who, fin, rk⟩ := y
      dsimp only at *
      have x0 := (blk_facts (heap_alloc_new wr (.cells #[.string who, .int .i64 fin, .int .i64 rk] 79))).1 0
      have x1 := (blk_facts (heap_alloc_new wr (.cells #[.string who, .int .i64 fin, .int .i64 rk] 79))).1 1
      have x2 := (blk_facts (heap_alloc_new wr (.cells #[.string who, .int .i64 fin, .int .i64 rk] 79))).1 2
      have e8 : decide (n2 ≤ k) = false := decide_eq_false (by omega)
      have e9 : decide ((n2 : Int) ≤ (k : Int)) = false := decide_eq_false (by omega)
      have u0 : (0 : Int) ≤ (k : Int) := by omega
      have u1 : (k : Int) < (n2 : Int) := by omega
      clear hy hr hrw hrr hr' K
      generalize ((P.take k).filter fun y => decide (0 < y.fin)).length = S at *
      go_wp2_with fail
      go_quiet (fail)
      clear e8 e9 d0 d1 d2 d3 c0 c1' c2'
      by_cases hq : 0 < fin
      · have hs2 := Lib.hid (show ((P.take (k + 1)).filter fun y => decide (0 < y.fin)).length = S + 1 by rw [hsn.out, if_pos hq])
        have e1 : IntKind.i64.wrap ((S : Int) + 1) = (S : Int) + 1 := IntWalk.i64_in _ (by omega)
        clear hsn
        go_wp2
        go_roundw
        case rel => exact ⟨k + 1, by omega, by go_num, by rw [hs2.out]; push_cast; rfl, K5.drewN _⟩
        case measure => simp [intOf]; omega
      · have hs2 := Lib.hid (show ((P.take (k + 1)).filter fun y => decide (0 < y.fin)).length = S by rw [hsn.out, if_neg hq]; rfl)
        clear hsn
        go_wp2
        go_roundw
        case rel => exact ⟨k + 1, by omega, by go_num, by rw [hs2.out], K5.drewN _⟩
        case measure => simp [intOf]; omega
    · obtain rfl : k = n1 := by omega
      have hPt : P.take k = P := List.take_of_length_le (by rw [hPn.out]; exact Nat.le_refl _)
      rw [hPt] at hsl ⊢
      obtain ⟨y0, y1, y2, y3⟩ := hXp.out _ K.x.1.1
      obtain ⟨z0, z1, z2⟩ := hXf.out _ K.x.1.1
      clear hPt hrp
      go_wp2_with fail
      refine (hFS.out A1 k c1 _ K.x.1.2).mono ?_; rintro e wF ⟨A3, n3, c3, D, EE, rfl, hRD, hcase, BF⟩
      have K4 := (K.below BF).add (Y := fun v => RSp v A3 n3 D) hRD (fun _ _ h B => h.below B)
      have hDl := hRD.len
      clear K BF hRD hFS y0 y1 y2 y3 z0 z1 z2
      obtain ⟨y0, y1, y2, y3⟩ := hXp.out _ K4.x.1.1.1
      obtain ⟨z0, z1, z2⟩ := hXf.out _ K4.x.1.1.1
      rcases hcase with ⟨hfull, rfl⟩ | ⟨hfull, rfl, hSD⟩
      · clear hFo hCS hDl
        go_wp2_with (go_at_call 59; refine (h31_c _).mono ?_; rintro e wM ⟨rfl, BM⟩)
        have hB := (K4.below BM).bel
        go_ret
        exact ⟨rfl, hB⟩
      · obtain ⟨hs1, hs2⟩ := hFo.out D hfull hSD
        have hCk := Lib.hid (fun W h => hCS.out A3 n3 c3 D W h)
        rw [hs1] at hCk
        have e2 : n3 = (P.filter fun y => decide (0 < y.fin)).length := by rw [← hDl, hs2]
        have hff : ¬ hi - lo + 1 < sz := by omega
        clear hFo hCS hs1 hs2 hDl hSD hsl
        generalize (P.filter fun y => decide (0 < y.fin)).length = S at *
        subst e2
        go_wp2_with (first
          | (go_at_call 62; refine (hCk.out _ K4.x.2).mono ?_; rintro e wC ⟨rfl, BC⟩; replace K4 := K4.below BC)
          | (go_at_call 59; refine (h31_c _).mono ?_; rintro e wM ⟨rfl, BM⟩))
        have hB := (K4.below BM).bel
        go_ret
        exact ⟨rfl, hB⟩
end Go.Proofs.YtcmfgmdkdpadjaaGreatDoor
