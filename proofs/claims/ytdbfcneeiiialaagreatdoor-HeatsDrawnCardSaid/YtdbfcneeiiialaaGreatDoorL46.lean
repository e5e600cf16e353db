/- HeatsDrawn: Draw and Again are as specified for all pools and seeds: the walk. Printed by wip/mkl46.py. -/
import Derived.Test.YtdbfcneeiiialaaGreatDoorAgnM
import Derived.Test.YtdbfcneeiiialaaGreatDoorPoolM
import Derived.Test.YtdbfcneeiiialaaGreatDoorSeedM
import Derived.Test.YtdbfcneeiiialaaGreatDoorSizeM
import Derived.Test.YtdbfcneeiiialaaGreatDoorStaN
import Derived.Test.YtdbfcneeiiialaaGreatDoorFill
import Derived.Deep.RegionHeld3
namespace Go.Proofs.YtdbfcneeiiialaaGreatDoor
open Go.RowKit Go.Shelf Go.Lib Go.Sort
set_option linter.unusedVariables false

def bothE (p : Pl) (l : List Sd) : Int := if poolErr p ≠ 0 then poolErr p else seedErr l
def agErr (p : Pl) (l : List Sd) (who : List ByteArray) : Int := if bothE p l ≠ 0 then bothE p l else goneErr (l.map Sd.who) who
theorem bothE_ok {p : Pl} {l : List Sd} (h : bothE p l = 0) : PlOk p ∧ seedErr l = 0 := by
  unfold bothE at h
  split at h
  · rename_i h1; exact absurd h h1
  · rename_i h1; exact ⟨poolErr_ok (Decidable.not_not.1 h1), h⟩
theorem agErr_ok {p : Pl} {l : List Sd} {who : List ByteArray} (h : agErr p l who = 0) : bothE p l = 0 ∧ goneErr (l.map Sd.who) who = 0 := by
  unfold agErr at h
  split at h
  · rename_i h1; exact absurd h h1
  · rename_i h1; exact ⟨Decidable.not_not.1 h1, h⟩
theorem checkBothE_c (p : Pl) (hb : PlBd p) (A : Option Addr) (n c : Nat) (l : List Sd) (w : World) (h : RSd w A n l) :
    Calls Tryz.prog 119 #[p.val, .slice A n c] w fun e w' => e = .returned (.int .i64 (bothE p l)) ∧ Below w.heap.size w w' := by
  by_cases hp : PlOk p
  · have e : bothE p l = seedErr l := by unfold bothE; rw [show poolErr p = 0 from if_pos hp, if_neg (by simp)]
    rw [e]
    exact checkBothH_c p hp A n c l w h
  have e : bothE p l = 1 := by unfold bothE; rw [show poolErr p = 1 from if_neg hp]; rfl
  have hB0 := below_new w (.cells p.cells 97)
  have hp0 : PoolB w.heap.size p (w.alloc (.cells p.cells 97)) := heap_alloc_new w _
  have hCP := Lib.hid (fun W => checkPool_c p hb W)
  rw [show poolErr p = 1 from if_neg hp] at hCP
  obtain ⟨z0, z1, z2, z3⟩ := hp0.at_
  rw [e]
  clear hp e hp0 h hb
  obtain ⟨lo, hi, le, ci⟩ := p
  dsimp only [Pl.val, Pl.cells] at *
  go_enter Tryz.func119, Tryz.ntmps119
  go_wp2_with fail
  refine (hCP.out _).mono ?_; rintro e w1 ⟨rfl, B1⟩
  have hB1 := below_next hB0 B1
  clear hCP z0 z1 z2 z3 hB0 B1
  go_wp2
  go_ret
  exact ⟨rfl, hB1⟩
def RetDA (w : World) (E : Int) (D : List Sp) (e : Ending) (w' : World) : Prop := ∃ A n c, e = .returned (.tuple #[.slice A n c, .int .i64 E]) ∧ RSp w' A n D ∧ Below w.heap.size w w'
def RetAA (w : World) (E : Int) (D : List Sp) (M : Nat) (e : Ending) (w' : World) : Prop := ∃ A n c, e = .returned (.tuple #[.slice A n c, .int .i64 (M : Nat), .int .i64 E]) ∧ RSp w' A n D ∧ Below w.heap.size w w'
set_option maxRecDepth 100000 in
theorem drawA_c (p : Pl) (hb : PlBd p) (A : Option Addr) (n c : Nat) (l : List Sd) (w : World) (h : RSd w A n l) (hn : n < 40) (D : List Sp) (hD : bothE p l = 0 → Drw p l D) (hD0 : bothE p l ≠ 0 → D = []) :
    Calls Tryz.prog 49 #[p.val, .slice A n c] w (RetDA w (bothE p l) D) := by
  by_cases h0 : bothE p l = 0
  · obtain ⟨hp, hs⟩ := bothE_ok h0
    obtain ⟨R, hR, hDs⟩ := hD h0
    rw [h0]
    refine (drawTop_c p hp A n c l w h hs hn R (by rw [← h.len]; exact hR)).mono ?_
    rintro e w' ⟨A', n', c', D2, h1, h2, h3, h4⟩
    obtain rfl := Drw.uniq hp hs (by rw [h.len]; exact hn) hR hDs h3
    exact ⟨A', n', c', h1, h2, h4⟩
  rw [hD0 h0]
  have hB0 := below_new w (.cells p.cells 97)
  have hp0 : PoolB w.heap.size p (w.alloc (.cells p.cells 97)) := heap_alloc_new w _
  have hCB := Lib.hid (fun W h => checkBothE_c p hb A n c l W h)
  obtain ⟨z0, z1, z2, z3⟩ := hp0.at_
  have hr := h.below hB0
  have hd : (bothE p l != 0) = true := by simpa using h0
  clear h hD hD0 h0 hp0 hb
  generalize bothE p l = E at *
  obtain ⟨lo, hi, le, ci⟩ := p
  dsimp only [Pl.val, Pl.cells] at *
  go_enter Tryz.func49, Tryz.ntmps49
  go_wp2_with fail
  refine (hCB.out _ hr).mono ?_; rintro e w1 ⟨rfl, B1⟩
  have hB1 := below_next hB0 B1
  clear hCB z0 z1 z2 z3 hr hB0 B1
  go_wp2
  go_ret2
  exact ⟨none, 0, 0, rfl, RN.nil_ _ _ _ _ _, hB1⟩
set_option maxRecDepth 100000 in
theorem againA_c (p : Pl) (hb : PlBd p) (A B : Option Addr) (n c m d : Nat) (l : List Sd) (who : List ByteArray) (w : World) (h : RSd w A n l) (hB : RS 9 w B m who) (hcap : (B = none ∧ m = 0 ∧ d = 0) ∨ ∃ b, B = some ⟨b, 0, none⟩ ∧ m ≤ d) (hn : n < 40) (D1 D2 : List Sp) (hD1 : bothE p l = 0 → Drw p l D1) (hD2 : agErr p l who = 0 → Drw p (lessS who l) D2) :
    Calls Tryz.prog 50 #[p.val, .slice A n c, .slice B m d] w (RetAA w (agErr p l who) (if agErr p l who = 0 then D2 else []) (if agErr p l who = 0 then movedN D1 D2 else 0)) := by
  by_cases h0 : agErr p l who = 0
  · obtain ⟨hbo, hg⟩ := agErr_ok h0
    obtain ⟨hp, hs⟩ := bothE_ok hbo
    rw [h0, if_pos rfl, if_pos rfl]
    exact again_c p hp A B n c m d l who w h hB hcap hs hg hn D1 D2 (hD1 hbo) (hD2 h0)
  rw [if_neg h0, if_neg h0]
  have hB1 : Below w.heap.size w ((w.alloc (.cells p.cells 97)).alloc (.cells #[.slice A n c] 26)) := below_next (below_new w (.cells p.cells 97)) (below_new _ (.cells #[.slice A n c] 26))
  have hx0 := heap_alloc_new (w.alloc (.cells p.cells 97)) (.cells #[.slice A n c] 26)
  rw [alloc_size] at hx0
  have hp0 : PoolB w.heap.size p ((w.alloc (.cells p.cells 97)).alloc (.cells #[.slice A n c] 26)) := blk_alloc (heap_alloc_new w _) _
  have hr := h.below hB1
  have hCB := Lib.hid (fun W h => checkBothE_c p hb A n c l W h)
  have hWh := Lib.hid (fun W (B1 : Below w.heap.size w W) (hx : W.heap[w.heap.size + 1]? = some (.cells #[.slice A n c] 26 (0, 0))) => checkWhoG_c 122 (enters_of Tryz.func122 (by kernel_rfl) rfl) #[.pointer (some ⟨w.heap.size + 1, 0, none⟩)] B m d (l.map Sd.who) who W (hB.below B1) hcap (fun s W2 B2 => member46_c A n c l s (w.heap.size + 1) W2 ((h.below B1).below B2) (blk_below hx B2)))
  obtain ⟨z0, z1, z2, z3⟩ := hp0.at_
  have zb := (blk_facts hx0).1 0
  have hE := Lib.hid (show agErr p l who = if bothE p l ≠ 0 then bothE p l else goneErr (l.map Sd.who) who from rfl)
  generalize bothE p l = BE at *
  generalize agErr p l who = AE at *
  generalize goneErr (l.map Sd.who) who = GE at *
  clear h hB hD1 hD2 hp0 hb hcap
  obtain ⟨lo, hi, le, ci⟩ := p
  dsimp only [Pl.val, Pl.cells] at *
  go_enter Tryz.func50, Tryz.ntmps50
  go_wp2_with fail
  refine (hCB.out _ hr).mono ?_; rintro e w1 ⟨rfl, B1⟩
  have hB2 := below_next hB1 B1
  have hx1 := blk_below hx0 B1
  clear hCB z0 z1 z2 z3 zb hr hB1 B1 hx0
  by_cases hbe : BE = 0
  rotate_left
  · have hd : (BE != 0) = true := by simpa using hbe
    have e : BE = AE := by rw [hE.out, if_pos hbe]
    have hbe' := Lib.hid hbe
    have e' := Lib.hid e
    clear hE hbe e h0 hWh
    go_wp2
    go_ret3
    exact ⟨none, 0, 0, by rw [← e'.out]; rfl, RN.nil_ _ _ _ _ _, hB2⟩
  have e : GE = AE := by rw [hE.out, if_neg (not_not_intro hbe)]
  have e' := Lib.hid e
  have hd : (GE != 0) = true := by rw [e]; simpa using h0
  subst hbe
  have zb := (blk_facts hx1).1 0
  clear hE e h0
  go_wp2_with fail
  refine (hWh.out _ hB2 hx1).mono ?_; rintro e w2 ⟨rfl, B2⟩
  have hB3 := below_next hB2 B2
  clear hWh B2 zb hx1
  go_wp2
  go_ret3
  exact ⟨none, 0, 0, by rw [← e'.out]; rfl, RN.nil_ _ _ _ _ _, hB3⟩
set_option maxHeartbeats 12800000 in
set_option maxRecDepth 100000 in
theorem heatsDrawn_walk (a0 : Option Addr) (len0 cap0 : Nat) (z0 : List Int) (w : World) (w0 : IsRow .i64 w a0 len0 cap0 z0) (htab : Tb w) :
    Calls Tryz.prog 7 #[.slice a0 len0 cap0] w fun e w' => e = .returned (.bool true) ∧ Below w.heap.size w w' := by
  have hs := law_start w0
  clear w0
  generalize Zs.mk (z0.take len0) w.heap.size = zs at *
  go_enter Tryz.func7, Tryz.ntmps7
  go_wp2_with fail
  have hs' : St (w.alloc (.cells #[.slice a0 len0 cap0, .int .i64 0] 25)) w.heap.size zs 0 := hs
  have hB1 := below_new w (.cells #[.slice a0 len0 cap0, .int .i64 0] 25)
  refine (poolOf_c _ zs 0 _ hs' (by omega)).mono ?_; rintro e w2 ⟨lo, hi, le, ci, k2, rfl, p0, p1, p2, p3, s2, hk2, g2⟩
  have hB2 := hB1.trans (grown_below g2 (Nat.le_refl _) hB1.size)
  have hbd : PlBd ⟨lo, hi, le, ci⟩ := ⟨p0, p1⟩
  clear hs hs' hB1 g2 p0 p1 p2 p3
  go_wp2_with fail
  refine (seeds_c _ zs k2 30 _ w s2 (by omega) (by omega) htab hB2 (Nat.le_refl _)).mono ?_; rintro e w3 ⟨A, n, c, x, k3, rfl, ho3, hxl0, hn, s3, hk3, g3⟩
  have hx : RSd w3 A n x := RN.of_own sdE_len ho3 hxl0 (by omega)
  have hB3 := hB2.trans (grown_below g3 (Nat.le_refl _) hB2.size)
  clear s2 g3 hB2 htab ho3
  have hb0 : PoolB w3.heap.size ⟨lo, hi, le, ci⟩ (w3.alloc (.cells #[.int .i64 lo, .int .i64 hi, .int .i64 le, .int .i64 ci] 97)) := heap_alloc_new w3 _
  have s4 := s3.alloc (.cells #[.int .i64 lo, .int .i64 hi, .int .i64 le, .int .i64 ci] 97)
  have hx4 := hx.below (below_new w3 (.cells #[.int .i64 lo, .int .i64 hi, .int .i64 le, .int .i64 ci] 97))
  have hB4 := hB3.alloc hB3.size (.cells #[.int .i64 lo, .int .i64 hi, .int .i64 le, .int .i64 ci] 97)
  have hxl := Lib.hid hxl0
  clear hx hB3 s3 hxl0
  go_wp2_with fail
  generalize w3.alloc (.cells #[.int .i64 lo, .int .i64 hi, .int .i64 le, .int .i64 ci] 97) = w4 at *
  generalize w3.heap.size = b4 at *
  refine (seedNames_c A n c x _ hx4 (by omega)).mono ?_; rintro e w5 ⟨A5, n5, c5, rfl, rn5, B5⟩
  obtain rfl : n5 = n := by rw [← rn5.len, List.length_map]; exact hxl.out
  have s5 := s4.below B5
  have hx5 := hx4.below B5
  have hp5 := PoolB.keep _ _ hb0 B5
  have hB5 := below_next hB4 B5
  clear s4 hx4 hb0 hB4 B5
  go_wp2_with fail
  refine (taken_c _ zs k3 n5 c5 A5 _ _ s5 (by omega) (by omega) rn5).mono ?_; rintro e w6 ⟨B, m, d, who, k6, rfl, rw6, hcap, hm, s6, hk6, g6⟩
  have hx6 : RSd w6 A n5 x := hx5.keep (T := 25) (by decide) (s5.keep g6)
  have hp6 : PoolB b4 ⟨lo, hi, le, ci⟩ w6 := (s5.keep g6) _ _ _ _ (by decide) hp5
  have hB6 := hB5.trans (grown_below g6 (Nat.le_refl _) hB5.size)
  have K : KX w (fun v => (RSd v A n5 x ∧ PoolB b4 ⟨lo, hi, le, ci⟩ v) ∧ RS 9 v B m who) w6 := ⟨⟨⟨hx6, hp6⟩, rw6⟩, fun a b q B => ⟨⟨q.1.1.below B, PoolB.keep _ _ q.1.2 B⟩, q.2.below B⟩, hB6⟩
  clear s5 hx5 hp5 hB5 g6 rn5 s6 hx6 hp6 hB6 rw6 hk2 hk3 hk6
  have hn40 : x.length < 40 := by rw [hxl.out]; omega
  obtain ⟨D1, hD1, hD10⟩ : ∃ D1, (bothE ⟨lo, hi, le, ci⟩ x = 0 → Drw ⟨lo, hi, le, ci⟩ x D1) ∧ (bothE ⟨lo, hi, le, ci⟩ x ≠ 0 → D1 = []) := by
    by_cases h : bothE ⟨lo, hi, le, ci⟩ x = 0
    · obtain ⟨hp, hs⟩ := bothE_ok h
      obtain ⟨D, hD⟩ := Drw.ex hp hs hn40
      exact ⟨D, fun _ => hD, fun h9 => absurd h h9⟩
    · exact ⟨[], fun h9 => absurd h9 h, fun _ => rfl⟩
  obtain ⟨D2, hD2⟩ : ∃ D2, agErr ⟨lo, hi, le, ci⟩ x who = 0 → Drw ⟨lo, hi, le, ci⟩ (lessS who x) D2 := by
    by_cases h : agErr ⟨lo, hi, le, ci⟩ x who = 0
    · obtain ⟨hp, hs⟩ := bothE_ok (agErr_ok h).1
      obtain ⟨D, hD⟩ := Drw.ex hp (less_ok (who := who) hs) (by have := less_len who x; omega)
      exact ⟨D, fun _ => hD⟩
    · exact ⟨[], fun h9 => absurd h9 h⟩
  have hok : bothE ⟨lo, hi, le, ci⟩ x = 0 → PlOk ⟨lo, hi, le, ci⟩ ∧ seedErr x = 0 := bothE_ok
  have hPF := Lib.hid (fun W => poolFault_c ⟨lo, hi, le, ci⟩ hbd W)
  have hSF := Lib.hid (fun W h => seedsFault_c A n5 c x W h)
  have hDr := Lib.hid (fun W h => drawA_c ⟨lo, hi, le, ci⟩ hbd A n5 c x W h (by omega) D1 hD1 hD10)
  have hAg := Lib.hid (fun W h h2 => againA_c ⟨lo, hi, le, ci⟩ hbd A B n5 c m d x who W h h2 hcap (by omega) D1 D2 hD1 hD2)
  have hDo := Lib.hid (fun (h0 : bothE ⟨lo, hi, le, ci⟩ x = 0) W h => drawOfD_c ⟨lo, hi, le, ci⟩ (hok h0).1 A n5 c x W h (hok h0).2 (by omega) D1 (hD1 h0))
  have hbo0 : agErr ⟨lo, hi, le, ci⟩ x who = 0 → bothE ⟨lo, hi, le, ci⟩ x = 0 := fun h => (agErr_ok h).1
  have hAo := Lib.hid (fun (h0 : agErr ⟨lo, hi, le, ci⟩ x who = 0) W h h2 => againOf_c ⟨lo, hi, le, ci⟩ (hok (hbo0 h0)).1 A B n5 c m d x who W h h2 (hok (hbo0 h0)).2 (by omega) D1 D2 (hD1 (hbo0 h0)) (hD2 h0))
  have hNm := Lib.hid (fun W h => seedNames_c A n5 c x W h (by omega))
  have hGo := Lib.hid (fun A' n' c' W h1 h2 => goneFault_c A' B n' c' m d (x.map Sd.who) who W h1 h2 hcap)
  have hEq := Lib.hid (fun A1 A2 n c m d l W h1 h2 => show Calls Tryz.prog 54 #[.slice A1 n c, .slice A2 m d] W fun e w' => e = .returned (.bool true) ∧ Below W.heap.size W w' from (equalSp_c A1 A2 n c m d l l W h1 h2).mono fun e w' ⟨he, q, hq⟩ => ⟨by rw [he]; simp, by rw [hq]; exact below_drewN (Below.refl _ _) q⟩)
  have hBE := Lib.hid (show orV [poolErr ⟨lo, hi, le, ci⟩, seedErr x] = bothE ⟨lo, hi, le, ci⟩ x by rw [orV_two]; rfl)
  have hAE := Lib.hid (show orV [bothE ⟨lo, hi, le, ci⟩ x, goneErr (x.map Sd.who) who] = agErr ⟨lo, hi, le, ci⟩ x who by rw [orV_two]; rfl)
  have hAB := Lib.hid (fun (h : bothE ⟨lo, hi, le, ci⟩ x ≠ 0) => show agErr ⟨lo, hi, le, ci⟩ x who = bothE ⟨lo, hi, le, ci⟩ x by unfold agErr; rw [if_pos h])
  clear hbd hcap hD1 hD2 hok hbo0
  have hD10' := Lib.hid hD10
  clear hD10
  generalize poolErr ⟨lo, hi, le, ci⟩ = PE at *
  generalize seedErr x = SE at *
  generalize bothE ⟨lo, hi, le, ci⟩ x = BE at *
  generalize goneErr (x.map Sd.who) who = GE at *
  generalize agErr ⟨lo, hi, le, ci⟩ x who = AE at *
  unfold RetDA at hDr
  unfold RetAA at hAg
  obtain ⟨z0, z1, z2, z3⟩ := K.x.1.2.at_
  dsimp only [Pl.val] at *
  go_wp2_with fail
  refine (hPF.out _).mono ?_; rintro e w7 ⟨rfl, B7⟩
  replace K := K.below B7
  clear B7 hPF z0 z1 z2 z3
  go_wp2_with fail
  refine (hSF.out _ K.x.1.1).mono ?_; rintro e w8 ⟨rfl, B8⟩
  replace K := K.below B8
  clear B8 hSF
  go_wp2_with fail
  refine (orE_c _ _ _ [PE, SE] _ (R1.litAt _ _ _ [PE, SE] (by first | rfl | simp) rfl (by simp))).mono ?_; rintro e w10 ⟨rfl, hw⟩
  replace K := K.below (below_new _ (.cells ([PE, SE].map (Value.int .i64)).toArray 30))
  rw [hw] at K
  rw [hBE.out]
  clear hBE hw
  obtain ⟨z0, z1, z2, z3⟩ := K.x.1.2.at_
  dsimp only at z0 z1 z2 z3
  go_wp2_with fail
  refine (hDr.out _ K.x.1.1).mono ?_; rintro e w11 ⟨A8, n8, c8, rfl, r8, B11⟩
  replace K := (K.below B11).add (Y := fun v => RSp v A8 n8 D1) r8 (fun _ _ h B => h.below B)
  clear hDr r8 B11 z0 z1 z2 z3
  obtain ⟨z0, z1, z2, z3⟩ := K.x.1.1.2.at_
  dsimp only at z0 z1 z2 z3
  by_cases ha0 : AE = 0
  · have hb0 : BE = 0 := by
      apply Decidable.byContradiction
      intro h9
      exact h9 (by rw [← hAB.out h9]; exact ha0)
    have hDo' := Lib.hid (hDo.out hb0)
    have hAo' := Lib.hid (hAo.out ha0)
    rw [if_pos ha0, if_pos ha0] at hAg
    clear hDo hAo hAB hD10'
    subst ha0 hb0
    generalize movedN D1 D2 = MV at *
    go_wp2_with fail
    refine (hAg.out _ K.x.1.1.1 K.x.1.2).mono ?_; rintro e w12 ⟨A9, n9, c9, rfl, r9, B12⟩
    replace K := (K.below B12).add (Y := fun v => RSp v A9 n9 D2) r9 (fun _ _ h B => h.below B)
    clear hAg r9 B12 z0 z1 z2 z3
    go_wp2_with fail
    refine (hNm.out _ K.x.1.1.1.1).mono ?_; rintro e w13 ⟨A10, n10, c10, rfl, r10, B13⟩
    replace K := K.below B13
    clear hNm B13
    go_wp2_with fail
    refine (hGo.out A10 n10 c10 _ r10 K.x.1.1.2).mono ?_; rintro e w14 ⟨rfl, rfl⟩
    clear hGo r10
    go_wp2_with fail
    refine (orE_c _ _ _ [0, GE] _ (R1.litAt _ _ _ [0, GE] (by first | rfl | simp) rfl (by simp))).mono ?_; rintro e w16 ⟨rfl, hw⟩
    replace K := K.below (below_new _ (.cells ([0, GE].map (Value.int .i64)).toArray 30))
    rw [hw] at K
    rw [hAE.out]
    clear hAE hw
    obtain ⟨z0, z1, z2, z3⟩ := K.x.1.1.1.2.at_
    dsimp only at z0 z1 z2 z3
    go_wp2_with fail
    refine (hDo'.out _ K.x.1.1.1.1).mono ?_; rintro e w17 ⟨A17, c17, rfl, r17, B17⟩
    replace K := (K.below B17).add (Y := fun v => RSp v A17 n5 D1) r17 (fun _ _ h B => h.below B)
    clear hDo' r17 B17 z0 z1 z2 z3
    obtain ⟨z0, z1, z2, z3⟩ := K.x.1.1.1.1.2.at_
    dsimp only at z0 z1 z2 z3
    go_wp2_with fail
    refine (hAo'.out _ K.x.1.1.1.1.1 K.x.1.1.1.2).mono ?_; rintro e w18 ⟨A18, n18, c18, rfl, r18, B18⟩
    replace K := (K.below B18).add (Y := fun v => RSp v A18 n18 D2) r18 (fun _ _ h B => h.below B)
    clear hAo' r18 B18 z0 z1 z2 z3
    have v1 : ((MV : Int) == (MV : Int)) = true := by simp
    go_wp2_with fail
    refine (hEq.out A8 A17 n8 c8 n5 c17 D1 _ K.x.1.1.1.2 K.x.1.2).mono ?_; rintro e w19 ⟨rfl, B19⟩
    replace K := K.below B19
    clear B19
    go_wp2_with fail
    refine (hEq.out A9 A18 n9 c9 n18 c18 D2 _ K.x.1.1.2 K.x.2).mono ?_; rintro e w20 ⟨rfl, B20⟩
    replace K := K.below B20
    clear B20
    go_wp2_with fail
    refine (heated_c _).mono ?_; rintro e wM ⟨rfl, BM⟩
    have hB := (K.below BM).bel
    go_wp2
    go_ret
    exact ⟨rfl, hB⟩
  · rw [if_neg ha0, if_neg ha0] at hAg
    go_wp2_with fail
    refine (hAg.out _ K.x.1.1.1 K.x.1.2).mono ?_; rintro e w12 ⟨A9, n9, c9, rfl, r9, B12⟩
    replace K := (K.below B12).add (Y := fun v => RSp v A9 n9 []) r9 (fun _ _ h B => h.below B)
    clear hAg r9 B12 z0 z1 z2 z3
    go_wp2_with fail
    refine (hNm.out _ K.x.1.1.1.1).mono ?_; rintro e w13 ⟨A10, n10, c10, rfl, r10, B13⟩
    replace K := K.below B13
    clear hNm B13
    go_wp2_with fail
    refine (hGo.out A10 n10 c10 _ r10 K.x.1.1.2).mono ?_; rintro e w14 ⟨rfl, rfl⟩
    clear hGo r10
    go_wp2_with fail
    refine (orE_c _ _ _ [BE, GE] _ (R1.litAt _ _ _ [BE, GE] (by first | rfl | simp) rfl (by simp))).mono ?_; rintro e w16 ⟨rfl, hw⟩
    replace K := K.below (below_new _ (.cells ([BE, GE].map (Value.int .i64)).toArray 30))
    rw [hw] at K
    rw [hAE.out]
    clear hAE hw
    obtain ⟨z0, z1, z2, z3⟩ := K.x.1.1.1.2.at_
    dsimp only at z0 z1 z2 z3
    have v1 : (AE == 0) = false := beq_eq_false_iff_ne.2 ha0
    have v2 : (AE == AE) = true := by simp
    clear hAo ha0
    by_cases hb0 : BE = 0
    · have hDo' := Lib.hid (hDo.out hb0)
      clear hDo hAB hD10'
      subst hb0
      go_wp2_with fail
      refine (hDo'.out _ K.x.1.1.1.1).mono ?_; rintro e w17 ⟨A17, c17, rfl, r17, B17⟩
      replace K := (K.below B17).add (Y := fun v => RSp v A17 n5 D1) r17 (fun _ _ h B => h.below B)
      clear hDo' r17 B17 z0 z1 z2 z3
      go_wp2_with fail
      refine (hEq.out A8 A17 n8 c8 n5 c17 D1 _ K.x.1.1.2 K.x.2).mono ?_; rintro e w19 ⟨rfl, B19⟩
      replace K := K.below B19
      clear B19
      go_wp2_with fail
      refine (hEq.out A9 none n9 c9 0 0 [] _ K.x.1.2 (RN.nil_ _ _ _ _ _)).mono ?_; rintro e w20 ⟨rfl, B20⟩
      replace K := K.below B20
      clear B20
      go_wp2_with fail
      refine (heated_c _).mono ?_; rintro e wM ⟨rfl, BM⟩
      have hB := (K.below BM).bel
      go_wp2
      go_ret
      exact ⟨rfl, hB⟩
    · have e := hAB.out hb0
      have e0 := hD10'.out hb0
      subst e0
      have v3 : (BE == 0) = false := beq_eq_false_iff_ne.2 hb0
      have v4 : (BE == BE) = true := by simp
      clear hDo hAB hD10' hb0 z0 z1 z2 z3
      subst e
      go_wp2_with fail
      refine (hEq.out A8 none n8 c8 0 0 [] _ K.x.1.2 (RN.nil_ _ _ _ _ _)).mono ?_; rintro e w19 ⟨rfl, B19⟩
      replace K := K.below B19
      clear B19
      go_wp2_with fail
      refine (hEq.out A9 none n9 c9 0 0 [] _ K.x.2 (RN.nil_ _ _ _ _ _)).mono ?_; rintro e w20 ⟨rfl, B20⟩
      replace K := K.below B20
      clear B20
      go_wp2_with fail
      refine (heated_c _).mono ?_; rintro e wM ⟨rfl, BM⟩
      have hB := (K.below BM).bel
      go_wp2
      go_ret
      exact ⟨rfl, hB⟩
end Go.Proofs.YtdbfcneeiiialaaGreatDoor
