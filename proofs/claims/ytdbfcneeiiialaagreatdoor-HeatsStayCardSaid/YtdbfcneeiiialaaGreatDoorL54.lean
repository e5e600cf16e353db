/- HeatsStay: seeds, starts and places that are handed in stay; what is made of them is new memory: the walk. -/
import Derived.Test.YtdbfcneeiiialaaGreatDoorScrO
import Derived.Test.YtdbfcneeiiialaaGreatDoorSeedV
import Derived.Test.YtdbfcneeiiialaaGreatDoorP37
import Derived.Test.YtdbfcneeiiialaaGreatDoorReady
import Derived.Deep.DeepCutAuto
import Derived.Deep.RegionHeld3
namespace Go.Proofs.YtdbfcneeiiialaaGreatDoor
open Go.RowKit Go.Shelf Go.Lib Go.Sort
set_option linter.unusedVariables false

theorem mem_back {α : Type} : ∀ (O L : List α), O.Nodup → (∀ x ∈ O, x ∈ L) → L.length ≤ O.length → ∀ y ∈ L, y ∈ O := by
  classical
  intro O
  induction O with
  | nil =>
    intro L _ _ h y hy
    cases L with
    | nil => cases hy
    | cons a l => simp at h
  | cons a O ih =>
    intro L hn hs hl y hy
    rw [List.nodup_cons] at hn
    by_cases e : y = a
    · rw [e]; exact List.mem_cons_self ..
    · refine List.mem_cons_of_mem _ (ih (L.erase a) hn.2 (fun x hx => ?_) ?_ y ((List.mem_erase_of_ne e).2 hy))
      · exact (List.mem_erase_of_ne (fun h => hn.1 (by rw [← h]; exact hx))).2 (hs x (List.mem_cons_of_mem _ hx))
      · rw [List.length_erase_of_mem (hs a (List.mem_cons_self ..))]
        simp only [List.length_cons] at hl
        omega
theorem spoil54 {w0 wr : World} {base size B : Nat} {T : TypeId} {g n c : Nat} {xs : List Value} (h : wr.ownsRow base T size (.slice (some ⟨g, 0, none⟩) n c) n xs) (hB : Below B w0 wr) (hb : B ≤ g) (o : Nat) (v : Value) :
    (wr.setCell ⟨g, o, none⟩ v).ownsRow base T size (.slice (some ⟨g, 0, none⟩) n c) n (xs.set o v) ∧ Below B w0 (wr.setCell ⟨g, o, none⟩ v) := ⟨(h.stored o v).1, hB.setCell hb v⟩
theorem poolPl_bd (zs : Zs) (k : Nat) : poolPl zs k ≤ k + 13 := by unfold poolPl; split <;> omega
theorem zz_seed54 : seedErr [⟨⟨#[122, 122]⟩, 0⟩] = 0 := by kernel_rfl
theorem zz_late54 {p : Pl} {y : List Sp} (h : SOk p y) (hy : y.length ≤ 200) (hz : ∀ x ∈ y, x.who ≠ ⟨#[122, 122]⟩) : lateErr p y ⟨⟨#[122, 122]⟩, 0⟩ = 0 := by
  have hw : (⟨#[122, 122]⟩ : ByteArray) ∉ y.map Sp.who := fun h9 => by
    obtain ⟨x, hx, e⟩ := List.mem_map.1 h9
    exact hz x hx e
  unfold lateErr
  rw [if_neg (not_not_intro ((SOk.iff p y).2 h)), if_neg (not_not_intro zz_seed54), if_neg (fun h9 => hw ((Lib.containsS_iff _ _).1 h9)), if_neg (by omega)]
theorem scr_nil54 {p : Pl} {y : List Sp} (h : SOk p y) : scrErr p y [] = 0 := by
  unfold scrErr
  rw [if_neg (not_not_intro ((SOk.iff p y).2 h))]
  rfl
theorem pc_src {w : World} {A : Option Addr} {n : Nat} {l : List Pc} (h : RPc w A n l) (hp : 0 < n) : ∃ b off, A = some ⟨b, off, none⟩ ∧ ∀ j u, (l.flatMap pcE)[j]? = some u → w.cell? ⟨b, off + j, none⟩ = some u := by
  obtain ⟨b, off, cs, fz, ha, hb, hc⟩ := h.2.2 hp
  refine ⟨b, off, ha, fun j u hu => ?_⟩
  have hj := lt_of_at hu
  rw [flat_len pcE_len] at hj
  obtain ⟨x, hx⟩ := at_of_lt (l := l) (k := j / 3) (by omega)
  have hi : j % 3 < 3 := Nat.mod_lt _ (by decide)
  have e : j = (j / 3) * 3 + j % 3 := by omega
  have hf := flat_atC pcE_len l (j / 3) (j % 3) x hx hi
  rw [← e, hu] at hf
  rw [cell_of_row w b _ cs _ fz hb]
  have h9 := hc (j / 3) x hx (j % 3) u hf.symm
  rw [show off + j = off + (j / 3) * 3 + j % 3 by omega]
  exact h9
theorem pc_one (l : List Pc) : ∀ u ∈ l.flatMap pcE, u.oneCell' = true := by
  intro u hu
  obtain ⟨x, _, hx⟩ := List.mem_flatMap.1 hu
  simp only [pcE, List.mem_cons, List.not_mem_nil, or_false] at hx
  rcases hx with rfl | rfl | rfl <;> rfl
set_option maxRecDepth 100000 in
theorem clonePc_c (A : Option Addr) (n c : Nat) (l : List Pc) (w : World) (h : RPc w A n l) (hn : n ≤ 1000) :
    Calls Tryz.prog 70 #[.slice A n c] w fun e w' => ∃ A' c', e = .returned (.slice A' n c') ∧ RPc w' A' n l ∧ Below w.heap.size w w' := by
  rcases A with _ | ad
  · have hn0 : n = 0 := by
      rcases Nat.eq_zero_or_pos n with h0 | hp
      · exact h0
      · obtain ⟨b, off, cs, fz, e, _⟩ := h.2.2 hp; cases e
    subst hn0
    have hl : l = [] := List.eq_nil_of_length_eq_zero h.len
    subst hl
    have hnil : ∀ W, (binOp .eql 136 (.slice none 0 c) (.slice none 0 0)).run Tryz.prog W = .ok (.bool true) W := fun W => Go.Lib.run_eql_slice_nil W _ _ none 0 c 0 0 Tryz.underlying136
    clear h
    go_enter Tryz.func70, Tryz.ntmps70
    go_wp2
    go_ret
    exact ⟨none, 0, rfl, RN.nil_ _ _ _ _ _, Below.refl _ _⟩
  · have hlen := h.len
    have hB := below_new w (.cells #[] 141)
    have hz : w.heap.size ≤ (w.alloc (.cells #[] 141)).heap.size := by simp
    have hown : (w.alloc (.cells #[] 141)).ownsRow w.heap.size 141 3 (.slice (some ⟨w.heap.size, 0, none⟩) 0 0) 0 ([] : List Value) := ⟨rfl, .inr ⟨w.heap.size, 0, #[], rfl, Nat.le_refl _, heap_alloc_new w _, Nat.le_refl _, Nat.zero_le _, by simp, rfl⟩⟩
    have hs := pc_src (h.below hB)
    have hnil : ∀ W, (binOp .eql 136 (.slice (some ad) n c) (.slice none 0 0)).run Tryz.prog W = .ok (.bool false) W := fun W => Go.Lib.run_eql_slice_nil W _ _ (some ad) n c 0 0 Tryz.underlying136
    go_enter Tryz.func70, Tryz.ntmps70
    go_wp2_with (at_builtin; refine wpList_appR rfl (.tmp 5) (.tmp 6) 136 rfl Tryz.underlying136 info_place rfl (by omega) (by omega) hown rfl (fun e => by cases e) hs rfl (by rw [flat_len pcE_len, hlen]) (pc_one l) (by omega) hz ?_; intro v4 w4 hown4 hg4)
    have hB4 := below_own hB hown hg4 hz (Nat.le_refl _)
    rw [List.nil_append, Nat.zero_add] at hown4
    obtain ⟨A9, c9, rfl⟩ := own_shape hown4
    go_wp2
    go_ret
    exact ⟨A9, c9, rfl, RN.of_own pcE_len hown4 hlen (by omega), hB4⟩
set_option maxRecDepth 100000 in
theorem equalPc54_c (A1 A2 : Option Addr) (n c m d : Nat) (l : List Pc) (w : World) (h1 : RPc w A1 n l) (h2 : RPc w A2 m l) :
    Calls Tryz.prog 72 #[.slice A1 n c, .slice A2 m d] w fun e w' => e = .returned (.bool true) ∧ Below w.heap.size w w' := by
  obtain rfl : n = m := h1.len.symm.trans h2.len
  have b1 := h1.bd
  have hR1 := Lib.hid (fun W B => h1.below (w' := W) B)
  have hR2 := Lib.hid (fun W B => h2.below (w' := W) B)
  clear h1 h2
  go_enter Tryz.func72, Tryz.ntmps72
  go_wp2_with fail
  go_loopw [5, 13] (fun _ i wr => ∃ k : Nat, k ≤ n ∧ i = .int .i64 k ∧ Below w.heap.size w wr) (fun _ i _ => n - (intOf i).toNat)
  case atStart => exact ⟨0, Nat.zero_le _, rfl, Below.refl _ _⟩
  case round =>
    rename World => wr
    obtain ⟨k, hk, rfl, hB⟩ := hrel
    by_cases hlt : k < n
    · have hlti : (k : Int) < n := by omega
      obtain ⟨b, off, x, rfl, hbl, hx, c0, c1, c2⟩ := RPc_at3 (hR1.out _ hB) hlt
      obtain ⟨b', off', y, rfl, hbl', hy, d0, d1, d2⟩ := RPc_at3 (hR2.out _ hB) hlt
      obtain rfl : x = y := by rw [hx] at hy; exact Option.some.inj hy
      obtain ⟨who, fin, rk⟩ := x
      dsimp only at *
      clear hx hy
      go_wp2
      go_quiet (fail)
      go_wp2
      go_roundw
      case rel => exact ⟨k + 1, by omega, by go_num, below_drewN hB _⟩
      case measure => simp [intOf]; omega
    · obtain rfl : k = n := by omega
      go_wp2
      go_ret
      exact ⟨rfl, hB⟩
set_option maxRecDepth 100000 in
theorem equalSd54_c (A1 A2 : Option Addr) (n c m d : Nat) (l : List Sd) (w : World) (h1 : RSd w A1 n l) (h2 : RSd w A2 m l) :
    Calls Tryz.prog 62 #[.slice A1 n c, .slice A2 m d] w fun e w' => e = .returned (.bool true) ∧ Below w.heap.size w w' := by
  obtain rfl : n = m := h1.len.symm.trans h2.len
  have b1 := h1.bd
  have hR1 := Lib.hid (fun W B => h1.below (w' := W) B)
  have hR2 := Lib.hid (fun W B => h2.below (w' := W) B)
  clear h1 h2
  go_enter Tryz.func62, Tryz.ntmps62
  go_wp2_with fail
  go_loopw [5, 13] (fun _ i wr => ∃ k : Nat, k ≤ n ∧ i = .int .i64 k ∧ Below w.heap.size w wr) (fun _ i _ => n - (intOf i).toNat)
  case atStart => exact ⟨0, Nat.zero_le _, rfl, Below.refl _ _⟩
  case round =>
    rename World => wr
    obtain ⟨k, hk, rfl, hB⟩ := hrel
    by_cases hlt : k < n
    · have hlti : (k : Int) < n := by omega
      obtain ⟨b, off, x, rfl, hbl, hx, c0, c1⟩ := RSd_at2 (hR1.out _ hB) hlt
      obtain ⟨b', off', y, rfl, hbl', hy, d0, d1⟩ := RSd_at2 (hR2.out _ hB) hlt
      obtain rfl : x = y := by rw [hx] at hy; exact Option.some.inj hy
      obtain ⟨who, tm⟩ := x
      dsimp only at *
      clear hx hy
      go_wp2
      go_quiet (fail)
      go_wp2
      go_roundw
      case rel => exact ⟨k + 1, by omega, by go_num, below_drewN hB _⟩
      case measure => simp [intOf]; omega
    · obtain rfl : k = n := by omega
      go_wp2
      go_ret
      exact ⟨rfl, hB⟩
/-- a row that stood before is spoilt: only the row itself -/
structure Sp54 (w : World) (base : Nat) (T : TypeId) (A : Option Addr) (n c : Nat) (wr : World) : Prop where
  own : ∃ xs, xs.length = n * 3 ∧ wr.ownsRow base T 3 (.slice A n c) n xs
  bel : Below base w wr
theorem own_cap7 {w : World} {base : Nat} {e : TypeId} {size n c : Nat} {A : Option Addr} (h : ∃ xs, xs.length = n * size ∧ w.ownsRow base e size (.slice A n c) n xs) : (A = none ∧ n = 0 ∧ c = 0) ∨ ∃ b, A = some ⟨b, 0, none⟩ ∧ n ≤ c := by
  obtain ⟨xs, _, h⟩ := h
  exact own_cap h rfl
set_option maxHeartbeats 12800000 in
set_option maxRecDepth 100000 in
theorem heatsStay_walk (a0 : Option Addr) (len0 cap0 : Nat) (z0 : List Int) (w : World) (w0 : IsRow .i64 w a0 len0 cap0 z0) (htab : Tb w) :
    Calls Tryz.prog 9 #[.slice a0 len0 cap0] w fun e w' => e = .returned (.bool true) ∧ Below w.heap.size w w' := by
  have hs2 := law_start2 w0
  clear w0
  generalize Zs.mk (z0.take len0) w.heap.size = zs at *
  obtain ⟨sA, sB⟩ := hs2
  have hL := sA.lim_le
  have hB0 : Below w.heap.size w ((w.alloc (.cells #[.slice a0 len0 cap0, .int .i64 0] 25)).alloc (.cells #[.slice a0 len0 cap0, .int .i64 0] 25)) := below_next (below_new w _) (below_new _ _)
  go_enter Tryz.func9, Tryz.ntmps9
  go_wp2_with fail
  generalize (w.alloc (.cells #[.slice a0 len0 cap0, .int .i64 0] 25)).alloc (.cells #[.slice a0 len0 cap0, .int .i64 0] 25) = w1 at *
  refine (poolOfK_c _ zs 0 _ sA (by omega)).mono ?_; rintro e w2 ⟨lo, hi, le, ci, rfl, p0, p1, p2, p3, a2, g2⟩
  have b2 := sB.other g2 hL (by omega)
  have hB2 := hB0.trans (grown_below g2 (Nat.le_refl _) hB0.size)
  clear sA sB g2 hB0
  go_wp2_with fail
  refine (poolOfK_c _ zs 0 _ b2 (by omega)).mono ?_; rintro e w3 ⟨lo2, hi2, le2, ci2, rfl, _, _, _, _, b3, g3⟩
  have a3 := a2.other g3 (by omega) (by omega)
  have hB3 := hB2.trans (grown_below g3 (by omega) hB2.size)
  have hkb := poolPl_bd zs 0
  generalize poolPl zs 0 = k2 at *
  clear a2 b2 g3 hB2
  have hbd : PlBd ⟨lo, hi, le, ci⟩ := ⟨p0, p1⟩
  clear p0 p1 p2 p3
  go_wp2_with fail
  have hp4 : PoolB w3.heap.size ⟨lo, hi, le, ci⟩ ((w3.alloc (.cells #[.int .i64 lo, .int .i64 hi, .int .i64 le, .int .i64 ci] 97)).alloc (.cells #[.int .i64 lo2, .int .i64 hi2, .int .i64 le2, .int .i64 ci2] 97)) := blk_alloc (heap_alloc_new w3 _) _
  have B4 : Below w3.heap.size w3 ((w3.alloc (.cells #[.int .i64 lo, .int .i64 hi, .int .i64 le, .int .i64 ci] 97)).alloc (.cells #[.int .i64 lo2, .int .i64 hi2, .int .i64 le2, .int .i64 ci2] 97)) := below_next (below_new w3 _) (below_new _ _)
  have a4 := a3.below B4
  have b4 := b3.below B4
  have hB4 := below_next hB3 B4
  clear B4 a3 b3 hB3
  generalize (w3.alloc (.cells #[.int .i64 lo, .int .i64 hi, .int .i64 le, .int .i64 ci] 97)).alloc (.cells #[.int .i64 lo2, .int .i64 hi2, .int .i64 le2, .int .i64 ci2] 97) = w4 at *
  generalize w3.heap.size = pb at *
  refine (rightSeedsF_c _ zs k2 14 _ w a4 (by omega) (by omega) htab hB4 (Nat.le_refl _)).mono ?_
  have hNo := Lib.hid (NoS.right zs 14 6 k2)
  have hRVe := Lib.hid (show rightSeedsV zs 14 6 k2 = rightSeedsV zs 14 6 k2 from rfl)
  generalize hRV : rightSeedsV zs 14 6 k2 = RV at *
  rintro e w5 ⟨A, n, c, rfl, x5, hx0, hn, a5, _, g5, _, _⟩
  have b5 := b4.other g5 (by omega) (by omega)
  have p5 : PoolB pb ⟨lo, hi, le, ci⟩ w5 := (a4.keep g5) _ _ _ _ (by decide) hp4
  have hB5 := hB4.trans (grown_below g5 (Nat.le_refl _) hB4.size)
  clear a4 b4 hp4 hB4 g5 a5
  go_wp2_with fail
  refine (rightSeedsF_c _ zs k2 14 _ w b5 (by omega) (by omega) htab hB5 (by omega)).mono ?_
  rw [hRV]
  rintro e w6 ⟨A2, n2, c2, rfl, y6, _, _, _, _, g6, _, _⟩
  have x6 : RSd w6 A n RV.1 := x5.keep (T := 25) (by decide) (b5.keep g6)
  have p6 : PoolB pb ⟨lo, hi, le, ci⟩ w6 := (b5.keep g6) _ _ _ _ (by decide) p5
  have hB6 := hB5.trans (grown_below g6 (by omega) hB5.size)
  have K : KX w (fun v => (RSd v A n RV.1 ∧ RSd v A2 n2 RV.1) ∧ PoolB pb ⟨lo, hi, le, ci⟩ v) w6 := ⟨⟨⟨x6, y6⟩, p6⟩, fun a b q B => ⟨⟨q.1.1.below B, q.1.2.below B⟩, PoolB.keep _ _ q.2 B⟩, hB6⟩
  clear b5 x5 x6 y6 p5 p6 hB5 hB6 g6 htab hL hkb hRV hRVe
  obtain ⟨x, kk⟩ := RV
  dsimp only at *
  have hxl := Lib.hid K.x.1.1.len
  have hPF := Lib.hid (fun W => poolFault_c ⟨lo, hi, le, ci⟩ hbd W)
  obtain ⟨z0, z1, z2, z3⟩ := K.x.2.at_
  dsimp only [Pl.val] at *
  go_wp2_with fail
  by_cases hP : poolErr ⟨lo, hi, le, ci⟩ = 0
  rotate_left
  · have hd : (poolErr ⟨lo, hi, le, ci⟩ != 0) = true := by simpa using hP
    clear hP
    generalize poolErr ⟨lo, hi, le, ci⟩ = PE at *
    refine (hPF.out _).mono ?_; rintro e wN ⟨rfl, BN⟩
    have K2 := K.below BN
    clear K BN hPF
    go_wp2_with fail
    refine (ready_c _).mono ?_; rintro e wM ⟨rfl, BM⟩
    have hB := (K2.below BM).bel
    go_wp2
    go_ret
    exact ⟨rfl, hB⟩
  rw [hP] at hPF
  have hp := poolErr_ok hP
  refine (hPF.out _).mono ?_; rintro e wN ⟨rfl, BN⟩
  replace K := K.below BN
  clear BN hPF z0 z1 z2 z3
  have hn40 : x.length < 40 := by rw [hxl.out]; omega
  have hlan : 1 ≤ hi - lo + 1 := by have := hp.1.2; dsimp only at this; omega
  have hz := szErr_small (lanes := hi - lo + 1) (many := (x.length : Int)) hlan (by omega) (by omega)
  obtain ⟨hS1, hS2, hS3⟩ := szV_facts (lanes := hi - lo + 1) (le := le) (many := (x.length : Int)) hlan hp.2.2.1 (by omega) hz
  have hol := orderW_len hx0 hn40
  obtain ⟨R, hR⟩ := drawR_ex (ci := ci) hp.2.2.2.1 (InvH.start (S := szV (hi - lo + 1) le x.length) (who := orderW x) (fun y hy => (hS1 y hy).1) (by rw [hol]; exact hS2.symm))
  have hOw : ∀ s ∈ orderW x, ∃ y ∈ x, y.who = s := fun s hs => by
    unfold orderW at hs
    rw [if_pos hx0] at hs
    obtain ⟨y, hy, rfl⟩ := List.mem_map.1 hs
    exact ⟨y, (ordS_perm hn40).mem_iff.1 hy, rfl⟩
  have hOnd : (orderW x).Nodup := by
    unfold orderW
    rw [if_pos hx0]
    exact (((ordS_perm hn40).map Sd.who).nodup_iff).2 (seedNodup50 hx0)
  have hOk : ∀ s ∈ orderW x, keyB s = true := fun s hs => by
    obtain ⟨y, hy, rfl⟩ := hOw s hs
    exact ((seedErr_ok hx0).2 y hy).1
  have hF := Lib.hid (fun D hD => draw_ok (p := ⟨lo, hi, le, ci⟩) hp hOnd hOk (by rw [hol]; exact hz) (by rw [hol]; omega) (R := R) (by rw [hol]; exact hR) (D := D) hD)
  have hDr := Lib.hid (fun W h => drawTop_c ⟨lo, hi, le, ci⟩ hp A n c x W h hx0 (by omega) R (by rw [← hxl.out]; exact hR))
  have hOnd' := Lib.hid hOnd
  have hOw' := Lib.hid hOw
  have hol' := Lib.hid hol
  generalize orderW x = O at *
  clear hS1 hS2 hS3 hz hR hlan hP hOnd hOk hp hol hOw
  unfold RetDT at hDr
  dsimp only [Pl.val] at *
  obtain ⟨z0, z1, z2, z3⟩ := K.x.2.at_
  dsimp only at z0 z1 z2 z3
  go_wp2_with fail
  refine (hDr.out _ K.x.1.1).mono ?_; rintro e w7 ⟨A5, n5, c5, D, rfl, hD, hDs, B7⟩
  replace K := (K.below B7).add (Y := fun v => RSp v A5 n5 D) hD (fun _ _ h B => h.below B)
  have hQ := hF.out D hDs
  have hDl := hD.len
  have hn5 : n5 ≤ 14 := by rw [← hDl, hQ.len, hol'.out, hxl.out]; exact hn
  have hzz : ∀ y ∈ D, y.who ≠ ⟨#[122, 122]⟩ := fun y hy e => by
    have h1 : y.who ∈ O := mem_back O (D.map Sp.who) hOnd'.out (fun s hs => by obtain ⟨z, hz, e9⟩ := hQ.all s hs; exact List.mem_map.2 ⟨z, hz, e9⟩) (by rw [List.length_map, hQ.len]; exact Nat.le_refl _) _ (List.mem_map.2 ⟨y, hy, rfl⟩)
    obtain ⟨z, hz, e9⟩ := hOw'.out _ h1
    exact hNo.out z hz (e9.trans e)
  have hSc := Lib.hid (fun W h => scratchO_c ⟨lo, hi, le, ci⟩ hbd A5 none n5 c5 0 0 D [] W h (R1.nil_ _ _ _ _) (.inl ⟨rfl, rfl, rfl⟩) (by omega))
  rw [scr_nil54 hQ.ok] at hSc
  have hLa := Lib.hid (fun W h => lateO_c ⟨lo, hi, le, ci⟩ hbd A5 n5 c5 D ⟨⟨#[122, 122]⟩, 0⟩ W h (by omega))
  rw [zz_late54 hQ.ok (by omega) hzz] at hLa
  clear B7 hDr hD hDs hF hQ hDl hzz hOw' hOnd' hNo z0 z1 z2 z3 hol'
  go_wp2_with fail
  refine (cloneSp_c A5 n5 c5 D _ K.x.2 (by omega)).mono ?_; rintro e w8 ⟨A6, c6, rfl, ho8, B8⟩
  replace K := (K.below B8).add (Y := fun v => RSp v A6 n5 D) (RN.of_own spE_len ho8 K.x.2.len (by omega)) (fun _ _ h B => h.below B)
  clear B8 ho8
  obtain ⟨z0, z1, z2, z3⟩ := K.x.1.1.2.at_
  dsimp only [Pl.val] at *
  go_wp2_with fail
  refine (hSc.out _ K.x.1.2).mono ?_; rintro e w9 ⟨A7, n7, c7, rfl, ho9, hn7, B9⟩
  have ho9 := ho9 trivial
  clear hSc z0 z1 z2 z3
  have S : Sp54 w8 w8.heap.size 111 A7 n7 c7 w9 := ⟨⟨_, ho9.1, ho9⟩, B9⟩
  clear ho9 B9
  go_wp2_with fail
  have ho9' := own_cap7 S.own
  go_loopw [14, 62] (fun _ i wr => ∃ k : Nat, k ≤ n7 ∧ i = .int .i64 k ∧ Sp54 w8 w8.heap.size 111 A7 n7 c7 wr) (fun _ i _ => n7 - (intOf i).toNat)
  case atStart => exact ⟨0, Nat.zero_le _, rfl, S⟩
  case round =>
    clear S
    rename World => wr
    obtain ⟨k, hk, rfl, S⟩ := hrel
    by_cases hlt : k < n7
    · obtain ⟨g, rfl⟩ : ∃ g, A7 = some ⟨g, 0, none⟩ := by rcases ho9' with ⟨_, h, _⟩ | ⟨g, h, _⟩ <;> first | omega | exact ⟨g, h⟩
      obtain ⟨⟨xs, hxs, ho⟩, hB⟩ := S
      have c0 := ho.cellAt (k * 3) (by omega)
      have f0 := ho.frozenAt (k * 3)
      obtain ⟨v, hv⟩ := at_of_lt (l := xs) (k := k * 3) (by omega)
      rw [hv] at c0
      have hgb := (ho.lt g rfl).1
      have S2 : Sp54 w8 w8.heap.size 111 (some ⟨g, 0, none⟩) n7 c7 (wr.setCell ⟨g, k * 3, none⟩ (.string ⟨#[115, 112, 111, 105, 108, 116]⟩)) := ⟨⟨_, by rw [List.length_set]; exact hxs, (spoil54 ho hB hgb (k * 3) _).1⟩, (spoil54 ho hB hgb (k * 3) _).2⟩
      clear ho hB hgb hv hxs
      go_wp2_with fail
      go_roundw
      case rel => exact ⟨k + 1, by omega, by go_num, S2⟩
      case measure => simp [intOf]; omega
    · obtain rfl : k = n7 := by omega
      replace K := K.below S.bel
      clear S hk hlt ho9'
      obtain ⟨z0, z1, z2, z3⟩ := K.x.1.1.2.at_
      dsimp only [Pl.val] at *
      go_wp2_with fail
      refine (hLa.out _ K.x.1.2).mono ?_; rintro e w10 ⟨A8, n8, c8, bb, L8, rfl, ho10, _, hn8, B10⟩
      have ho10 := ho10 rfl
      have S : Sp54 wr wr.heap.size 111 A8 n8 c8 w10 := ⟨⟨_, ho10.1, ho10⟩, B10⟩
      clear ho10 B10 hLa z0 z1 z2 z3
      go_wp2_with fail
      have ho9' := own_cap7 S.own
      go_loopw [18, 80] (fun _ i wx => ∃ k : Nat, k ≤ n8 ∧ i = .int .i64 k ∧ Sp54 wr wr.heap.size 111 A8 n8 c8 wx) (fun _ i _ => n8 - (intOf i).toNat)
      case atStart => exact ⟨0, Nat.zero_le _, rfl, S⟩
      case round =>
        clear S
        rename World => wx
        obtain ⟨k2, hk, rfl, S⟩ := hrel
        by_cases hlt : k2 < n8
        · obtain ⟨g, rfl⟩ : ∃ g, A8 = some ⟨g, 0, none⟩ := by rcases ho9' with ⟨_, h, _⟩ | ⟨g, h, _⟩ <;> first | omega | exact ⟨g, h⟩
          obtain ⟨⟨xs, hxs, ho⟩, hB⟩ := S
          have c0 := ho.cellAt (k2 * 3) (by omega)
          have f0 := ho.frozenAt (k2 * 3)
          obtain ⟨v, hv⟩ := at_of_lt (l := xs) (k := k2 * 3) (by omega)
          rw [hv] at c0
          have hgb := (ho.lt g rfl).1
          have S2 : Sp54 wr wr.heap.size 111 (some ⟨g, 0, none⟩) n8 c8 (wx.setCell ⟨g, k2 * 3, none⟩ (.string ⟨#[115, 112, 111, 105, 108, 116]⟩)) := ⟨⟨_, by rw [List.length_set]; exact hxs, (spoil54 ho hB hgb (k2 * 3) _).1⟩, (spoil54 ho hB hgb (k2 * 3) _).2⟩
          clear ho hB hgb hv hxs
          go_wp2_with fail
          go_roundw
          case rel => exact ⟨k2 + 1, by omega, by go_num, S2⟩
          case measure => simp [intOf]; omega
        · obtain rfl : k2 = n8 := by omega
          replace K := K.below S.bel
          clear S hk hlt ho9'
          have hFi := Lib.hid (fun W h => finals_c ⟨2, 2, 1⟩ (by decide) A n c x W h (by omega) hx0)
          have hfn := heap_alloc_new wx (.cells #[.int .i64 2, .int .i64 2, .int .i64 1] 135)
          replace K := (K.below (below_new wx (.cells #[.int .i64 2, .int .i64 2, .int .i64 1] 135))).add (Y := fun v => v.heap[wx.heap.size]? = some (.cells #[.int .i64 2, .int .i64 2, .int .i64 1] 135 (0, 0))) hfn (fun _ _ h B => blk_below h B)
          clear hfn
          have y0 := (blk_facts K.x.2).1 0
          have y1 := (blk_facts K.x.2).1 1
          have y2 := (blk_facts K.x.2).1 2
          dsimp only [Fl.val] at *
          go_wp2_with fail
          refine (hFi.out _ K.x.1.1.1.1.1).mono ?_; rintro e w11 ⟨A9, n9, c9, rfl, hP11, hn9, B11⟩
          replace K := (K.below B11).add (Y := fun v => RPc v A9 n9 (plcV ⟨2, 2, 1⟩ x)) hP11 (fun _ _ h B => h.below B)
          have hPok := Lib.hid (plcV_ok (f := ⟨2, 2, 1⟩) (by decide) hx0 (by rw [hxl.out]; omega : x.length ≤ 19))
          generalize plcV ⟨2, 2, 1⟩ x = PL at *
          clear hFi hP11 B11 y0 y1 y2
          go_wp2_with fail
          refine (clonePc_c A9 n9 c9 PL _ K.x.2 (by omega)).mono ?_; rintro e w12 ⟨A10, c10, rfl, hP12, B12⟩
          replace K := (K.below B12).add (Y := fun v => RPc v A10 n9 PL) hP12 (fun _ _ h B => h.below B)
          clear hP12 B12
          have hRe := Lib.hid (fun W h => replaceOkO_c ⟨2, 2, 1⟩ (by decide) A9 none n9 c9 0 0 PL [] hPok.out W h (R1.nil_ _ _ _ _) (.inl ⟨rfl, rfl, rfl⟩) (by omega) (fun s hs => by cases hs) (by simp))
          have y0 := (blk_facts K.x.1.1.2).1 0
          have y1 := (blk_facts K.x.1.1.2).1 1
          have y2 := (blk_facts K.x.1.1.2).1 2
          dsimp only [Fl.val] at *
          go_wp2_with fail
          refine (hRe.out _ K.x.1.2).mono ?_; rintro e w13 ⟨A11, n11, c11, rfl, ho13, B13⟩
          have S : Sp54 w12 w12.heap.size 141 A11 n11 c11 w13 := ⟨⟨_, ho13.1, ho13⟩, B13⟩
          have hb11 : n11 ≤ 14 := by
            have h1 := own_len pcE_len (by decide) ho13
            have h2 := newL_len (p := PL) (who := []) hPok.out.nod (fun s hs => by cases hs) (by simp)
            have h3 := K.x.1.2.len
            simp only [List.length_nil] at h2
            omega
          clear ho13 B13 hRe y0 y1 y2 hPok
          go_wp2_with fail
          have ho9' := own_cap7 S.own
          go_loopw [25, 115] (fun _ i wz => ∃ k : Nat, k ≤ n11 ∧ i = .int .i64 k ∧ Sp54 w12 w12.heap.size 141 A11 n11 c11 wz) (fun _ i _ => n11 - (intOf i).toNat)
          case atStart => exact ⟨0, Nat.zero_le _, rfl, S⟩
          case round =>
            clear S
            rename World => wz
            obtain ⟨k3, hk, rfl, S⟩ := hrel
            by_cases hlt : k3 < n11
            · obtain ⟨g, rfl⟩ : ∃ g, A11 = some ⟨g, 0, none⟩ := by rcases ho9' with ⟨_, h, _⟩ | ⟨g, h, _⟩ <;> first | omega | exact ⟨g, h⟩
              obtain ⟨⟨xs, hxs, ho⟩, hB⟩ := S
              have c0 := ho.cellAt (k3 * 3) (by omega)
              have f0 := ho.frozenAt (k3 * 3)
              obtain ⟨v, hv⟩ := at_of_lt (l := xs) (k := k3 * 3) (by omega)
              rw [hv] at c0
              have hgb := (ho.lt g rfl).1
              have S2 : Sp54 w12 w12.heap.size 141 (some ⟨g, 0, none⟩) n11 c11 (wz.setCell ⟨g, k3 * 3, none⟩ (.string ⟨#[115, 112, 111, 105, 108, 116]⟩)) := ⟨⟨_, by rw [List.length_set]; exact hxs, (spoil54 ho hB hgb (k3 * 3) _).1⟩, (spoil54 ho hB hgb (k3 * 3) _).2⟩
              clear ho hB hgb hv hxs
              go_wp2_with fail
              go_roundw
              case rel => exact ⟨k3 + 1, by omega, by go_num, S2⟩
              case measure => simp [intOf]; omega
            · obtain rfl : k3 = n11 := by omega
              replace K := K.below S.bel
              clear S hk hlt ho9'
              go_wp2_with fail
              refine (equalPc54_c A9 A10 n9 c9 n9 c10 PL _ K.x.1.2 K.x.2).mono ?_; rintro e w14 ⟨rfl, B14⟩
              replace K := K.below B14
              clear B14
              go_wp2_with fail
              refine (equalSp_c A5 A6 n5 c5 n5 c6 D D _ K.x.1.1.1.1.2 K.x.1.1.1.2).mono ?_; rintro e w15 ⟨rfl, q15, rfl⟩
              replace K := K.drewN q15
              have hdd : decide (D = D) = true := decide_eq_true rfl
              go_wp2_with fail
              refine (equalSd54_c A A2 n c n2 c2 x _ K.x.1.1.1.1.1.1.1 K.x.1.1.1.1.1.1.2).mono ?_; rintro e w16 ⟨rfl, B16⟩
              replace K := K.below B16
              clear B16
              go_wp2_with fail
              refine (ready_c _).mono ?_; rintro e wM ⟨rfl, BM⟩
              have hB := (K.below BM).bel
              go_wp2
              go_ret
              exact ⟨rfl, hB⟩
end Go.Proofs.YtdbfcneeiiialaaGreatDoor
