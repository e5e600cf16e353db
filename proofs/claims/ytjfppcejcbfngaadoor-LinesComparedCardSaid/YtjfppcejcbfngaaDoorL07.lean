/- LinesCompared: LineAt, Ahead and Needs answer as the reference says: the walk. -/
import Derived.Test.YtjfppcejcbfngaaDoorLineAt
import Derived.Test.YtjfppcejcbfngaaDoorAheadA
import Derived.Test.YtjfppcejcbfngaaDoorEqPr
import Derived.Test.YtjfppcejcbfngaaDoorFielded
import Derived.Test.YtjfppcejcbfngaaDoorSplits2
import Derived.Test.YtjfppcejcbfngaaDoorL02A
import Derived.Test.YtjfppcejcbfngaaDoorTrnM
import Derived.Test.YtjfppcejcbfngaaDoorDraws
import Derived.Test.YtjfppcejcbfngaaDoorLawBase
import Derived.Deep.DeepCutAuto
namespace Go.Proofs.YtjfppcejcbfngaaDoor
open Go.RowKit
set_option linter.unusedVariables false

def K7 (w : World) (b : Nat) (r : Race) (A : Option Addr) (n : Nat) (l : List Sw) (wx : World) : Prop := wx.heap[b]? = some (.cells r.cells 27 (0, 0)) ∧ RSw wx A n l ∧ Below w.heap.size w wx
theorem K7.below {w : World} {b : Nat} {r : Race} {A : Option Addr} {n : Nat} {l : List Sw} {wx w' : World} (h : K7 w b r A n l wx) (hb : Below wx.heap.size wx w') : K7 w b r A n l w' := ⟨blk_below h.1 hb, h.2.1.below hb, below_next h.2.2 hb⟩
theorem K7.alloc {w : World} {b : Nat} {r : Race} {A : Option Addr} {n : Nat} {l : List Sw} {wx : World} (h : K7 w b r A n l wx) (o : Obj) : K7 w b r A n l (wx.alloc o) := h.below (below_new wx o)
theorem K7.drewN {w : World} {b : Nat} {r : Race} {A : Option Addr} {n : Nat} {l : List Sw} {wx : World} (h : K7 w b r A n l wx) (q : Nat) : K7 w b r A n l (wx.drewN q) := h.below (below_drewN (Below.refl _ _) q)
theorem K7.stream {w : World} {b : Nat} {r : Race} {A : Option Addr} {n : Nat} {l : List Sw} {wx w' : World} {zs : List Int} {k : Nat} (h : K7 w b r A n l wx) (hs : St wx w.heap.size zs k) (hg : wx.grownBy w' (some w.heap.size)) : K7 w b r A n l w' :=
  ⟨blk_other_int h.1 hs hg (by decide), h.2.1.stream hs hg, h.2.2.trans (grown_below hg (Nat.le_refl _) h.2.2.size)⟩
theorem K7.set {w : World} {b b' : Nat} {r : Race} {A : Option Addr} {n : Nat} {l : List Sw} {wx : World} {cs : Array Value} (h : K7 w b r A n l wx) (hb : wx.heap[b']? = some (.cells cs 51 (0, 0))) (hne : b ≠ b') (hle : w.heap.size ≤ b') (i : Nat) (v : Value) : K7 w b r A n l (wx.setCell ⟨b', i, none⟩ v) :=
  ⟨blk_other h.1 (p := ⟨b', i, none⟩) hne v, h.2.1.keep (T := 51) ⟨by decide, by decide⟩ (Keep.of_grown hb (grown_setCell (grown_refl wx _) (.inl rfl) v)), h.2.2.setCell (p := ⟨b', i, none⟩) hle v⟩
theorem RI_setF {wx : World} {A : Option Addr} {m b' : Nat} {sp : List Int} {cs : Array Value} (h : RI 3 wx A m sp) (hb : wx.heap[b']? = some (.cells cs 51 (0, 0))) (i : Nat) (v : Value) : RI 3 (wx.setCell ⟨b', i, none⟩ v) A m sp :=
  h.keep (T := 51) (by decide) (Keep.of_grown hb (grown_setCell (grown_refl wx _) (.inl rfl) v))
theorem equalPr_same (A1 A2 : Option Addr) (n c m d : Nat) (l : List Pr) (w : World) (h1 : RPr w A1 n l) (h2 : RPr w A2 m l) :
    Calls Tryd.prog 83 #[.slice A1 n c, .slice A2 m d] w fun e w' => e = .returned (.bool true) ∧ Below w.heap.size w w' := by
  refine (equalPr_c A1 A2 n c m d l l w h1 h2).mono ?_
  rintro e w' ⟨rfl, q, rfl⟩
  exact ⟨by simp, below_drewN (Below.refl _ _) q⟩
theorem line_way {r : Race} {sp : List Int} {t : Int} : orV [wholeErr r sp, spanErr t 0 360000] = lineE r sp t := by
  rw [orV_two]; unfold lineE spanErr
  by_cases h : wholeErr r sp = 0
  · simp [h]
  · simp [h]
theorem ksE_c (g : Nat) (zs : List Int) (k : Nat) (r : Race) (w : World) (h : St w g zs k) (hk : k + 500 ≤ 1099511627776) (hr : raceErr r = 0) :
    Calls Tryd.prog 23 #[.pointer (some ⟨g, 0, none⟩), r.val] w fun e w' => ∃ A n c l k', e = .returned (.slice A n c) ∧ RI 3 w' A n l ∧ St w' g zs k' ∧ k' ≤ k + 500 ∧ w.grownBy w' (some g) := by
  have hb := lenV_bd hr
  have hl : (knownSplits zs k r).length = (lenV r).toNat := ks_length _ _ _
  refine (knownSplits_c g zs k r w h hk hr).mono ?_
  rintro e w' ⟨A, n, c, he, ho, hs, hg⟩
  exact ⟨A, n, c, _, _, he, R1.of_own ho (by have := ho.1; rw [ints_len] at this; omega), hs, by omega, hg⟩
theorem splE_c (g : Nat) (zs : List Int) (k : Nat) (r : Race) (w : World) (h : St w g zs k) (hk : k + 1000 ≤ 1099511627776) (hr : raceErr r = 0) :
    Calls Tryd.prog 25 #[.pointer (some ⟨g, 0, none⟩), r.val] w fun e w' => ∃ A n c l k', e = .returned (.slice A n c) ∧ RI 3 w' A n l ∧ St w' g zs k' ∧ w.grownBy w' (some g) := by
  refine (splits_c g zs k r w h hk hr).mono ?_
  rintro e w' ⟨A, n, c, l, k', he, ho, hs, _, hg, hn⟩
  exact ⟨A, n, c, l, k', he, R1.of_own ho (by omega), hs, hg⟩
set_option maxHeartbeats 6400000 in
set_option maxRecDepth 100000 in
theorem linesCompared_walk (a0 : Option Addr) (len0 cap0 : Nat) (z0 : List Int) (w : World) (w0 : IsRow .i64 w a0 len0 cap0 z0) (htab : Tb w) :
    Calls Tryd.prog 9 #[.slice a0 len0 cap0] w fun e w' => e = .returned (.bool true) ∧ Below w.heap.size w w' := by
  have hs := law_start w0
  clear w0
  generalize z0.take len0 = zs at *
  have hTb := Lib.hid (fun wx (h : Below w.heap.size w wx) => htab.below h)
  clear htab
  go_enter Tryd.func9, Tryd.ntmps9
  go_wp2_with fail
  have hs' : St (w.alloc (.cells #[.slice a0 len0 cap0, .int .i64 0] 25)) w.heap.size zs 0 := hs
  refine (fielded_c _ zs 0 _ hs' (by omega)).mono ?_; rintro e w1 ⟨r, A, n, c, l, k1, rfl, hF, hn4, s1, hk1, g1⟩
  have hB : Below w.heap.size w w1 := (below_new w _).trans (grown_below g1 (Nat.le_refl _) (by simp))
  clear hs hs' g1
  have K : K7 w w1.heap.size r A n l (w1.alloc (.cells r.cells 27)) := ⟨heap_alloc_new w1 _, hF.alloc _, hB.alloc hB.size _⟩
  have s2 := s1.alloc (.cells r.cells 27)
  have hlt : w.heap.size < w1.heap.size := s1.lt
  generalize hb4 : w1.heap.size = b4 at *
  clear s1 hB hF
  have hRf := Lib.hid (fun W => raceFault_c r W)
  have hKs := Lib.hid (fun g k W h hk hr => ksE_c g zs k r W h hk hr)
  have hSp := Lib.hid (fun g k W h hk hr => splE_c g zs k r W h hk hr)
  have hKf := Lib.hid (fun A2 m c2 sp W h h0 => knownFault_c r A2 m c2 sp W h h0)
  have hLa := Lib.hid (fun A2 m c2 sp t W h => lineAtA_c r A2 m c2 sp t W h)
  have hFo := Lib.hid (fun A2 m c2 sp t W h h0 => farOfA_c r A2 m c2 sp t W h h0)
  have hAh := Lib.hid (fun A2 m c2 sp W h h1 h2 => aheadA_c r A A2 n c m c2 l sp W h h1 h2)
  have hAo := Lib.hid (fun A2 m c2 sp W h h1 h2 h3 => aheadOfA_c r A A2 n c m c2 l sp W h h1 h2 h3)
  have hNe := Lib.hid (fun t q W h h1 => needsA_c r A n c t q l W h h1)
  have hNo := Lib.hid (fun t q W h h1 h2 => needsOfA_c r A n c t q l W h h1 h2)
  have hLo := Lib.hid (fun W h => lengthsOf_c r W h)
  have hFR := Lib.hid (fun (h : fieldErr r l = 0) => (fieldErr_ok h).1)
  have hNW := Lib.hid (fun t len => needs_way (r := r) (l := l) (t := t) (len := len))
  have hAW := Lib.hid (fun sp => ahead_way (r := r) (l := l) (sp := sp))
  have hLW := Lib.hid (fun sp t => line_way (r := r) (sp := sp) (t := t))
  have hLN0 := Lib.hid (fun sp t (h : lineE r sp t ≠ 0) => And.intro (show lineN r sp t = 0 by unfold lineN; rw [if_neg h]) (show lineD r sp t = 0 by unfold lineD; rw [if_neg h]))
  have hAL0 := Lib.hid (fun sp (h : aheadE r l sp ≠ 0) => show aheadLs r l sp = [] by unfold aheadLs; rw [if_neg h])
  have hNL0 := Lib.hid (fun t q (h : needsErr r l t q ≠ 0) => show needsLs r l t q = [] by unfold needsLs; rw [if_neg h])
  have hW0 := Lib.hid (fun (h : raceErr r = 0) sp => show wholeErr r sp = knownErr r sp by unfold wholeErr; rw [if_neg (by simp [h])])
  have hW1 := Lib.hid (fun (h : raceErr r ≠ 0) sp => show wholeErr r sp = raceErr r by unfold wholeErr; rw [if_pos h])
  have hK : ∀ wx, K7 w b4 r A n l wx → wx.heap[b4]? = some (.cells r.cells 27 (0, 0)) := fun wx h => h.1
  have hKF : ∀ wx, K7 w b4 r A n l wx → RSw wx A n l := fun wx h => h.2.1
  have hKB : ∀ wx, K7 w b4 r A n l wx → Below w.heap.size w wx := fun wx h => h.2.2
  have hKb : ∀ wx w', K7 w b4 r A n l wx → Below wx.heap.size wx w' → K7 w b4 r A n l w' := fun _ _ h hb => h.below hb
  have hKs2 : ∀ wx w' k, K7 w b4 r A n l wx → St wx w.heap.size zs k → wx.grownBy w' (some w.heap.size) → K7 w b4 r A n l w' := fun _ _ _ h hs hg => h.stream hs hg
  have hKset := Lib.hid (fun (wx : World) (b' : Nat) (cs : Array Value) (h : K7 w b4 r A n l wx) (hb : wx.heap[b']? = some (Obj.cells cs 51 (0, 0))) hne hle i v => h.set hb hne hle i v)
  generalize K7 w b4 r A n l = KK at *
  generalize raceErr r = RE at *
  generalize wholeErr r = WE at *
  generalize knownErr r = KE at *
  generalize lineE r = LE at *
  generalize lineN r = LN at *
  generalize lineD r = LD at *
  generalize aheadE r l = AE at *
  generalize aheadLs r l = AL at *
  generalize needsErr r l = NE at *
  generalize needsLs r l = NL at *
  generalize fieldErr r l = FE at *
  generalize lenV r = LV at *
  obtain ⟨key, metres, stroke, course, legs, sex, young, old⟩ := r
  dsimp only [Race.val, Race.cells] at *
  go_wp2_with fail
  refine (pickE_c _ zs _ _ _ _ [0, 1550, 3000, 9999, -1, 360001] _ (s2.alloc _) (by omega) (R1.litAt _ _ _ _ (by first | rfl | (simp; done) | (simp; exact hb4)) rfl (by simp)) (by decide)).mono ?_; rintro e w3 ⟨tm, rfl, htm, s3, g3⟩
  replace K := hKs2 _ _ _ (hKb _ _ K (below_new _ (.cells #[.int .i64 0, .int .i64 1550, .int .i64 3000, .int .i64 9999, .int .i64 (-1), .int .i64 360001] 3))) (s2.alloc _) g3
  clear s2 g3 htm
  go_wp2_with fail
  refine (pickE_c _ zs _ _ _ _ [1, 3000, 6200, 0] _ (s3.alloc _) (by omega) (R1.litAt _ _ _ _ (by first | rfl | (simp; done) | (simp; exact hb4)) rfl (by simp)) (by decide)).mono ?_; rintro e w4 ⟨tg, rfl, htg, s4, g4⟩
  replace K := hKs2 _ _ _ (hKb _ _ K (below_new _ (.cells #[.int .i64 1, .int .i64 3000, .int .i64 6200, .int .i64 0] 3))) (s3.alloc _) g4
  clear s3 g4 htg
  go_wp2_with fail
  refine (pickE_c _ zs _ _ _ _ [0, 1, 2, 17, -1] _ (s4.alloc _) (by omega) (R1.litAt _ _ _ _ (by first | rfl | (simp; done) | (simp; exact hb4)) rfl (by simp)) (by decide)).mono ?_; rintro e w5 ⟨ln, rfl, hln, s5, g5⟩
  replace K := hKs2 _ _ _ (hKb _ _ K (below_new _ (.cells #[.int .i64 0, .int .i64 1, .int .i64 2, .int .i64 17, .int .i64 (-1)] 3))) (s4.alloc _) g5
  clear s4 g5 hln
  have zc := (blk_facts (hK _ K)).1
  have zf := (blk_facts (hK _ K)).2
  go_wp2_with fail
  refine (hRf.out _).mono ?_; rintro e w6 ⟨rfl, B6⟩
  have s6 := s5.below B6
  replace K := hKb _ _ K B6
  clear s5 B6 zc zf
  have K0 := hKb _ _ K (below_new _ (.cells #[.int .i64 1, .int .i64 2] 3))
  have s7 := s6.alloc (.cells #[.int .i64 1, .int .i64 2] 3)
  have hI0 : RI 3 (w6.alloc (.cells #[.int .i64 1, .int .i64 2] 3)) (some ⟨w6.heap.size, 0, none⟩) 2 [1, 2] := R1.litAt _ _ _ _ (by first | rfl | simp) rfl (by simp)
  clear K s6
  go_upto_if 45 with (fail)
  go_cut [11] (fun s11 wx => ∃ A2 m c2 sp, s11 = .slice A2 m c2 ∧ RI 3 wx A2 m sp ∧ KK wx)
  case first =>
    clear hRf hKf hLa hFo hAh hAo hNe hNo hLo hFR hNW hAW hLW hW0 hW1 hTb
    have zc := (blk_facts (hK _ K0)).1
    by_cases h0 : RE = 0
    · subst h0
      clear hI0
      go_wp2_with fail
      refine (hKs.out _ _ _ s7 (by omega) (by first | rfl | trivial)).mono ?_; rintro e w8 ⟨A8, n8, c8, l8, k8, rfl, hI8, s8, hk8, g8⟩
      have K8 := hKs2 _ _ _ K0 s7 g8
      clear zc K0
      go_wp2_with fail
      refine (flipE_c _ zs _ _ _ s8 (by omega) (by omega) (by omega)).mono ?_; rintro e w9 ⟨fl, rfl, s9, g9⟩
      have hI9 := hI8.keep (T := 25) (by decide) (s8.keep g9)
      have K9 := hKs2 _ _ _ K8 s8 g9
      clear s7 g8 hI8 K8 s8 g9
      have zc := (blk_facts (hK _ K9)).1
      cases fl
      · clear zc
        go_wp2
        go_meet
        case rel => exact ⟨_, _, _, _, rfl, hI9, K9⟩
      · go_wp2_with fail
        refine (hSp.out _ _ _ s9 (by omega) (by first | rfl | trivial)).mono ?_; rintro e w10 ⟨A10, n10, c10, l10, k10, rfl, hI10, s10, g10⟩
        have K10 := hKs2 _ _ _ K9 s9 g10
        clear zc s9 g10 s10
        go_wp2
        go_meet
        case rel => exact ⟨_, _, _, _, rfl, hI10, K10⟩
    · have ht : (RE == 0) = false := beq_eq_false_iff_ne.2 h0
      clear h0
      go_wp2
      go_meet
      case rel => exact ⟨_, _, _, _, rfl, hI0, K0⟩
  case rest =>
    clear K0 s7 hI0 hKs hSp hKs2
    rename World => wx
    obtain ⟨A2, m, c2, sp, rfl, hI, K⟩ := hcut
    go_upto_if 56 with (fail)
    go_cut [12] (fun s12 wy => s12 = .int .i64 (WE sp) ∧ RI 3 wy A2 m sp ∧ KK wy)
    case first =>
      clear hRf hLa hFo hAh hAo hNe hNo hLo hFR hNW hAW hLW hTb
      have zc := (blk_facts (hK _ K)).1
      by_cases h0 : RE = 0
      · subst h0
        have hw := hW0.out rfl sp
        have hw' := Lib.hid hw
        clear hw
        go_wp2_with fail
        refine (hKf.out _ _ _ _ _ hI (by first | rfl | trivial)).mono ?_; rintro e w8 ⟨rfl, B8⟩
        have hI8 := hI.below B8
        have K8 := hKb _ _ K B8
        clear zc hI K
        go_wp2
        go_meet
        case rel => exact ⟨by rw [hw'.out], hI8, K8⟩
      · have hw := Lib.hid (hW1.out h0 sp)
        have ht : (RE == 0) = false := beq_eq_false_iff_ne.2 h0
        clear h0
        go_wp2
        go_meet
        case rel => exact ⟨by rw [hw.out], hI, K⟩
    case rest =>
      clear hI K hW0 hW1 hKf hRf
      rename World => wy
      obtain ⟨rfl, hI, K⟩ := hcut
      have zc := (blk_facts (hK _ K)).1
      go_wp2_with fail
      refine (hLa.out _ _ _ _ _ _ hI).mono ?_; rintro e w8 ⟨rfl, B8⟩
      replace hI := hI.below B8
      replace K := hKb _ _ K B8
      clear zc B8 hLa
      generalize hN : LN sp tm = N at *
      generalize hD : LD sp tm = D at *
      have hND := Lib.hid (And.intro hN hD)
      clear hN hD
      have hb13 := heap_alloc_new w8 (.cells #[.int .i64 N, .int .i64 D] 51)
      replace hI := hI.below (below_new w8 (.cells #[.int .i64 N, .int .i64 D] 51))
      have hl8 := (hKB _ K).size
      have hl4 := lt_of_heap (hK _ K)
      replace K := hKb _ _ K (below_new w8 (.cells #[.int .i64 N, .int .i64 D] 51))
      go_wp2_with fail
      refine (spanFault_c _ _ _ _).mono ?_; rintro e w' ⟨rfl, rfl⟩
      go_wp2_with fail
      refine (orE_c _ _ _ [WE sp, spanErr tm 0 360000] _ (R1.litAt _ _ _ _ (by first | rfl | simp) rfl (by simp))).mono ?_; rintro e w' ⟨rfl, rfl⟩
      rw [hLW.out]
      clear hLW
      generalize hE15 : LE sp tm = E15 at *
      have hE15' := Lib.hid hE15
      clear hE15
      have hI9 := hI.below ((below_new _ (.cells #[.int .i64 (WE sp), .int .i64 (spanErr tm 0 360000)] 29)).trans ((below_new _ (.cells #[.int .i64 0, .int .i64 0] 51)).mono (by simp)))
      have K9 := hKb _ _ K ((below_new _ (.cells #[.int .i64 (WE sp), .int .i64 (spanErr tm 0 360000)] 29)).trans ((below_new _ (.cells #[.int .i64 0, .int .i64 0] 51)).mono (by simp)))
      have hb13' := blk_alloc (blk_alloc hb13 (.cells #[.int .i64 (WE sp), .int .i64 (spanErr tm 0 360000)] 29)) (.cells #[.int .i64 0, .int .i64 0] 51)
      have hb16 := heap_alloc_new ((w8.alloc (.cells #[.int .i64 N, .int .i64 D] 51)).alloc (.cells #[.int .i64 (WE sp), .int .i64 (spanErr tm 0 360000)] 29)) (.cells #[.int .i64 0, .int .i64 0] 51)
      simp only [alloc_size] at hb16
      clear hI K hb13
      generalize hs13 : w8.heap.size = b13 at *
      go_upto_if 73 with (fail)
      go_cut [16] (fun s16 wz => s16 = .pointer (some ⟨b13 + 1 + 1, 0, none⟩) ∧ wz.heap[b13]? = some (.cells #[.int .i64 N, .int .i64 D] 51 (0, 0)) ∧ wz.heap[b13 + 1 + 1]? = some (.cells #[.int .i64 N, .int .i64 D] 51 (0, 0)) ∧ RI 3 wz A2 m sp ∧ KK wz)
      case first =>
        clear hAh hAo hNe hNo hLo hFR hNW hAW hTb
        by_cases h0 : E15 = 0
        · subst h0
          clear hLN0
          have zc := (blk_facts (hK _ K9)).1
          go_wp2_with fail
          refine (hFo.out _ _ _ _ _ _ hI9 hE15'.out).mono ?_; rintro e w10 ⟨rfl, B10⟩
          rw [hND.out.1, hND.out.2]
          have hI10 := hI9.below B10
          have K10 := hKb _ _ K9 B10
          have hb13x := blk_below hb13' B10
          have hb16x := blk_below hb16 B10
          clear zc K9 hI9 hb13' hb16 B10
          have hne1 : b4 ≠ b13 + 1 + 1 := by omega
          have hle1 : w.heap.size ≤ b13 + 1 + 1 := by omega
          have hne2 : b13 + 1 + 1 ≠ b13 := by omega
          have z16 := (blk_facts hb16x).1
          have zf16 := (blk_facts hb16x).2
          have hs0 := blk_set hb16x 0 (.int .i64 N)
          have hs1 := blk_set hs0 1 (.int .i64 D)
          have H := Lib.hid (And.intro (blk_other (blk_other hb13x (p := ⟨b13 + 1 + 1, 0, none⟩) hne2.symm (.int .i64 N)) (p := ⟨b13 + 1 + 1, 1, none⟩) hne2.symm (.int .i64 D)) (And.intro hs1 (And.intro (RI_setF (RI_setF hI10 hb16x 0 (.int .i64 N)) hs0 1 (.int .i64 D)) (hKset.out _ _ _ (hKset.out _ _ _ K10 hb16x hne1 hle1 0 (.int .i64 N)) hs0 hne1 hle1 1 (.int .i64 D)))))
          clear hs0 hs1 hI10 K10 hb13x hb16x
          go_wp2
          go_meet
          case rel => exact ⟨rfl, H.out.1, by simpa using H.out.2.1, H.out.2.2.1, H.out.2.2.2⟩
        · have hz := Lib.hid (hLN0.out sp tm (by rw [hE15'.out]; exact h0))
          have ht : (E15 == 0) = false := beq_eq_false_iff_ne.2 h0
          have hN0 := Lib.hid (hND.out.1.symm.trans hz.out.1)
          have hD0 := Lib.hid (hND.out.2.symm.trans hz.out.2)
          clear h0
          have hb16y := hb16.trans (show some (Obj.cells #[.int .i64 0, .int .i64 0] 51 (0, 0)) = some (Obj.cells #[.int .i64 N, .int .i64 D] 51 (0, 0)) by rw [hN0.out, hD0.out])
          have H := Lib.hid (And.intro hb13' (And.intro hb16y (And.intro hI9 K9)))
          clear hb13' hb16 hb16y hI9 K9
          go_wp2
          go_meet
          case rel => exact ⟨rfl, H.out.1, H.out.2.1, H.out.2.2.1, H.out.2.2.2⟩
      case rest =>
        clear hb13' hb16 hI9 K9 hKset hFo hLN0
        rename World => wz
        obtain ⟨rfl, hb13, hb16, hI, K⟩ := hcut
        have z13 := (blk_facts hb13).1
        have z16 := (blk_facts hb16).1
        have zc := (blk_facts (hK _ K)).1
        go_wp2_with fail
        refine (hAh.out _ _ _ _ _ (hKF _ K) hI (hTb.out _ (hKB _ K))).mono ?_; rintro e w11 ⟨A3, n3, c3, rfl, hP, B11⟩
        replace hI := hI.below B11
        replace K := hKb _ _ K B11
        clear zc z13 z16 hb13 hb16 B11 hAh
        go_wp2_with fail
        refine (orE_c _ _ _ [FE, WE sp] _ (R1.litAt _ _ _ _ (by first | rfl | simp) rfl (by simp))).mono ?_; rintro e w' ⟨rfl, rfl⟩
        rw [hAW.out]
        clear hAW
        replace hI := hI.below (below_new _ (.cells #[.int .i64 FE, .int .i64 (WE sp)] 29))
        replace hP := hP.below (below_new _ (.cells #[.int .i64 FE, .int .i64 (WE sp)] 29))
        replace K := hKb _ _ K (below_new _ (.cells #[.int .i64 FE, .int .i64 (WE sp)] 29))
        generalize hAEq : AE sp = EA at *
        have hAEq' := Lib.hid hAEq
        clear hAEq
        go_upto_if 98 with (fail)
        go_cut [19] (fun s19 wa => ∃ A4 n4 c4, s19 = .slice A4 n4 c4 ∧ RPr wa A4 n4 (AL sp) ∧ RPr wa A3 n3 (AL sp) ∧ KK wa)
        case first =>
          clear hNe hNo hLo hFR hNW hNL0
          by_cases h0 : EA = 0
          · subst h0
            go_wp2_with fail
            refine (hAo.out _ _ _ _ _ (hKF _ K) hI (hTb.out _ (hKB _ K)) hAEq'.out).mono ?_; rintro e w12 ⟨A4, n4, c4, rfl, hQ, B12⟩
            have hP2 := hP.below B12
            have K2 := hKb _ _ K B12
            clear hP K B12 hI
            go_wp2
            go_meet
            case rel => exact ⟨_, _, _, rfl, hQ, hP2, K2⟩
          · have hz := Lib.hid (hAL0.out sp (by rw [hAEq'.out]; exact h0))
            have ht : (EA == 0) = false := beq_eq_false_iff_ne.2 h0
            clear h0
            go_wp2
            go_meet
            case rel => exact ⟨none, 0, 0, rfl, by rw [hz.out]; exact RN.nil_ _ _ _ _ _, hP, K⟩
        case rest =>
          clear hP hI K hAo hAL0
          rename World => wa
          obtain ⟨A4, n4, c4, rfl, hQ, hP, K⟩ := hcut
          go_wp2_with fail
          refine (equalPr_same _ _ _ _ _ _ _ _ hP hQ).mono ?_; rintro e w13 ⟨rfl, B13⟩
          replace K := hKb _ _ K B13
          have zc := (blk_facts (hK _ K)).1
          clear hP hQ B13
          go_wp2_with fail
          refine (hNe.out _ _ _ (hKF _ K) (hTb.out _ (hKB _ K))).mono ?_; rintro e w14 ⟨A5, n5, c5, rfl, hP, B14⟩
          replace K := hKb _ _ K B14
          clear zc B14 hNe
          go_wp2_with fail
          refine (timeFault_c _ _).mono ?_; rintro e w' ⟨rfl, rfl⟩
          go_wp2_with fail
          refine (orE_c _ _ _ [FE, timeErr tg] _ (R1.litAt _ _ _ _ (by first | rfl | simp) rfl (by simp))).mono ?_; rintro e w' ⟨rfl, rfl⟩
          replace hP := hP.below (below_new _ (.cells #[.int .i64 FE, .int .i64 (timeErr tg)] 29))
          replace K := hKb _ _ K (below_new _ (.cells #[.int .i64 FE, .int .i64 (timeErr tg)] 29))
          have hOF := Lib.hid (fun (h : orV [FE, timeErr tg] = 0) => show FE = 0 by rw [orV_two] at h; split at h <;> omega)
          have hNW1 := Lib.hid (hNW.out tg ln)
          generalize orV [FE, timeErr tg] = F1 at *
          clear hNW
          go_upto_if 125 with (fail)
          go_cut [21] (fun s21 wb => s21 = .int .i64 (NE tg ln) ∧ RPr wb A5 n5 (NL tg ln) ∧ KK wb)
          case first =>
            clear hNo hNL0 hTb
            have zc := (blk_facts (hK _ K)).1
            by_cases h0 : F1 = 0
            · subst h0
              have hRE := Lib.hid (hFR.out (hOF.out (by first | rfl | trivial)))
              have hn := Lib.hid (show spanErr ln 0 LV = NE tg ln by rw [← hNW1.out]; first | rfl | simp)
              go_wp2_with fail
              refine (hLo.out _ hRE.out).mono ?_; rintro e w15 ⟨rfl, B15⟩
              have hP2 := hP.below B15
              have K2 := hKb _ _ K B15
              clear zc hP K B15
              go_wp2_with fail
              refine (spanFault_c _ _ _ _).mono ?_; rintro e w' ⟨rfl, rfl⟩
              go_wp2
              go_meet
              case rel => exact ⟨by rw [← hn.out], hP2, K2⟩
            · have hn := Lib.hid (show F1 = NE tg ln by rw [← hNW1.out, if_neg h0])
              have ht : (F1 == 0) = false := beq_eq_false_iff_ne.2 h0
              clear h0
              go_wp2
              go_meet
              case rel => exact ⟨by rw [← hn.out], hP, K⟩
          case rest =>
            clear hP K hNW1 hOF hFR hLo
            rename World => wb
            obtain ⟨rfl, hP, K⟩ := hcut
            generalize hNEq : NE tg ln = EN at *
            have hNEq' := Lib.hid hNEq
            clear hNEq
            go_upto_if 131 with (fail)
            go_cut [22] (fun s22 wd => ∃ A6 n6 c6, s22 = .slice A6 n6 c6 ∧ RPr wd A6 n6 (NL tg ln) ∧ RPr wd A5 n5 (NL tg ln) ∧ KK wd)
            case first =>
              by_cases h0 : EN = 0
              · subst h0
                go_wp2_with fail
                refine (hNo.out _ _ _ (hKF _ K) (hTb.out _ (hKB _ K)) hNEq'.out).mono ?_; rintro e w16 ⟨A6, n6, c6, rfl, hQ, B16⟩
                have hP2 := hP.below B16
                have K2 := hKb _ _ K B16
                clear hP K B16
                go_wp2
                go_meet
                case rel => exact ⟨_, _, _, rfl, hQ, hP2, K2⟩
              · have hz := Lib.hid (hNL0.out tg ln (by rw [hNEq'.out]; exact h0))
                have ht : (EN == 0) = false := beq_eq_false_iff_ne.2 h0
                clear h0
                go_wp2
                go_meet
                case rel => exact ⟨none, 0, 0, rfl, by rw [hz.out]; exact RN.nil_ _ _ _ _ _, hP, K⟩
            case rest =>
              clear hP K hNo hNL0
              rename World => wd
              obtain ⟨A6, n6, c6, rfl, hQ, hP, K⟩ := hcut
              go_wp2_with fail
              refine (equalPr_same _ _ _ _ _ _ _ _ hP hQ).mono ?_; rintro e w17 ⟨rfl, B17⟩
              replace K := hKb _ _ K B17
              clear hP hQ B17
              go_wp2_with fail
              refine (raced_c _).mono ?_; rintro e w18 ⟨rfl, B18⟩
              have hBB := hKB _ (hKb _ _ K B18)
              clear K B18
              go_wp2
              go_ret
              exact ⟨rfl, hBB⟩
end Go.Proofs.YtjfppcejcbfngaaDoor
