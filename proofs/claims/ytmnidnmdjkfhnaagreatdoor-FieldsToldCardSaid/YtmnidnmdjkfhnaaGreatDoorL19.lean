/- FieldsTold: CheckField, At, Order and Gaps answer as the reference says: the walk. -/
import Derived.Test.YtmnidnmdjkfhnaaGreatDoorWhereF
import Derived.Test.YtmnidnmdjkfhnaaGreatDoorGapsX
import Derived.Test.YtmnidnmdjkfhnaaGreatDoorEqWh
import Derived.Test.YtmnidnmdjkfhnaaGreatDoorL02A
import Derived.Test.YtmnidnmdjkfhnaaGreatDoorDraws
import Derived.Test.YtmnidnmdjkfhnaaGreatDoorLawBase
import Derived.Deep.DeepCutAuto
namespace Go.Proofs.YtmnidnmdjkfhnaaGreatDoor
open Go.RowKit
set_option linter.unusedVariables false

def K19 (w : World) (b : Nat) (r : Race) (A : Option Addr) (n : Nat) (l : List Sw) (wx : World) : Prop := wx.heap[b]? = some (.cells r.cells 27 (0, 0)) ∧ RSw wx A n l ∧ Below w.heap.size w wx
theorem K19.below {w : World} {b : Nat} {r : Race} {A : Option Addr} {n : Nat} {l : List Sw} {wx w' : World} (h : K19 w b r A n l wx) (hb : Below wx.heap.size wx w') : K19 w b r A n l w' := ⟨blk_below h.1 hb, h.2.1.below hb, below_next h.2.2 hb⟩
theorem K19.stream {w : World} {b : Nat} {r : Race} {A : Option Addr} {n : Nat} {l : List Sw} {wx w' : World} {zs : List Int} {k : Nat} (h : K19 w b r A n l wx) (hs : St wx w.heap.size zs k) (hg : wx.grownBy w' (some w.heap.size)) : K19 w b r A n l w' :=
  ⟨(hs.keep hg) b r.cells _ (0, 0) (by decide) h.1, h.2.1.stream hs hg, h.2.2.trans (grown_below hg (Nat.le_refl _) h.2.2.size)⟩
theorem equalWh_same (A1 A2 : Option Addr) (n c m d : Nat) (l : List Wh) (w : World) (h1 : RWh w A1 n l) (h2 : RWh w A2 m l) :
    Calls Tryz.prog 24 #[.slice A1 n c, .slice A2 m d] w fun e w' => e = .returned (.bool true) ∧ Below w.heap.size w w' := by
  refine (equalWh_c A1 A2 n c m d l l w h1 h2).mono ?_
  rintro e w' ⟨rfl, q, rfl⟩
  exact ⟨by simp, below_drewN (Below.refl _ _) q⟩
theorem equalS_same (A1 A2 : Option Addr) (n c m d : Nat) (l : List ByteArray) (w : World) (h1 : RS 9 w A1 n l) (h2 : RS 9 w A2 m l) :
    Calls Tryz.prog 25 #[.slice A1 n c, .slice A2 m d] w fun e w' => e = .returned (.bool true) ∧ Below w.heap.size w w' := by
  refine (equalS_c A1 A2 n c m d l w h1 h2).mono ?_
  rintro e w' ⟨rfl, q, rfl⟩
  exact ⟨rfl, below_drewN (Below.refl _ _) q⟩
theorem equalGp_same (A1 A2 : Option Addr) (n c m d : Nat) (l : List Gp) (w : World) (h1 : RGp w A1 n l) (h2 : RGp w A2 m l) :
    Calls Tryz.prog 26 #[.slice A1 n c, .slice A2 m d] w fun e w' => e = .returned (.bool true) ∧ Below w.heap.size w w' := by
  refine (equalGp_c A1 A2 n c m d l l w h1 h2).mono ?_
  rintro e w' ⟨rfl, q, rfl⟩
  exact ⟨by simp, below_drewN (Below.refl _ _) q⟩
theorem time_way {r : Race} {l : List Sw} {t : Int} : orV [fieldErr r l, spanErr t 0 360000] = timeE r l t := by
  rw [orV_two]; unfold timeE spanErr
  by_cases h : fieldErr r l = 0
  · simp [h]
  · simp [h]
theorem gaps_way {r : Race} {l : List Sw} {q : Int} : (if fieldErr r l = 0 then spanErr q 1 (lenV r) else fieldErr r l) = gapsE r l q := by
  unfold gapsE spanErr
  by_cases h : fieldErr r l = 0
  · by_cases h2 : 1 ≤ q ∧ q ≤ lenV r <;> simp [h, h2]
  · simp [h]
theorem wheresOfA_c (r : Race) (A : Option Addr) (n c : Nat) (l : List Sw) (t : Int) (w : World) (h : RSw w A n l) (hn : n ≤ 19) (h0 : timeE r l t = 0) :
    Calls Tryz.prog 22 #[r.val, .slice A n c, .int .i64 t] w fun e w' => ∃ A' n' c', e = .returned (.slice A' n' c') ∧ n' ≤ n ∧ RWh w' A' n' (atLs r l t) ∧ Below w.heap.size w w' := by
  obtain ⟨h1, h2, h3⟩ := timeE_ok h0
  refine (wheresOf_c r A n c l t w h (fieldErr_ok h1).2.2 h2 h3 hn).mono ?_
  rintro e w' ⟨A', c', he, hr, hB⟩
  exact ⟨A', n, c', he, Nat.le_refl _, by unfold atLs; rw [if_pos h0]; exact hr, hB⟩
set_option maxHeartbeats 6400000 in
set_option maxRecDepth 100000 in
theorem fieldsTold_walk (a0 : Option Addr) (len0 cap0 : Nat) (z0 : List Int) (w : World) (w0 : IsRow .i64 w a0 len0 cap0 z0) :
    Calls Tryz.prog 4 #[.slice a0 len0 cap0] w fun e w' => e = .returned (.bool true) ∧ Below w.heap.size w w' := by
  have hs := law_start w0
  clear w0
  generalize z0.take len0 = zs at *
  go_enter Tryz.func4, Tryz.ntmps4
  go_wp2_with fail
  have hs' : St (w.alloc (.cells #[.slice a0 len0 cap0, .int .i64 0] 25)) w.heap.size zs 0 := hs
  refine (fielded_c _ zs 0 _ hs' (by omega)).mono ?_; rintro e w1 ⟨r, A, n, c, l, k1, rfl, hF, hn4, s1, hk1, g1⟩
  have hB : Below w.heap.size w w1 := (below_new w _).trans (grown_below g1 (Nat.le_refl _) (by simp))
  clear hs hs' g1
  have K : K19 w w1.heap.size r A n l (w1.alloc (.cells r.cells 27)) := ⟨heap_alloc_new w1 _, hF.alloc _, hB.alloc hB.size _⟩
  have s2 := s1.alloc (.cells r.cells 27)
  generalize hb4 : w1.heap.size = b4 at *
  clear s1 hB hF
  have hCf := Lib.hid (fun W h => checkField_c r A n c l W h)
  have hAt := Lib.hid (fun t W h => atA_c r A n c l t W h (by omega))
  have hOr := Lib.hid (fun t W h => orderA_c r A n c l t W h (by omega))
  have hGa := Lib.hid (fun q W h => gapsA_c r A n c q l W h (by omega))
  have hWo := Lib.hid (fun t W h h0 => wheresOfA_c r A n c l t W h (by omega) h0)
  have hGo := Lib.hid (fun q W h h0 => gapsOfA_c r A n c q l W h (by omega) h0)
  have hLo := Lib.hid (fun W h => lengthsOf_c r W h)
  have hFR := Lib.hid (fun (h : fieldErr r l = 0) => (fieldErr_ok h).1)
  have hTW := Lib.hid (fun t => time_way (r := r) (l := l) (t := t))
  have hGW := Lib.hid (fun q => gaps_way (r := r) (l := l) (q := q))
  have hAL0 := Lib.hid (fun t (h : timeE r l t ≠ 0) => show atLs r l t = [] by unfold atLs; rw [if_neg h])
  have hGL0 := Lib.hid (fun q (h : gapsE r l q ≠ 0) => show gapsLs r l q = [] by unfold gapsLs; rw [if_neg h])
  have hK : ∀ wx, K19 w b4 r A n l wx → wx.heap[b4]? = some (.cells r.cells 27 (0, 0)) := fun wx h => h.1
  have hKF : ∀ wx, K19 w b4 r A n l wx → RSw wx A n l := fun wx h => h.2.1
  have hKB : ∀ wx, K19 w b4 r A n l wx → Below w.heap.size w wx := fun wx h => h.2.2
  have hKb : ∀ wx w', K19 w b4 r A n l wx → Below wx.heap.size wx w' → K19 w b4 r A n l w' := fun _ _ h hb => h.below hb
  have hKs2 : ∀ wx w' k, K19 w b4 r A n l wx → St wx w.heap.size zs k → wx.grownBy w' (some w.heap.size) → K19 w b4 r A n l w' := fun _ _ _ h hs hg => h.stream hs hg
  generalize K19 w b4 r A n l = KK at *
  generalize raceErr r = RE at *
  generalize timeE r l = TE at *
  generalize atLs r l = AL at *
  generalize gapsE r l = GE at *
  generalize gapsLs r l = GL at *
  generalize fieldErr r l = FE at *
  generalize lenV r = LV at *
  obtain ⟨key, metres, stroke, course, legs, sex, young, old⟩ := r
  dsimp only [Race.val, Race.cells] at *
  go_wp2_with fail
  refine (pickE_c _ zs _ _ _ _ [0, 1, 1500, 1600, 3100, 3117, 100000, -1, 360001] _ (s2.alloc _) (by omega) (R1.litAt _ _ _ _ (by first | rfl | (simp; done) | (simp; exact hb4)) rfl (by simp)) (by decide)).mono ?_; rintro e w3 ⟨tm, rfl, htm, s3, g3⟩
  replace K := hKs2 _ _ _ (hKb _ _ K (below_new _ (.cells #[.int .i64 0, .int .i64 1, .int .i64 1500, .int .i64 1600, .int .i64 3100, .int .i64 3117, .int .i64 100000, .int .i64 (-1), .int .i64 360001] 3))) (s2.alloc _) g3
  clear s2 g3 htm
  go_wp2_with fail
  refine (pickE_c _ zs _ _ _ _ [1, 1, 2, 3, 0, 17] _ (s3.alloc _) (by omega) (R1.litAt _ _ _ _ (by first | rfl | (simp; done) | (simp; exact hb4)) rfl (by simp)) (by decide)).mono ?_; rintro e w4 ⟨qq, rfl, hqq, s4, g4⟩
  replace K := hKs2 _ _ _ (hKb _ _ K (below_new _ (.cells #[.int .i64 1, .int .i64 1, .int .i64 2, .int .i64 3, .int .i64 0, .int .i64 17] 3))) (s3.alloc _) g4
  clear s3 g4 hqq s4 hKs2
  have zc := (blk_facts (hK _ K)).1
  go_wp2_with fail
  refine (hCf.out _ (hKF _ K)).mono ?_; rintro e w5 ⟨rfl, B5⟩
  replace K := hKb _ _ K B5
  clear zc B5 hCf
  have zc := (blk_facts (hK _ K)).1
  go_wp2_with fail
  refine (hAt.out _ _ (hKF _ K)).mono ?_; rintro e w6 ⟨A9, n9, c9, rfl, hn9, hW, B6⟩
  replace K := hKb _ _ K B6
  clear zc B6 hAt
  have zc := (blk_facts (hK _ K)).1
  go_wp2_with fail
  refine (hOr.out _ _ (hKF _ K)).mono ?_; rintro e w7 ⟨A11, n11, c11, rfl, hn11, hS, B7⟩
  replace K := hKb _ _ K B7
  replace hW := hW.below B7
  clear zc B7 hOr
  have zc := (blk_facts (hK _ K)).1
  go_wp2_with fail
  refine (hGa.out _ _ (hKF _ K)).mono ?_; rintro e w8 ⟨A13, n13, c13, rfl, hn13, hG, B8⟩
  replace K := hKb _ _ K B8
  replace hW := hW.below B8
  replace hS := hS.below B8
  clear zc B8 hGa
  go_wp2_with fail
  refine (spanFault_c _ _ _ _).mono ?_; rintro e w' ⟨rfl, rfl⟩
  go_wp2_with fail
  refine (orE_c _ _ _ [FE, spanErr tm 0 360000] _ (R1.litAt _ _ _ _ (by first | rfl | simp) rfl (by simp))).mono ?_; rintro e w' ⟨rfl, rfl⟩
  rw [hTW.out]
  replace K := hKb _ _ K (below_new _ (.cells #[.int .i64 FE, .int .i64 (spanErr tm 0 360000)] 38))
  replace hW := hW.below (below_new _ (.cells #[.int .i64 FE, .int .i64 (spanErr tm 0 360000)] 38))
  replace hS := hS.below (below_new _ (.cells #[.int .i64 FE, .int .i64 (spanErr tm 0 360000)] 38))
  replace hG := hG.below (below_new _ (.cells #[.int .i64 FE, .int .i64 (spanErr tm 0 360000)] 38))
  clear hTW
  have hGW1 := Lib.hid (hGW.out qq)
  clear hGW
  generalize hTEq : TE tm = ET at *
  generalize hGEq : GE qq = EG at *
  have hTEq' := Lib.hid hTEq
  have hGEq' := Lib.hid hGEq
  clear hTEq hGEq
  go_upto_if 70 with (fail)
  go_cut [16] (fun s16 wb => s16 = .int .i64 EG ∧ RWh wb A9 n9 (AL tm) ∧ RS 9 wb A11 n11 ((AL tm).map Wh.who) ∧ RGp wb A13 n13 (GL qq) ∧ KK wb)
  case first =>
    clear hWo hGo hAL0 hGL0
    have zc := (blk_facts (hK _ K)).1
    by_cases h0 : FE = 0
    · subst h0
      have hn := Lib.hid (show spanErr qq 1 LV = EG by rw [← hGW1.out]; first | rfl | simp)
      have hRE := Lib.hid (hFR.out (by first | rfl | trivial))
      go_wp2_with fail
      refine (hLo.out _ hRE.out).mono ?_; rintro e w10 ⟨rfl, B10⟩
      have K2 := hKb _ _ K B10
      have hW2 := hW.below B10
      have hS2 := hS.below B10
      have hG2 := hG.below B10
      clear zc K hW hS hG B10
      go_wp2_with fail
      refine (spanFault_c _ _ _ _).mono ?_; rintro e w' ⟨rfl, rfl⟩
      go_wp2
      go_meet
      case rel => exact ⟨by rw [← hn.out], hW2, hS2, hG2, K2⟩
    · have hn := Lib.hid (show FE = EG by rw [← hGW1.out, if_neg h0])
      have ht : (FE == 0) = false := beq_eq_false_iff_ne.2 h0
      clear h0
      go_wp2
      go_meet
      case rel => exact ⟨by rw [← hn.out], hW, hS, hG, K⟩
  case rest =>
    clear hW hS hG K hGW1 hFR hLo
    rename World => wb
    obtain ⟨rfl, hW, hS, hG, K⟩ := hcut
    go_upto_if 76 with (fail)
    go_cut [17, 18] (fun s17 s18 wb => ∃ A17 n17 c17 A18 n18 c18, s17 = .slice A17 n17 c17 ∧ s18 = .slice A18 n18 c18 ∧ RWh wb A17 n17 (AL tm) ∧ RS 9 wb A18 n18 ((AL tm).map Wh.who) ∧ RWh wb A9 n9 (AL tm) ∧ RS 9 wb A11 n11 ((AL tm).map Wh.who) ∧ RGp wb A13 n13 (GL qq) ∧ KK wb)
    case first =>
      clear hGo hGL0
      by_cases h0 : ET = 0
      · subst h0
        have zc := (blk_facts (hK _ K)).1
        go_wp2_with fail
        refine (hWo.out _ _ (hKF _ K) hTEq'.out).mono ?_; rintro e w11 ⟨A17, n17, c17, rfl, hn17, hQ, B11⟩
        have K2 := hKb _ _ K B11
        have hW2 := hW.below B11
        have hS2 := hS.below B11
        have hG2 := hG.below B11
        clear zc K hW hS hG B11 hWo hAL0
        generalize AL tm = WL at *
        have hl17 := Lib.hid hQ.len
        go_wp2_with fail
        go_loopw [18, 83] (fun out i wr => ∃ (j : Nat) (acc : List ByteArray), j ≤ n17 ∧ i = .int .i64 j ∧ Hid (acc.length = j) ∧ wr.ownsRow w11.heap.size 9 1 out j (acc.map Value.string) ∧ Below w11.heap.size w11 wr ∧ Hid (acc ++ (WL.drop j).map Wh.who = WL.map Wh.who)) (fun _ i _ => n17 - (intOf i).toNat)
        case atStart => exact ⟨0, [], Nat.zero_le _, rfl, Lib.hid rfl, World.ownsRow_nil _ _ _ _, Below.refl _ _, Lib.hid rfl⟩
        case round =>
          obtain ⟨j, acc, hj, rfl, hla, hown, hBr, hGG⟩ := hrel
          by_cases hlt : j < n17
          · obtain ⟨b, off, x, rfl, hbl, hx, hc⟩ := (hQ.below hBr).at_ hlt
            have c0 : wr.cell? ⟨b, off + j * 3, none⟩ = some (.string x.who) := hc 0 _ rfl
            have c1 : wr.cell? ⟨b, off + j * 3 + 1, none⟩ = some (.int .i64 x.num) := hc 1 _ rfl
            have c2 : wr.cell? ⟨b, off + j * 3 + 2, none⟩ = some (.int .i64 x.den) := hc 2 _ rfl
            have hT := Lib.hid (whos_at hx)
            obtain ⟨who, N, D⟩ := x
            dsimp only at *
            clear hx hc
            have hz := hBr.size
            have hown5 := hown.alloc (.cells #[.string who, .int .i64 N, .int .i64 D] 67)
            have hB5 := hBr.alloc hz (.cells #[.string who, .int .i64 N, .int .i64 D] 67)
            have hx5 := heap_alloc_new wr (.cells #[.string who, .int .i64 N, .int .i64 D] 67)
            have z0 := (blk_facts hx5).1 0
            have hz5 := hB5.size
            clear hKF hKB hKb hK
            go_wp2_with (at_builtin; refine wpList_app rfl (.tmp 87) (.tmp 90) 45 rfl Tryz.underlying45 info_str rfl (by omega) (by omega) hown5 rfl rfl (by first | rfl | (simp; done)) rfl (by simp [Value.oneCell']) (by omega) hz5 ?_; intro v4 w4 hown4 hg4; have hB4 := below_own hB5 hown5 hg4 hz5 (Nat.le_refl _))
            have H := Lib.hid (And.intro (show w4.ownsRow w11.heap.size 9 1 v4 (j + 1) ((acc ++ [who]).map Value.string) by rw [List.map_append]; exact hown4) hB4)
            clear hown4 hown5 hB5 hB4
            go_roundw
            case rel => exact ⟨j + 1, acc ++ [who], by omega, by go_num, Lib.hid (by rw [List.length_append, hla.out]; rfl), H.out.1, H.out.2, Lib.hid (by rw [← hGG.out, hT.out]; simp)⟩
            case measure => simp [intOf]; omega
          · obtain rfl : j = n17 := by omega
            have hG3 : acc = WL.map Wh.who := by have := hGG.out; rw [drop_end (by rw [hl17.out]; exact Nat.le_refl _)] at this; simpa using this
            have hG3' := Lib.hid hG3
            clear hG3
            obtain ⟨A2, c2, rfl⟩ := own_shape hown
            have K3 := hKb _ _ K2 hBr
            have hQ3 := hQ.below hBr
            have hW3 := hW2.below hBr
            have hS3 := hS2.below hBr
            have hG4 := hG2.below hBr
            have hN3 : RS 9 wr A2 j (WL.map Wh.who) := by rw [← hG3'.out]; exact R1.of_own hown (by omega)
            clear K2 hQ hW2 hS2 hG2 hown hBr hG3' hGG hla
            go_wp2
            go_meet
            case rel => exact ⟨A17, j, c17, A2, j, c2, rfl, rfl, hQ3, hN3, hW3, hS3, hG4, K3⟩
      · have hz := Lib.hid (hAL0.out tm (by rw [hTEq'.out]; exact h0))
        have ht : (ET == 0) = false := beq_eq_false_iff_ne.2 h0
        clear h0
        go_wp2
        go_meet
        case rel => exact ⟨none, 0, 0, none, 0, 0, rfl, rfl, by rw [hz.out]; exact RN.nil_ _ _ _ _ _, by rw [hz.out]; exact R1.nil_ _ _ _ _, hW, hS, hG, K⟩
    case rest =>
      clear hW hS hG K hWo hAL0
      rename World => wc
      obtain ⟨A17, n17, c17, A18, n18, c18, rfl, rfl, hQ, hN, hW, hS, hG, K⟩ := hcut
      go_upto_if 94 with (fail)
      go_cut [19] (fun s19 wb => ∃ A19 n19 c19, s19 = .slice A19 n19 c19 ∧ RGp wb A19 n19 (GL qq) ∧ RWh wb A17 n17 (AL tm) ∧ RS 9 wb A18 n18 ((AL tm).map Wh.who) ∧ RWh wb A9 n9 (AL tm) ∧ RS 9 wb A11 n11 ((AL tm).map Wh.who) ∧ RGp wb A13 n13 (GL qq) ∧ KK wb)
      case first =>
        by_cases h0 : EG = 0
        · subst h0
          go_wp2_with fail
          refine (hGo.out _ _ (hKF _ K) hGEq'.out).mono ?_; rintro e w12 ⟨A19, n19, c19, rfl, hn19, hP, B12⟩
          have K2 := hKb _ _ K B12
          have hW2 := hW.below B12
          have hS2 := hS.below B12
          have hG2 := hG.below B12
          have hQ2 := hQ.below B12
          have hN2 := hN.below B12
          clear K hW hS hG hQ hN B12
          go_wp2
          go_meet
          case rel => exact ⟨_, _, _, rfl, hP, hQ2, hN2, hW2, hS2, hG2, K2⟩
        · have hz := Lib.hid (hGL0.out qq (by rw [hGEq'.out]; exact h0))
          have ht : (EG == 0) = false := beq_eq_false_iff_ne.2 h0
          clear h0
          go_wp2
          go_meet
          case rel => exact ⟨none, 0, 0, rfl, by rw [hz.out]; exact RN.nil_ _ _ _ _ _, hQ, hN, hW, hS, hG, K⟩
      case rest =>
        clear hW hS hG K hQ hN hGo hGL0
        rename World => wd
        obtain ⟨A19, n19, c19, rfl, hP, hQ, hN, hW, hS, hG, K⟩ := hcut
        go_wp2_with fail
        refine (equalWh_same _ _ _ _ _ _ _ _ hW hQ).mono ?_; rintro e w13 ⟨rfl, B13⟩
        replace K := hKb _ _ K B13
        replace hS := hS.below B13
        replace hN := hN.below B13
        replace hG := hG.below B13
        replace hP := hP.below B13
        clear hW hQ B13
        go_wp2_with fail
        refine (equalS_same _ _ _ _ _ _ _ _ hS hN).mono ?_; rintro e w14 ⟨rfl, B14⟩
        replace K := hKb _ _ K B14
        replace hG := hG.below B14
        replace hP := hP.below B14
        clear hS hN B14
        go_wp2_with fail
        refine (equalGp_same _ _ _ _ _ _ _ _ hG hP).mono ?_; rintro e w15 ⟨rfl, B15⟩
        replace K := hKb _ _ K B15
        clear hG hP B15
        go_wp2_with fail
        refine (raced_c _).mono ?_; rintro e w16 ⟨rfl, B16⟩
        have hBB := hKB _ (hKb _ _ K B16)
        clear K B16
        go_wp2
        go_ret
        exact ⟨rfl, hBB⟩
end Go.Proofs.YtmnidnmdjkfhnaaGreatDoor
