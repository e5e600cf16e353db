/- IdealIsBest: nobody is faster than all best lengths together; who holds out stays between best and slowest: the walk. -/
import Derived.Test.YtcdoidhookghaaaDoorTwo
import Derived.Test.YtcdoidhookghaaaDoorKept
import Derived.Test.YtcdoidhookghaaaDoorP17
import Derived.Test.YtcdoidhookghaaaDoorReady
import Derived.Test.YtcdoidhookghaaaDoorDraws
import Derived.Test.YtcdoidhookghaaaDoorLawBase
import Derived.IntWalk
namespace Go.Proofs.YtcdoidhookghaaaDoor
open Go.RowKit
set_option linter.unusedVariables false

theorem idealR_c (r : Race) (A : Option Addr) (n c : Nat) (l : List Sw) (w : World) (h : RSw w A n l) (h0 : someErr r l = 0) :
    Calls Tryd.prog 11 #[r.val, .slice A n c] w fun e w' => e = .returned (.tuple #[.int .i64 (idealV r l), .int .i64 0]) ∧ Below w.heap.size w w' := by
  have h1 := idealA_c r A n c l w h
  rw [h0] at h1
  exact h1
theorem holdR_c (r : Race) (A1 A2 : Option Addr) (n1 n2 c1 c2 : Nat) (best most : List Int) (w : World) (h1 : RI 3 w A1 n1 best) (h2 : RI 3 w A2 n2 most) (h0 : holdE r best most = 0) :
    Calls Tryd.prog 22 #[r.val, .slice A1 n1 c1, .slice A2 n2 c2] w fun e w' => ∃ A' n' c', e = .returned (.tuple #[.int .i64 (sumL (holdLs best most)), .slice A' n' c', .int .i64 0]) ∧ RI 3 w' A' n' (runL 0 (holdLs best most)) ∧ Below w.heap.size w w' := by
  refine (hold_c r A1 A2 n1 n2 c1 c2 best most w h1 h2).mono ?_
  rintro e w' ⟨A', n', c', he, hr, hb⟩
  rw [h0] at he hr
  exact ⟨A', n', c', he, hr, hb⟩
theorem checkR_c (r : Race) (A : Option Addr) (n c : Nat) (l : List Int) (w : World) (h : RI 3 w A n l) (h0 : checkSp r l = 0) :
    Calls Tryd.prog 63 #[r.val, .slice A n c] w fun e w' => e = .returned (.int .i64 0) ∧ Below w.heap.size w w' := by
  have h1 := checkSplits_c r A n c l w h
  rw [h0] at h1
  exact h1
theorem pair_at {la lb : List Int} {x y : Int} (hl : la.length = lb.length) (hx : 1400 ≤ x ∧ x ≤ y ∧ y ≤ 1550) (h : ∀ (k : Nat) (b m : Int), la[k]? = some b → lb[k]? = some m → 1400 ≤ b ∧ b ≤ m ∧ m ≤ 1550) : ∀ (k : Nat) (b m : Int), (la ++ [x])[k]? = some b → (lb ++ [y])[k]? = some m → 1400 ≤ b ∧ b ≤ m ∧ m ≤ 1550 := by
  intro k b m hb hm
  rcases Nat.lt_trichotomy k la.length with hk | hk | hk
  · rw [List.getElem?_append_left hk] at hb
    rw [List.getElem?_append_left (by omega)] at hm
    exact h k b m hb hm
  · subst hk
    rw [List.getElem?_append_right (Nat.le_refl _), Nat.sub_self] at hb
    rw [List.getElem?_append_right (by omega), show la.length - lb.length = 0 by omega] at hm
    simp only [List.getElem?_cons_zero, Option.some.injEq] at hb hm
    subst hb; subst hm; exact hx
  · rw [List.getElem?_eq_none (by rw [List.length_append]; simp; omega)] at hb; cases hb
set_option maxHeartbeats 6400000 in
set_option maxRecDepth 100000 in
theorem idealIsBest_walk (a0 : Option Addr) (len0 cap0 : Nat) (z0 : List Int) (w : World) (w0 : IsRow .i64 w a0 len0 cap0 z0) :
    Calls Tryd.prog 7 #[.slice a0 len0 cap0] w fun e w' => e = .returned (.bool true) ∧ Below w.heap.size w w' := by
  have hs := law_start w0
  clear w0
  generalize z0.take len0 = zs at *
  go_enter Tryd.func7, Tryd.ntmps7
  go_wp2_with fail
  have hs' : St (w.alloc (.cells #[.slice a0 len0 cap0, .int .i64 0] 25)) w.heap.size zs 0 := hs
  refine (plainRace_c w.heap.size zs 0 _ hs' (by omega)).mono ?_; rintro e w1 ⟨rfl, s1, g1⟩
  rw [plainRace_2] at s1
  have hB : Below w.heap.size w w1 := (below_new w _).trans (grown_below g1 (Nat.le_refl _) (by simp))
  clear hs hs' g1
  have hok := plainRace_ok zs 0
  have hlv16 := plain_len zs 0
  have hRF := Lib.hid (fun l h => right_field (zs := zs) (k := 0) (l := l) h)
  have hRR := Lib.hid (fun l h x hx => right_rise (zs := zs) (k := 0) (l := l) h (x := x) hx)
  generalize (plainRace zs 0).1 = r at *
  have hlb := lenV_bd hok
  have s2 := s1.alloc (.cells r.cells 27)
  have hB2 := hB.alloc hB.size (.cells r.cells 27)
  have hb2 := heap_alloc_new w1 (.cells r.cells 27)
  have hRi := Lib.hid (fun W h hk => rightField_c w.heap.size zs (0 + 9) r W h hk hok)
  have hLo := Lib.hid (fun W => lengthsOf_c r W hok)
  have hId := Lib.hid (fun A n c l W h h0 => idealR_c r A n c l W h h0)
  have hHo := Lib.hid (fun A1 A2 n1 n2 c1 c2 best most W h1 h2 h0 => holdR_c r A1 A2 n1 n2 c1 c2 best most W h1 h2 h0)
  have hCk := Lib.hid (fun A n c l W h h0 => checkR_c r A n c l W h h0)
  have hHF := Lib.hid (fun best most h1 h2 h3 h4 => hold_fine (r := r) (best := best) (most := most) hok h1 h2 h3 h4)
  have hIL := Lib.hid (fun l x h0 hx h1 h2 h3 => ideal_le (r := r) (l := l) (x := x) h0 hx h1 h2 h3)
  have hSE := Lib.hid (fun l (h : fieldErr r l = 0) (h1 : 1 ≤ l.length) => show someErr r l = 0 by unfold someErr; rw [if_neg (by simp [h]), if_neg (by omega)])
  generalize hb4 : w1.heap.size = b4 at *
  have hlt4 : w.heap.size < b4 := by have := s1.lt; omega
  have hKm := Lib.hid (fun A n l k wx (h1 : wx.heap[b4]? = some (.cells r.cells 27 (0, 0))) h2 h3 h4 => (KF.mk h1 h2 h3 h4 : KF w b4 r A n l zs k wx))
  have hKr : ∀ A n l k wx, KF w b4 r A n l zs k wx → wx.heap[b4]? = some (.cells r.cells 27 (0, 0)) := fun A n l k wx h => h.rc
  have hKF : ∀ A n l k wx, KF w b4 r A n l zs k wx → RSw wx A n l := fun A n l k wx h => h.fd
  have hKs : ∀ A n l k wx, KF w b4 r A n l zs k wx → St wx w.heap.size zs k := fun A n l k wx h => h.st
  have hKB : ∀ A n l k wx, KF w b4 r A n l zs k wx → Below w.heap.size w wx := fun A n l k wx h => h.bel
  have hKb : ∀ A n l k wx w', KF w b4 r A n l zs k wx → Below wx.heap.size wx w' → KF w b4 r A n l zs k w' := fun _ _ _ _ _ _ h hb => h.below hb
  obtain ⟨M, hM⟩ : ∃ M : Nat, lenV r = M := ⟨(lenV r).toNat, by omega⟩
  rw [hM] at hlb hlv16
  simp only [hM, Int.toNat_natCast] at hRR hLo hIL hHF
  clear hM s1 hB hok
  generalize KF w b4 r = KK at *
  generalize RightF zs r = RF at *
  generalize fieldErr r = FE at *
  generalize someErr r = SE at *
  generalize idealV r = IV at *
  generalize holdE r = HE at *
  generalize checkSp r = CS at *
  obtain ⟨key, metres, stroke, course, legs, sex, young, old⟩ := r
  dsimp only [Race.val, Race.cells] at *
  have zc := (blk_facts hb2).1
  go_wp2_with fail
  refine (hRi.out _ s2 (by omega)).mono ?_; rintro e w3 ⟨A, n, c, l, k3, rfl, hown, hll, hn4, hri, hF, s3, hk3, g3⟩
  have K := hKm.out A n l k3 w3 (s2.keep g3 b4 _ _ (0, 0) (by decide) hb2) (RSw.of_own hown hll (by omega) hri) s3 (hB2.trans (grown_below g3 (Nat.le_refl _) hB2.size))
  clear zc hRi s2 hB2 hb2 hown hri s3 g3 hKm
  by_cases h0 : n = 0
  · subst h0
    have hBB := hKB _ _ _ _ _ K
    clear K hKr hKF hKs hKB hKb hLo hId hHo hCk hHF hIL hSE hRF hRR
    go_wp2_with fail
    refine (ready_c _).mono ?_; rintro e w4 ⟨rfl, B4⟩
    have hB4 := below_next hBB B4
    go_wp2
    go_ret
    exact ⟨rfl, hB4⟩
  · have hne : ((n : Int) == 0) = false := beq_eq_false_iff_ne.2 (by omega)
    have hS0 := hSE.out l (hRF.out l hF) (by omega)
    have hF' := Lib.hid hF
    have hS0' := Lib.hid hS0
    have hll' := Lib.hid hll
    clear hF hS0 h0 hll
    have zc := (blk_facts (hKr _ _ _ _ _ K)).1
    go_wp2_with fail
    refine (hId.out _ _ _ _ _ (hKF _ _ _ _ _ K) hS0'.out).mono ?_; rintro e w4 ⟨rfl, B4⟩
    replace K := hKb _ _ _ _ _ _ K B4
    clear zc B4 hId
    have hIL' := Lib.hid (fun x hx h1 h2 h3 => hIL.out l x hS0'.out hx h1 h2 h3)
    have hRR' := Lib.hid (fun x hx => hRR.out l hF'.out x hx)
    clear hIL hRR hRF hSE hS0' hF'
    generalize IV l = I at *
    go_wp2_with fail
    go_loopw [40] (fun i wr => ∃ p : Nat, p ≤ n ∧ i = .int .i64 p ∧ KK A n l zs k3 wr) (fun i _ => n - (intOf i).toNat)
    case atStart => exact ⟨0, Nat.zero_le _, rfl, K⟩
    case round =>
      clear K
      obtain ⟨p, hp, rfl, K⟩ := hrel
      by_cases hlt : p < n
      · obtain ⟨b, off, x, hA, hbl, hx, c0, c1, hI⟩ := (hKF _ _ _ _ _ K).at2 hlt
        have hxm := List.mem_of_getElem? hx
        have hxr := hRR'.out x hxm
        have hxl := hI.len
        obtain ⟨bX, oX, tX, hXA, lX, htX, cX⟩ := hI.at_ (k := x.n - 1) (by omega)
        have hlx := last_at hI.len (by omega)
        have hge : I ≤ tX := by
          have h1 := hIL'.out x hxm hxr.1 hxr.2 (by omega)
          rw [hlx] at htX
          injection htX with htX
          omega
        have hn1 : 1 ≤ x.n := by omega
        have hnb := hI.bd
        subst hA
        obtain ⟨who, xA, xn, xc, xs⟩ := x
        dsimp only at *
        subst hXA
        clear hx hxm hxr hxl hI htX hlx
        have e2 : 0 ≤ (xn : Int) - 1 := by omega
        have e2' : (1 : Int) ≤ (xn : Int) := by omega
        have e4 : (xn : Int) - 1 < xn := by omega
        have e1 : IntKind.i64.wrap ((xn : Int) - 1) = (xn : Int) - 1 := IntWalk.i64_in _ (by omega)
        have e3 : ((xn : Int) - 1).toNat = xn - 1 := by omega
        have hd : decide (tX < I) = false := decide_eq_false (by omega)
        have hx5 := heap_alloc_new wr (.cells #[.string who, .slice (some ⟨bX, oX, none⟩) xn xc] 86)
        have cX5 : (wr.alloc (.cells #[.string who, .slice (some ⟨bX, oX, none⟩) xn xc] 86)).cell? ⟨bX, oX + (xn - 1), none⟩ = some (.int .i64 tX) := (World.cell?_alloc_lt wr _ ⟨bX, oX + (xn - 1), none⟩ (by show bX < wr.heap.size; omega)).trans cX
        have z0 := (blk_facts hx5).1 0
        have z1 := (blk_facts hx5).1 1
        have K5 := hKb _ _ _ _ _ _ K (below_new wr (.cells #[.string who, .slice (some ⟨bX, oX, none⟩) xn xc] 86))
        clear K hx5
        go_wp2_with fail
        go_roundw
        case rel => exact ⟨p + 1, by omega, by go_num, K5⟩
        case measure => simp [intOf]; omega
      · obtain rfl : p = n := by omega
        have zc := (blk_facts (hKr _ _ _ _ _ K)).1
        go_wp2_with fail
        refine (hLo.out _).mono ?_; rintro e w5 ⟨rfl, B5⟩
        replace K := hKb _ _ _ _ _ _ K B5
        clear zc B5 hLo hIL' hRR'
        have hD := D3.fresh (hKr _ _ _ _ _ K) (hKs _ _ _ _ _ K) (hKB _ _ _ _ _ K)
        clear K hKr hKF hKs hKB hKb
        generalize hbase : w5.heap.size = base at *
        go_wp2_with fail
        go_loopw [10, 11, 12, 13, 57] (fun u1 u2 u3 u4 i wr => ∃ (q : Nat) (la lb : List Int) (lo hi : Int) (k : Nat), q ≤ M ∧ i = .int .i64 q ∧ u3 = .int .i64 lo ∧ u4 = .int .i64 hi ∧ 0 ≤ lo ∧ lo ≤ 1550 * q ∧ 0 ≤ hi ∧ hi ≤ 1550 * q ∧ Hid (lo = sumL la) ∧ Hid (hi = sumL lb) ∧ Hid (∀ (k : Nat) (b m : Int), la[k]? = some b → lb[k]? = some m → 1400 ≤ b ∧ b ≤ m ∧ m ≤ 1550) ∧ k ≤ k3 + 2 * q ∧ D3 w b4 base #[.string key, .int .i64 metres, .int .i64 stroke, .int .i64 course, .int .i64 legs, .int .i64 sex, .int .i64 young, .int .i64 old] zs u1 u2 q q la lb k wr) (fun _ _ _ _ i _ => M - (intOf i).toNat)
        case atStart => exact ⟨0, [], [], 0, 0, k3, Nat.zero_le _, rfl, rfl, rfl, by omega, by omega, by omega, by omega, Lib.hid rfl, Lib.hid rfl, Lib.hid (by simp), by omega, hD⟩
        case round =>
          clear hD
          obtain ⟨q, la, lb, lo, hi, k, hq, rfl, rfl, rfl, hlo0, hlo1, hhi0, hhi1, hlo, hhi, hpa, hk, hD⟩ := hrel
          by_cases hlt : q < M
          · have hl1 := hD.len1
            have hl2 := hD.len2
            go_wp2_with fail
            refine (rangeE_c _ zs k 1400 1500 _ hD.st (by omega) (by decide) (by decide) (by decide)).mono ?_; rintro e w6 ⟨x, rfl, hx0, hx1, s6, g6⟩
            replace hD := hD.stream s6 g6
            clear s6 g6
            go_wp2_with fail
            refine (pickB_c _ zs _ [0, 1, 50] 0 50 3 _ _ _ _ hD.st (by omega) (by first | rfl | (simp; done)) rfl rfl (by decide) (by decide) (by decide)).mono ?_; rintro e w7 ⟨y, rfl, hy0, hy1, s7, g7⟩
            have hD7 := hD.stream s7 g7
            clear hD s7 g7
            have hz7 := hD7.bs
            have hxy : IntKind.i64.wrap (x + y) = x + y := IntWalk.i64_in _ (by omega)
            have hw1 : IntKind.i64.wrap (lo + x) = lo + x := IntWalk.i64_in _ (by omega)
            have hw2 : IntKind.i64.wrap (hi + (x + y)) = hi + (x + y) := IntWalk.i64_in _ (by omega)
            go_wp2_with (first
              | (at_builtin; refine wpList_appAt rfl (.tmp 66) (.tmp 68) 22 rfl Tryd.underlying22 info_int rfl (by omega) (by omega) hD7.o1 rfl rfl (by first | rfl | (simp; done)) rfl (by simp [Value.oneCell']) (by omega) hz7 ?_; intro v8 w8 ho8 hg8 hat8; have hD8 := hD7.app1 (l' := la ++ [x]) (by rw [ints_app]; exact ho8) hg8 hat8; have hz8 := hD8.bs; clear hD7 ho8 hg8 hat8)
              | (at_builtin; refine wpList_appAt rfl (.tmp 70) (.tmp 72) 22 rfl Tryd.underlying22 info_int rfl (by omega) (by omega) hD8.o2 rfl rfl (by first | rfl | (simp; done)) rfl (by simp [Value.oneCell']) (by omega) hz8 ?_; intro v9 w9 ho9 hg9 hat9; have hD9 := hD8.app2 (l' := lb ++ [x + y]) (by rw [ints_app]; exact ho9) hg9 hat9; clear hD8 ho9 hg9 hat9))
            go_roundw
            case rel => exact ⟨q + 1, _, _, lo + x, hi + (x + y), _, by omega, by go_num, rfl, rfl, by omega, by omega, by omega, by omega, Lib.hid (by rw [sumL_app, ← hlo.out]; simp [sumL]), Lib.hid (by rw [sumL_app, ← hhi.out]; simp [sumL]), Lib.hid (pair_at (by omega) ⟨by omega, by omega, by omega⟩ hpa.out), by omega, hD9⟩
            case measure => simp [intOf]; omega
          · obtain rfl : q = M := by omega
            have hl1 := hD.len1
            have hl2 := hD.len2
            have hpa' := hpa.out
            obtain ⟨hE0, hS1, hS2, hS3, hck, hla⟩ := hHF.out la lb (by omega) (by omega) (fun k b m hb hm => by have := hpa' k b m hb hm; omega) (by rw [← hhi.out]; omega)
            rw [← hlo.out, ← hhi.out] at hS3
            rw [← hlo.out] at hS1
            rw [← hhi.out] at hS2
            have hln : (holdLs la lb).length = q := by unfold holdLs; rw [holdG_len _ _ _ (by omega)]; exact hl1
            have hHo' := Lib.hid (fun A1 A2 n1 n2 c1 c2 W h1 h2 => hHo.out A1 A2 n1 n2 c1 c2 la lb W h1 h2 hE0)
            have hrl : (runL 0 (holdLs la lb)).length = q := by rw [runL_len]; exact hln
            have hCk' := Lib.hid (fun A n c W h => hCk.out A n c (runL 0 (holdLs la lb)) W h hck)
            clear hHF hHo hCk hpa hpa' hE0 hck hlo hhi hln
            obtain ⟨b1, cc1, rfl, hbl1, hc1, hcm1⟩ := hD.shape1 (by omega)
            obtain ⟨b2, cc2, rfl, hbl2, hc2, hcm2⟩ := hD.shape2 (by omega)
            have zc := (blk_facts hD.rc).1
            go_wp2_with fail
            refine (hHo'.out _ _ _ _ _ _ _ (hD.r1 (by omega)) (hD.r2 (by omega))).mono ?_; rintro e w6 ⟨A5, n5, c5, rfl, hO, B6⟩
            replace hD := hD.below B6
            clear zc B6 hHo'
            have hn5 := hO.len
            rw [hrl] at hn5
            subst hn5
            generalize runL 0 (holdLs la lb) = R at *
            generalize sumL (holdLs la lb) = S at *
            obtain ⟨bX, oX, tX, rfl, lX, htX, cX⟩ := hO.at_ (k := q - 1) (by omega)
            obtain rfl : S = tX := by
              have hlx := last_at hrl (by omega)
              rw [hlx, hla] at htX
              injection htX
            clear htX hla
            have e2 : 0 ≤ (q : Int) - 1 := by omega
            have e2' : (1 : Int) ≤ (q : Int) := by omega
            have e4 : (q : Int) - 1 < q := by omega
            have e1 : IntKind.i64.wrap ((q : Int) - 1) = (q : Int) - 1 := IntWalk.i64_in _ (by omega)
            have e3 : ((q : Int) - 1).toNat = q - 1 := by omega
            have hd1 : decide (lo ≤ S) = true := decide_eq_true hS1
            have hd2 : decide (S ≤ hi) = true := decide_eq_true hS2
            have hw1 : IntKind.i64.wrap (hi - S) = hi - S := IntWalk.i64_in _ (by omega)
            have hw2 : IntKind.i64.wrap (hi - lo) = hi - lo := IntWalk.i64_in _ (by omega)
            have hnn : 0 ≤ hi - lo := by omega
            have hS3' : ((hi - S) == (hi - lo) / 2) = true := by rw [hS3]; simp
            have hS3'' : hi - S = (hi - lo) / 2 := hS3
            have zc := (blk_facts hD.rc).1
            clear hS3
            go_wp2_with fail
            refine (hCk'.out _ _ _ _ hO).mono ?_; rintro e w7 ⟨rfl, B7⟩
            replace hD := hD.below B7
            have cX7 : w7.cell? ⟨bX, oX + (q - 1), none⟩ = some (.int .i64 S) := (B7.cell (p := ⟨bX, oX + (q - 1), none⟩) lX).trans cX
            clear zc cX hCk'
            go_wp2_with fail
            refine (ready_c _).mono ?_; rintro e w8 ⟨rfl, B8⟩
            have hBB := (hD.below B8).bel
            go_wp2
            go_ret
            exact ⟨rfl, hBB⟩
end Go.Proofs.YtcdoidhookghaaaDoor
