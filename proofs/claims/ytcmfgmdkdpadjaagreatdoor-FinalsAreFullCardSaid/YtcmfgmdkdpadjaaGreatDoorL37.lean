/- FinalsAreFull: finals are full one after the other; replaced ones keep their order, and nobody who is out is in one: the walk. -/
import Derived.Test.YtcmfgmdkdpadjaaGreatDoorP37
import Derived.Test.YtcmfgmdkdpadjaaGreatDoorFinalM
import Derived.Test.YtcmfgmdkdpadjaaGreatDoorReady
namespace Go.Proofs.YtcmfgmdkdpadjaaGreatDoor
open Go.RowKit
set_option linter.unusedVariables false

structure X37 (A : Option Addr) (n : Nat) (x : List Sd) (b : Nat) (f : Fl) (g : Nat) (zs : List Int) (v : World) : Prop where
  sd : RSd v A n x
  fb : FinB b f v
  st : ∃ k, St v g zs k ∧ k + 3000 ≤ 1099511627776
theorem X37.keep {A : Option Addr} {n : Nat} {x : List Sd} {b : Nat} {f : Fl} {g : Nat} {zs : List Int} (a v : World) (h : X37 A n x b f g zs a) (B : Below a.heap.size a v) : X37 A n x b f g zs v := by
  obtain ⟨k, s, hk⟩ := h.st
  exact ⟨h.sd.below B, h.fb.keep _ _ B, k, s.below B, hk⟩
set_option maxHeartbeats 12800000 in
set_option maxRecDepth 100000 in
theorem finalsAreFull_walk (a0 : Option Addr) (len0 cap0 : Nat) (z0 : List Int) (w : World) (w0 : IsRow .i64 w a0 len0 cap0 z0) (htab : Tb w) :
    Calls Tryz.prog 7 #[.slice a0 len0 cap0] w fun e w' => e = .returned (.bool true) ∧ Below w.heap.size w w' := by
  have hs := law_start w0
  clear w0
  generalize z0.take len0 = zs at *
  go_enter Tryz.func7, Tryz.ntmps7
  go_wp2_with fail
  have hs' : St (w.alloc (.cells #[.slice a0 len0 cap0, .int .i64 0] 25)) w.heap.size zs 0 := hs
  have hB1 := below_new w (.cells #[.slice a0 len0 cap0, .int .i64 0] 25)
  refine (finalOf_c _ zs 0 _ hs' (by omega)).mono ?_; rintro e w2 ⟨sz, mn, rs, k2, rfl, b0, b1, b2, s2, hk2, g2⟩
  have hB2 := hB1.trans (grown_below g2 (Nat.le_refl _) hB1.size)
  clear hs hs' hB1 g2
  go_wp2_with fail
  refine (rightSeeds_c _ zs k2 14 _ w s2 (by omega) (by omega) htab hB2 (Nat.le_refl _)).mono ?_; rintro e w3 ⟨A, n, c, x, k3, rfl, hx, hx0, hn, s3, hk3, g3, _⟩
  have hB3 := hB2.trans (grown_below g3 (Nat.le_refl _) hB2.size)
  clear s2 g3 hB2 htab
  have hb0 := heap_alloc_new w3 (.cells #[.int .i64 sz, .int .i64 mn, .int .i64 rs] 66)
  have K : KX w (X37 A n x w3.heap.size ⟨sz, mn, rs⟩ w.heap.size zs) (w3.alloc (.cells #[.int .i64 sz, .int .i64 mn, .int .i64 rs] 66)) := ⟨⟨hx.alloc _, hb0, k3, s3.alloc _, by omega⟩, X37.keep, hB3.alloc hB3.size _⟩
  have hFF := Lib.hid (fun W => finalFault_c ⟨sz, mn, rs⟩ W)
  have hXk := Lib.hid (fun a v (h : X37 A n x w3.heap.size ⟨sz, mn, rs⟩ w.heap.size zs a) B => X37.keep a v h B)
  have hXf := Lib.hid (fun v (h : X37 A n x w3.heap.size ⟨sz, mn, rs⟩ w.heap.size zs v) => h.fb.at_)
  have hXb := Lib.hid (fun v (h : X37 A n x w3.heap.size ⟨sz, mn, rs⟩ w.heap.size zs v) => h.fb)
  have hXs := Lib.hid (fun v (h : X37 A n x w3.heap.size ⟨sz, mn, rs⟩ w.heap.size zs v) => h.sd)
  have hXt := Lib.hid (fun v (h : X37 A n x w3.heap.size ⟨sz, mn, rs⟩ w.heap.size zs v) => h.st)
  have hxl := Lib.hid hx.len
  clear hx hB3 s3 hb0
  generalize hXX : X37 A n x w3.heap.size ⟨sz, mn, rs⟩ w.heap.size zs = X at *
  clear hXX
  dsimp only [Fl.val] at *
  obtain ⟨z0, z1, z2⟩ := hXf.out _ K.x
  by_cases h0 : FlOk ⟨sz, mn, rs⟩
  rotate_left
  · have hE : finErr ⟨sz, mn, rs⟩ = 1 := if_neg h0
    rw [hE] at hFF
    clear hE h0
    go_wp2_with fail
    refine (hFF.out _).mono ?_; rintro e wN ⟨rfl, BN⟩
    have K2 := K.below BN
    clear K BN hFF
    go_wp2_with fail
    refine (ready_c _).mono ?_; rintro e wM ⟨rfl, BM⟩
    have hB := (K2.below BM).bel
    go_wp2
    go_ret
    exact ⟨rfl, hB⟩
  have hE : finErr ⟨sz, mn, rs⟩ = 0 := if_pos h0
  rw [hE] at hFF
  have hFi := Lib.hid (fun W h => finals_c ⟨sz, mn, rs⟩ h0 A n c x W h (by omega) hx0)
  have hlx : x.length ≤ 19 := by rw [hxl.out]; omega
  have hok := Lib.hid (plcV_ok h0 hx0 hlx)
  have hfin := Lib.hid (fun i y h => plcV_fin (l := x) h0 (i := i) (y := y) h)
  have hrk := Lib.hid (fun i y z h h2 => plcV_rank (l := x) h0 (i := i) (x := y) (y := z) h h2)
  have hdue := Lib.hid (fun k y h => plcV_due (l := x) h0 (k := k) (y := y) h)
  have hRe := Lib.hid (fun A1 B n1 c1 m d who W h hB hcap hm hmem hnd => replaceOk_c ⟨sz, mn, rs⟩ h0 A1 B n1 c1 m d _ who hok.out W h hB hcap hm hmem hnd)
  obtain ⟨⟨p0, p1⟩, ⟨p2, p3⟩, p4, p5⟩ := h0
  dsimp only [Fl.val] at *
  generalize hp : plcV ⟨sz, mn, rs⟩ x = p at *
  clear hp hE b0 b1 b2 hlx
  have hnod := Lib.hid hok.out.nod
  have hplen := Lib.hid hok.out.big
  clear hok
  go_wp2_with fail
  refine (hFF.out _).mono ?_; rintro e wN ⟨rfl, BN⟩
  replace K := K.below BN
  clear BN hFF z0 z1 z2
  obtain ⟨z0, z1, z2⟩ := hXf.out _ K.x
  go_wp2_with fail
  refine (hFi.out _ (hXs.out _ K.x)).mono ?_; rintro e wP ⟨A1, n1, c1, rfl, hP, hn1, BN⟩
  have hpl := Lib.hid hP.len
  replace K := (K.below BN).add (Y := fun v => RPc v A1 n1 p) hP (fun _ _ h B => h.below B)
  clear BN hFi z0 z1 z2 hP
  have hY1 := Lib.hid (fun v (h : X v ∧ RPc v A1 n1 p) => h.1)
  have hY2 := Lib.hid (fun v (h : X v ∧ RPc v A1 n1 p) => h.2)
  generalize hYY : (fun v => X v ∧ RPc v A1 n1 p) = Y at *
  have hY1' := Lib.hid (fun v (h : Y v) => hY1.out v (by rw [← hYY] at h; exact h))
  have hY2' := Lib.hid (fun v (h : Y v) => hY2.out v (by rw [← hYY] at h; exact h))
  clear hYY hY1 hY2
  obtain ⟨z0, z1, z2⟩ := hXf.out _ (hY1'.out _ K.x)
  go_wp2_with fail
  go_loopw [37] (fun i wr => ∃ k : Nat, k ≤ n1 ∧ i = .int .i64 k ∧ KX w Y wr) (fun i _ => n1 - (intOf i).toNat)
  case atStart => exact ⟨0, Nat.zero_le _, rfl, K⟩
  case round =>
    clear K z0 z1 z2
    obtain ⟨k, hk, rfl, K⟩ := hrel
    obtain ⟨z0, z1, z2⟩ := hXf.out _ (hY1'.out _ K.x)
    by_cases hlt : k < n1
    · have hR := hY2'.out _ K.x
      obtain ⟨b, off, y, rfl, hbl, hy, c0, c1', c2⟩ := RPc_at3 hR hlt
      have hf := hfin.out k y hy
      have hprev : k = 0 ∨ (1 ≤ k ∧ ∃ pr : Int, wr.cell? ⟨b, off + (k - 1) * 3 + 2, none⟩ = some (.int .i64 pr) ∧ pr ≤ y.rk) := by
        by_cases h0 : k = 0
        · exact .inl h0
        · obtain ⟨b', off', y', hA, _, hy', d0, d1, d2⟩ := RPc_at3 hR (k := k - 1) (by omega)
          injection hA with hA
          injection hA with e1 e2
          subst e1 e2
          exact .inr ⟨by omega, y'.rk, d2, hrk.out (k - 1) y' y hy' (by rw [show k - 1 + 1 = k by omega]; exact hy)⟩
      obtain ⟨who, fin, rk⟩ := y
      dsimp only at *
      have q0 : 0 ≤ (k : Int) / sz := Int.ediv_nonneg (by omega) (by omega)
      have q1 : (k : Int) / sz ≤ k := Int.ediv_le_self _ (by omega)
      have e3 : (k : Int).tdiv sz = (k : Int) / sz := Int.tdiv_eq_ediv_of_nonneg (by omega)
      have hn300 : n1 ≤ 300 := by have := hplen.out; rw [hpl.out] at this; exact this
      have e4 : IntKind.i64.wrap ((k : Int) / sz) = (k : Int) / sz := IntWalk.i64_in _ (by omega)
      have e5 : IntKind.i64.wrap ((k : Int) / sz + 1) = (k : Int) / sz + 1 := IntWalk.i64_in _ (by omega)
      have e6 : (sz == 0) = false := beq_eq_false_iff_ne.2 (by omega)
      have hb5 := heap_alloc_new wr (.cells #[.string who, .int .i64 fin, .int .i64 rk] 79)
      have K5 := K.below (below_new wr (.cells #[.string who, .int .i64 fin, .int .i64 rk] 79))
      obtain ⟨z0, z1, z2⟩ := hXf.out _ (hY1'.out _ K5.x)
      have x1 := (blk_facts hb5).1 1
      have x2 := (blk_facts hb5).1 2
      have hpc := Lib.hid (fun o u (hc : wr.cell? ⟨b, o, none⟩ = some u) => show (wr.alloc (.cells #[.string who, .int .i64 fin, .int .i64 rk] 79)).cell? ⟨b, o, none⟩ = some u from (World.cell?_alloc_lt wr _ ⟨b, o, none⟩ (by show b < wr.heap.size; omega)).trans hc)
      clear hy hR K hb5
      by_cases hw : mn < (k : Int) / sz + 1
      · rw [if_pos hw] at hf
        subst hf
        rcases hprev with h0 | ⟨h1, pr, hc, h3⟩
        · have e8 : decide (0 < k) = false := decide_eq_false (by omega)
          have e9 : decide ((0 : Int) < (k : Int)) = false := decide_eq_false (by omega)
          clear h0
          go_wp2_with fail
          go_quiet (fail)
          clear e8 e9
          go_wp2
          go_roundw
          case rel => exact ⟨k + 1, by omega, by go_num, K5.drewN _⟩
          case measure => simp [intOf]; omega
        · have hc6 := hpc.out _ _ hc
          have u1 : IntKind.i64.wrap ((k : Int) - 1) = (k : Int) - 1 := IntWalk.i64_in _ (by omega)
          have u2 : 0 ≤ (k : Int) - 1 := by omega
          have u3 : ((k : Int) - 1).toNat = k - 1 := by omega
          have u4 : (k : Int) - 1 < n1 := by omega
          have e8 : decide (0 < k) = true := decide_eq_true (by omega)
          have e9 : decide ((0 : Int) < (k : Int)) = true := decide_eq_true (by omega)
          have e10 : decide (rk < pr) = false := decide_eq_false (by omega)
          clear hc hpc
          go_wp2_with fail
          go_quiet (fail)
          clear e8 e9 e10
          go_wp2
          go_roundw
          case rel => exact ⟨k + 1, by omega, by go_num, K5.drewN _⟩
          case measure => simp [intOf]; omega
      · rw [if_neg hw] at hf
        subst hf
        rcases hprev with h0 | ⟨h1, pr, hc, h3⟩
        · have e8 : decide (0 < k) = false := decide_eq_false (by omega)
          have e9 : decide ((0 : Int) < (k : Int)) = false := decide_eq_false (by omega)
          clear h0
          go_wp2_with fail
          go_quiet (fail)
          clear e8 e9
          go_wp2
          go_roundw
          case rel => exact ⟨k + 1, by omega, by go_num, K5.drewN _⟩
          case measure => simp [intOf]; omega
        · have hc6 := hpc.out _ _ hc
          have u1 : IntKind.i64.wrap ((k : Int) - 1) = (k : Int) - 1 := IntWalk.i64_in _ (by omega)
          have u2 : 0 ≤ (k : Int) - 1 := by omega
          have u3 : ((k : Int) - 1).toNat = k - 1 := by omega
          have u4 : (k : Int) - 1 < n1 := by omega
          have e8 : decide (0 < k) = true := decide_eq_true (by omega)
          have e9 : decide ((0 : Int) < (k : Int)) = true := decide_eq_true (by omega)
          have e10 : decide (rk < pr) = false := decide_eq_false (by omega)
          clear hc hpc
          go_wp2_with fail
          go_quiet (fail)
          clear e8 e9 e10
          go_wp2
          go_roundw
          case rel => exact ⟨k + 1, by omega, by go_num, K5.drewN _⟩
          case measure => simp [intOf]; omega
    · obtain rfl : k = n1 := by omega
      clear hfin hrk
      have hn300 : k ≤ 300 := by have := hplen.out; rw [hpl.out] at this; exact this
      go_wp2_with fail
      refine (placeNames_c A1 k c1 p _ (hY2'.out _ K.x) (by omega)).mono ?_; rintro e wA ⟨A2, n2, c2, rfl, hNm, BA⟩
      replace K := K.below BA
      obtain rfl : n2 = k := by rw [← hNm.len, List.length_map]; exact hpl.out
      obtain ⟨kk, sA, hkk⟩ := hXt.out _ (hY1'.out _ K.x)
      clear BA z0 z1 z2
      go_wp2_with fail
      refine (taken_c w.heap.size zs kk n2 c2 A2 _ _ sA (by omega) (by omega) hNm).mono ?_; rintro e wT ⟨A3, n3, c3, who, k4, rfl, hW, hcap, hn3, sT, hkT, gT⟩
      have hkp := sA.keep gT
      have hR : RPc wT A1 n2 p := (hY2'.out _ K.x).keep (T := 25) (by decide) hkp
      have hF : FinB w3.heap.size ⟨sz, mn, rs⟩ wT := hkp _ _ _ _ (by decide) (hXb.out _ (hY1'.out _ K.x))
      have hBT := K.bel.trans (grown_below gT (Nat.le_refl _) K.bel.size)
      have K2 : KX w (fun v => (RPc v A1 n2 p ∧ FinB w3.heap.size ⟨sz, mn, rs⟩ v) ∧ RS 9 v A3 n3 who) wT := ⟨⟨⟨hR, hF⟩, hW⟩, fun a b q B => ⟨⟨q.1.1.below B, FinB.keep _ _ q.1.2 B⟩, q.2.below B⟩, hBT⟩
      clear hNm sA hkk K hR hF hBT hkp gT sT hW hkT hXk hXf hXs hXt hXb hY1' hY2' k4 kk
      go_wp2_with fail
      refine (placeNames_c A1 n2 c1 p _ K2.x.1.1 (by omega)).mono ?_; rintro e wB ⟨A4, n4, c4, rfl, hNm, BB⟩
      replace K2 := K2.below BB
      clear BB
      go_wp2_with fail
      refine (goneFault_c A4 A3 n4 c4 n3 c3 _ who _ hNm K2.x.2 hcap).mono ?_; rintro e wC ⟨rfl, rfl⟩
      clear hNm
      by_cases hg : goneErr (p.map Pc.who) who = 0
      rotate_left
      · have hd : (goneErr (p.map Pc.who) who != 0) = true := by simpa using hg
        generalize goneErr (p.map Pc.who) who = E at *
        clear hg
        go_wp2_with fail
        refine (ready_c _).mono ?_; rintro e wM ⟨rfl, BM⟩
        have hB := (K2.below BM).bel
        go_wp2
        go_ret
        exact ⟨rfl, hB⟩
      · obtain ⟨g1, g2, g3⟩ := goneErr_ok hg
        have hnl := newL_len hnod.out g2 g3
        have hq3 : n3 ≤ 300 := by rw [← K2.x.2.len]; exact g1
        have hwl := Lib.hid K2.x.2.len
        have g2' := Lib.hid g2
        have g3' := Lib.hid g3
        rw [hg]
        clear g1 g2 g3 hg
        obtain ⟨z0, z1, z2⟩ := K2.x.1.2.at_
        dsimp only at z0 z1 z2
        have hRe2 := Lib.hid (fun W h hB => hRe.out A1 A3 n2 c1 n3 c3 who W h hB hcap hq3 g2'.out g3'.out)
        clear hRe
        go_wp2_with fail
        refine (hRe2.out _ K2.x.1.1 K2.x.2).mono ?_; rintro e wQ ⟨A5, n5, c5, rfl, hQ, BQ⟩
        have hql := Lib.hid hQ.len
        have K3 := (K2.below BQ).add (Y := fun v => RPc v A5 n5 (newL p who)) hQ (fun _ _ h B => h.below B)
        have hlen : n5 + n3 = n2 := by rw [hql.out, hwl.out, hpl.out] at hnl; exact hnl
        clear K2 BQ hQ hRe2 hnl z0 z1 z2
        have e1 : IntKind.i64.wrap ((n2 : Int) - (n3 : Int)) = (n5 : Int) := by rw [IntWalk.i64_in _ (by omega)]; omega
        have e2 : ((n5 : Int) != (n5 : Int)) = false := by simp
        go_wp2_with fail
        clear e1 e2
        go_loopw [13, 102] (fun cn i wr => ∃ j : Nat, j ≤ n2 ∧ i = .int .i64 j ∧ cn = .int .i64 ((keptL (p.take j) who).length : Nat) ∧ KX w (fun v => ((RPc v A1 n2 p ∧ FinB w3.heap.size ⟨sz, mn, rs⟩ v) ∧ RS 9 v A3 n3 who) ∧ RPc v A5 n5 (newL p who)) wr) (fun _ i _ => n2 - (intOf i).toNat)
        case atStart => exact ⟨0, Nat.zero_le _, rfl, rfl, K3⟩
        case round =>
          clear K3
          rename World => wr2
          obtain ⟨j, hj, rfl, rfl, K⟩ := hrel
          by_cases hlt2 : j < n2
          · obtain ⟨b, off, y, rfl, hbl, hy, c0, c1', c2'⟩ := RPc_at3 K.x.1.1.1 hlt2
            have hks := Lib.hid (show keptL (p.take (j + 1)) who = keptL (p.take j) who ++ if Lib.containsS who y.who = true then [] else [y] by rw [List.take_add_one, hy]; exact kept_snoc _ _ _)
            have hka := Lib.hid (fun hc => kept_at (who := who) hy hc)
            have hkl : (keptL (p.take j) who).length ≤ j := by unfold keptL; have := List.length_filter_le (fun y : Pc => !Lib.containsS who y.who) (p.take j); rw [List.length_take] at this; omega
            have K5 := K.below (below_new wr2 (.cells #[.string y.who, .int .i64 y.fin, .int .i64 y.rk] 79))
            obtain ⟨bp, op, pk, hAp, _, hpk, _, pf1, _⟩ := RPc_at3 K5.x.1.1.1 (k := (keptL (p.take j) who).length) (by omega)
            injection hAp with hAp
            injection hAp with e1 e2
            subst e1 e2
            have hdk := Lib.hid (hdue.out _ _ hpk)
            obtain ⟨who', fin, rk⟩ := y
            dsimp only at *
            have x0 := (blk_facts (heap_alloc_new wr2 (.cells #[.string who', .int .i64 fin, .int .i64 rk] 79))).1 0
            have x2 := (blk_facts (heap_alloc_new wr2 (.cells #[.string who', .int .i64 fin, .int .i64 rk] 79))).1 2
            clear hy K hpk
            go_wp2_with fail
            refine (containsN_c A3 n3 c3 who who' _ K5.x.1.2).mono ?_; rintro e wV ⟨rfl, rfl⟩
            clear c0 c1' c2'
            cases hc : Lib.containsS who who' with
            | true =>
              have hk2 := Lib.hid (show keptL (p.take (j + 1)) who = keptL (p.take j) who by rw [hks.out, if_pos hc, List.append_nil])
              clear hc hks hka
              go_wp2
              go_roundw
              case rel => exact ⟨j + 1, by omega, by go_num, by rw [hk2.out], K5⟩
              case measure => simp [intOf]; omega
            | false =>
              have hk2 := Lib.hid (show (keptL (p.take (j + 1)) who).length = (keptL (p.take j) who).length + 1 by rw [hks.out, if_neg (by simp [hc]), List.length_append]; rfl)
              have hqa := newGo_at (dueL p) _ 0 _ _ (hka.out hc)
              rw [Nat.zero_add, hdk.out] at hqa
              have hkq : (keptL (p.take j) who).length < n5 := by rw [← hql.out]; exact lt_of_at hqa
              obtain ⟨bq, oq, qk, hAq, _, hqk, d0, d1, d2⟩ := RPc_at3 K5.x.2 hkq
              have hqe : qk = ⟨who', pk.fin, rk⟩ := by rw [show newL p who = newGo (dueL p) 0 (keptL p who) from rfl, hqa] at hqk; exact (Option.some.inj hqk).symm
              subst hAq
              subst hqe
              dsimp only at d0 d1 d2
              clear hc hks hka hqa hqk hdk
              generalize hKL : (keptL (p.take j) who).length = KL at *
              have u1 : (0 : Int) ≤ (KL : Int) := by omega
              have u2 : (KL : Int) < (n5 : Int) := by omega
              have u3 : (KL : Int) < (n2 : Int) := by omega
              have u4 : IntKind.i64.wrap ((KL : Int) + 1) = (KL : Int) + 1 := IntWalk.i64_in _ (by omega)
              go_wp2_with fail
              go_quiet (fail)
              go_wp2
              go_roundw
              case rel => exact ⟨j + 1, by omega, by go_num, by rw [hk2.out]; push_cast; rfl, K5.drewN _⟩
              case measure => simp [intOf]; omega
          · obtain rfl : j = n2 := by omega
            go_wp2_with fail
            refine (ready_c _).mono ?_; rintro e wM ⟨rfl, BM⟩
            have hB := (K.below BM).bel
            go_wp2
            go_ret
            exact ⟨rfl, hB⟩
end Go.Proofs.YtcmfgmdkdpadjaaGreatDoor
