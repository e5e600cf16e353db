/- RanksLeavePlaces: each rank is 1 and how many have a lesser one; heats that swim together rank as one list: the walk. -/
import Derived.Test.YtcmfgmdkdpadjaaGreatDoorMovedM
import Derived.Test.YtcmfgmdkdpadjaaGreatDoorOrdC
import Derived.Test.YtcmfgmdkdpadjaaGreatDoorP47
import Derived.Test.YtcmfgmdkdpadjaaGreatDoorVerdM
import Derived.Test.YtcmfgmdkdpadjaaGreatDoorSeedM
import Derived.Test.YtcmfgmdkdpadjaaGreatDoorSeedF
import Derived.Test.YtcmfgmdkdpadjaaGreatDoorReady
import Derived.Test.YtcmfgmdkdpadjaaGreatDoorDraws
import Derived.Deep.RegionHeld3
namespace Go.Proofs.YtcmfgmdkdpadjaaGreatDoor
open Go.RowKit
set_option linter.unusedVariables false

theorem lessR_snoc (r : Int) (L : List Rk) (y : Rk) : lessR r (L ++ [y]) = lessR r L + if 0 < y.rank ∧ y.rank < r then 1 else 0 := by
  unfold lessR
  rw [List.filter_append, List.length_append]
  congr 1
  by_cases h : 0 < y.rank ∧ y.rank < r
  · rw [if_pos h, List.filter_cons, if_pos (by simp; exact h)]; rfl
  · rw [if_neg h, List.filter_cons, if_neg (by simp; omega)]; rfl
theorem faultV_bd {v : List Vd} (h : ∀ x ∈ v, keyB x.who = true ∧ 0 ≤ x.fault ∧ x.fault ≤ 8) (s : ByteArray) : 0 ≤ faultV v s ∧ faultV v s ≤ 8 := by
  unfold faultV
  have : ∀ (v : List Vd) (f : Int), (∀ x ∈ v, keyB x.who = true ∧ 0 ≤ x.fault ∧ x.fault ≤ 8) → 0 ≤ f ∧ f ≤ 8 → 0 ≤ v.foldl (fun f x => if x.who = s then x.fault else f) f ∧ v.foldl (fun f x => if x.who = s then x.fault else f) f ≤ 8 := by
    intro v
    induction v with
    | nil => intro f _ hf; exact hf
    | cons y r ih =>
      intro f hv hf
      rw [List.foldl_cons]
      refine ih _ (fun z hz => hv z (by simp [hz])) ?_
      split
      · exact (hv y (by simp)).2
      · exact hf
  exact this v 0 h ⟨by omega, by omega⟩
theorem seedErr_nodup {l : List Sd} (h : seedErr l = 0) : (l.map Sd.who).Nodup := by
  rw [seedErr_ref] at h
  split at h
  · cases h
  · split at h
    · rename_i h2; exact absurd h h2
    · split at h
      · assumption
      · cases h
theorem capA {A : Option Addr} {n c : Nat} (h : (A = none ∧ n = 0 ∧ c = 0) ∨ ∃ b, A = some ⟨b, 0, none⟩ ∧ n ≤ c) : A = none → c = 0 := by
  rcases h with ⟨_, _, h⟩ | ⟨b, h, _⟩
  · exact fun _ => h
  · rw [h]; exact fun e => by cases e
theorem RSd_drew {w : World} {A : Option Addr} {n : Nat} {l : List Sd} (h : RSd w A n l) : RSd w.drew A n l := h
theorem RSd_take {w : World} {A : Option Addr} {n j : Nat} {l : List Sd} (h : RSd w A n l) (hj : j ≤ n) : RSd w A j (l.take j) := by
  have hl := h.len
  refine ⟨by rw [List.length_take]; omega, by have := h.bd; omega, fun hp => ?_⟩
  obtain ⟨b', o', cs, fz, hA, hb, hc⟩ := h.2.2 (by omega)
  refine ⟨b', o', cs, fz, hA, hb, fun k x hx i u hu => ?_⟩
  rw [List.getElem?_take] at hx
  split at hx
  · exact hc k x hx i u hu
  · cases hx
theorem RSd_drop {w : World} {b n j : Nat} {l : List Sd} (h : RSd w (some ⟨b, 0, none⟩) n l) (hj : j ≤ n) : RSd w (some ⟨b, j * 2, none⟩) (n - j) (l.drop j) := by
  have hl := h.len
  refine ⟨by rw [List.length_drop]; omega, by have := h.bd; omega, fun hp => ?_⟩
  obtain ⟨b', o', cs, fz, hA, hb, hc⟩ := h.2.2 (by omega)
  injection hA with hA
  injection hA with e1 e2
  subst e1 e2
  refine ⟨b, j * 2, cs, fz, rfl, hb, fun k x hx i u hu => ?_⟩
  rw [List.getElem?_drop] at hx
  have := hc (j + k) x hx i u hu
  rw [show 0 + (j + k) * 2 + i = j * 2 + k * 2 + i by rw [Nat.add_mul]; omega] at this
  exact this
structure K47 (w : World) (g : Nat) (zs : List Int) (A1 : Option Addr) (N : Nat) (R : List Rk) (A : Option Addr) (x : List Sd) (B : Option Addr) (m : Nat) (v : List Vd) (wx : World) : Prop where
  rk : RRk wx A1 N R
  sd : RSd wx A N x
  vd : RVd wx B m v
  bel : Below w.heap.size w wx
  lg : w.heap.size ≤ g
  st : ∃ k, St wx g zs k ∧ k + 5000 ≤ 1099511627776
section
variable {w wx w' : World} {g N m : Nat} {zs : List Int} {A1 A B : Option Addr} {R : List Rk} {x : List Sd} {v : List Vd}
theorem K47.below (h : K47 w g zs A1 N R A x B m v wx) (hb : Below wx.heap.size wx w') : K47 w g zs A1 N R A x B m v w' := by
  obtain ⟨k, s, hk⟩ := h.st
  exact ⟨h.rk.below hb, h.sd.below hb, h.vd.below hb, below_next h.bel hb, h.lg, k, s.below hb, hk⟩
end
set_option maxHeartbeats 12800000 in
set_option maxRecDepth 100000 in
theorem ranksLeavePlaces_walk (a0 : Option Addr) (len0 cap0 : Nat) (z0 : List Int) (w : World) (w0 : IsRow .i64 w a0 len0 cap0 z0) (htab : Tb w) :
    Calls Tryz.prog 11 #[.slice a0 len0 cap0] w fun e w' => e = .returned (.bool true) ∧ Below w.heap.size w w' := by
  have hs := law_start w0
  clear w0
  generalize z0.take len0 = zs at *
  go_enter Tryz.func11, Tryz.ntmps11
  go_wp2_with fail
  have hs' : St (w.alloc (.cells #[.slice a0 len0 cap0, .int .i64 0] 25)) w.heap.size zs 0 := hs
  have hB1 := below_new w (.cells #[.slice a0 len0 cap0, .int .i64 0] 25)
  refine (rightSeeds_c _ zs 0 10 _ w hs' (by omega) (by omega) htab hB1 (Nat.le_refl _)).mono ?_; rintro e w2 ⟨A, n, c, x, k2, rfl, hx, hx0, hn, s2, hk2, g2, hcap⟩
  have hcap := Lib.hid hcap
  have hB2 := hB1.trans (grown_below g2 (Nat.le_refl _) hB1.size)
  clear hs hs' htab hB1 g2
  go_wp2_with fail
  refine (verdictList_c _ zs k2 _ s2 (by omega)).mono ?_; rintro e w3 ⟨B, m, cv, v, k3, rfl, ho3, hlv, hm, s3, hk3, g3⟩
  have hv3 : RVd w3 B m v := RN.of_own vdE_len ho3 hlv (by omega)
  have hx3 : RSd w3 A n x := hx.keep (T := 25) (by decide) (s2.keep g3)
  have hB3 := hB2.trans (grown_below g3 (Nat.le_refl _) hB2.size)
  have hVF := Lib.hid (fun W h => verdictsFault_c B m cv v W h)
  clear hx s2 g3 ho3 hB2
  by_cases h0 : verdErr v = 0
  rotate_left
  · have hd : (verdErr v != 0) = true := by simpa using h0
    generalize verdErr v = E at *
    clear h0
    go_wp2_with fail
    refine (hVF.out _ hv3).mono ?_; rintro e w4 ⟨rfl, B4⟩
    have hB4 := below_next hB3 B4
    clear hB3 B4 hVF hv3 hx3 s3
    go_wp2_with fail
    refine (ready_c _).mono ?_; rintro e w5 ⟨rfl, B5⟩
    have hBB := below_next hB4 B5
    go_wp2
    go_ret
    exact ⟨rfl, hBB⟩
  · have hE : rankE x v = 0 := by unfold rankE; rw [hx0, if_neg (by simp)]; exact h0
    have hD : rankD 1 x v = rankL 1 (faultV v) x := if_pos hE
    have hRk := Lib.hid (fun W h h2 => rankTop_c A B n c m cv x v W h h2 (by omega))
    have hTg := Lib.hid (fun A2 B2 n2 c2 m2 d2 z la lb W hz ha hb hA hB hn (e : la ++ lb = x) (hv : RVd W B m v) => show Calls Tryz.prog 94 #[.slice (some ⟨z, 0, none⟩) 2 2, .slice B m cv] W (RetRk W (rankE x v) (rankD 1 x v)) by have h := together_c A2 B2 B n2 c2 m2 d2 z m cv la lb v W hz ha hb hA hB hn hv; rw [e] at h; exact h)
    rw [hE, hD] at hRk hTg
    rw [h0] at hVF
    obtain ⟨_, hso⟩ := seedErr_ok hx0
    obtain ⟨_, hvo⟩ := verdErr_ok h0
    have hperm := rankL_perm 1 (faultV v) x
    have hok := Lib.hid (fun a (ha : a ∈ rankL 1 (faultV v) x) => show RkOk a by
      obtain ⟨⟨r1, r2⟩, ⟨y, hy, e1, e2, e3⟩, r3⟩ := rankL_ok ha
      obtain ⟨y1, y2⟩ := hso y hy
      have hl := hx3.len
      refine ⟨by rw [e1]; exact y1, ⟨r1, by omega⟩, by rw [e2]; exact y2, ?_, r3⟩
      rw [e3]
      exact faultV_bd hvo _)
    have hnd := Lib.hid (show ((rankL 1 (faultV v) x).map Rk.who).Nodup from hperm.nodup_iff.2 (seedErr_nodup hx0))
    have hlaw := Lib.hid (fun a ha h => rank_law (d := 1) (f := faultV v) (l := x) (a := a) ha h)
    have hRl : (rankL 1 (faultV v) x).length = n := by have := hperm.length_eq; rw [List.length_map, List.length_map] at this; rw [this]; exact hx3.len
    have hRl' := Lib.hid hRl
    clear hE hD hso hvo hperm h0 hx0 hRl
    generalize rankL 1 (faultV v) x = R at *
    go_wp2_with fail
    refine (hVF.out _ hv3).mono ?_; rintro e w4 ⟨rfl, B4⟩
    have hB4 := below_next hB3 B4
    have hx4 := hx3.below B4
    have hv4 := hv3.below B4
    have s4 := s3.below B4
    clear hB3 B4 hVF hv3 hx3 s3
    go_wp2_with fail
    refine (hRk.out _ hx4 hv4).mono ?_; rintro e w5 ⟨A1, n1, c1, rfl, hR, B5, hN1⟩
    obtain rfl : n1 = n := by rw [← hR.len]; exact hRl'.out
    have K : K47 w w.heap.size zs A1 n1 R A x B m v w5 := ⟨hR, hx4.below B5, hv4.below B5, below_next hB4 B5, Nat.le_refl _, k3, s4.below B5, by omega⟩
    have hN1' := Lib.hid hN1
    have hk4 := Lib.hid hRk
    clear hx4 hv4 s4 hB4 hR B5 hN1 hRk
    go_wp2_with fail
    go_loopw [45] (fun i wr => ∃ k : Nat, k ≤ n1 ∧ i = .int .i64 k ∧ K47 w w.heap.size zs A1 n1 R A x B m v wr) (fun i _ => n1 - (intOf i).toNat)
    case atStart => exact ⟨0, Nat.zero_le _, rfl, K⟩
    case round =>
      clear K
      obtain ⟨k, hk, rfl, K⟩ := hrel
      by_cases hlt : k < n1
      · obtain ⟨b, off, a, rfl, hbl, ha, c0, c1', c2, c3⟩ := RRk.at4 K.rk hlt
        have ham := List.mem_of_getElem? ha
        have hla := Lib.hid (fun h => hlaw.out a ham h)
        obtain ⟨who, rank, time, fault⟩ := a
        dsimp only at *
        have K5 := K.below (below_new wr (.cells #[.string who, .int .i64 rank, .int .i64 time, .int .i64 fault] 89))
        have hb9 := heap_alloc_new wr (.cells #[.string who, .int .i64 rank, .int .i64 time, .int .i64 fault] 89)
        clear K ha ham
        go_wp2_with fail
        clear c0 c1' c2 c3
        generalize wr.alloc (.cells #[.string who, .int .i64 rank, .int .i64 time, .int .i64 fault] 89) = w7 at *
        generalize wr.heap.size = b9 at *
        go_loopw [10, 51] (fun cn i wx => ∃ (j : Nat) (cv : Int), j ≤ n1 ∧ i = .int .i64 j ∧ cn = .int .i64 cv ∧ 1 ≤ cv ∧ cv ≤ j + 1 ∧ Hid (cv = 1 + (lessR rank (R.take j) : Int)) ∧ K47 w w.heap.size zs (some ⟨b, off, none⟩) n1 R A x B m v wx ∧ wx.heap[b9]? = some (.cells #[.string who, .int .i64 rank, .int .i64 time, .int .i64 fault] 89 (0, 0))) (fun _ i _ => n1 - (intOf i).toNat)
        case atStart => exact ⟨0, 1, Nat.zero_le _, rfl, rfl, by omega, by omega, Lib.hid rfl, K5, hb9⟩
        case round =>
          clear K5 hb9
          rename World => wx
          obtain ⟨j, cv, hj, rfl, rfl, cv0, cv1, hcv, K, hb9⟩ := hrel
          by_cases hlt2 : j < n1
          · obtain ⟨b', off', y, hA2, hbl', hy, d0, d1, d2, d3⟩ := RRk.at4 K.rk hlt2
            have hst := Lib.hid (show (lessR rank (R.take (j + 1)) : Int) = lessR rank (R.take j) + (if 0 < y.rank ∧ y.rank < rank then 1 else 0 : Nat) by rw [List.take_add_one, hy]; rw [show (some y).toList = [y] from rfl, lessR_snoc]; push_cast; rfl)
            obtain ⟨who', rank', time', fault'⟩ := y
            injection hA2 with hA2
            injection hA2 with q1 q2
            subst q1 q2
            dsimp only at *
            have K5 := K.below (below_new wx (.cells #[.string who', .int .i64 rank', .int .i64 time', .int .i64 fault'] 89))
            have hb95 := blk_alloc hb9 (.cells #[.string who', .int .i64 rank', .int .i64 time', .int .i64 fault'] 89)
            have z1 := (blk_facts (heap_alloc_new wx (.cells #[.string who', .int .i64 rank', .int .i64 time', .int .i64 fault'] 89))).1 1
            have y1 := (blk_facts hb95).1 1
            have e1 : IntKind.i64.wrap (cv + 1) = cv + 1 := IntWalk.i64_in _ (by omega)
            clear hy K hb9
            by_cases h1 : 0 < rank' <;> by_cases h2 : rank' < rank
            · have hc2 := Lib.hid (show cv + 1 = 1 + (lessR rank (R.take (j + 1)) : Int) by rw [hst.out, if_pos ⟨h1, h2⟩, hcv.out]; push_cast; omega)
              clear hcv hst
              go_wp2
              go_roundw
              case rel => exact ⟨j + 1, cv + 1, by omega, by go_num, rfl, by omega, by omega, hc2, K5, hb95⟩
              case measure => simp [intOf]; omega
            all_goals
              have hc2 := Lib.hid (show cv = 1 + (lessR rank (R.take (j + 1)) : Int) by rw [hst.out, if_neg (by omega), hcv.out]; push_cast; omega)
              clear hcv hst
              go_wp2
              go_roundw
              case rel => exact ⟨j + 1, cv, by omega, by go_num, rfl, by omega, by omega, hc2, K5, hb95⟩
              case measure => simp [intOf]; omega
          · obtain rfl : j = n1 := by omega
            have hcv2 : Hid (cv = 1 + (lessR rank R : Int)) := Lib.hid (by rw [hcv.out, List.take_of_length_le (by rw [hRl'.out]; exact Nat.le_refl _)])
            have y1 := (blk_facts hb9).1 1
            by_cases h1 : 0 < rank
            · obtain rfl : rank = cv := by have := hla.out h1; have := hcv2.out; omega
              have hne : (rank != rank) = false := by simp
              clear hcv hcv2 hla hb9
              go_wp2
              go_roundw
              case rel => exact ⟨k + 1, by omega, by go_num, K⟩
              case measure => simp [intOf]; omega
            · clear hcv hcv2 hla hb9
              go_wp2
              go_roundw
              case rel => exact ⟨k + 1, by omega, by go_num, K⟩
              case measure => simp [intOf]; omega
      · obtain rfl : k = n1 := by omega
        clear hlaw
        obtain ⟨k5, s5, hk5⟩ := K.st
        go_wp2_with fail
        refine (next_c w.heap.size zs k5 _ _ s5 (by omega) (by omega) (by omega)).mono ?_; rintro e w8 ⟨rfl, s8, g8⟩
        have hkp := s5.keep g8
        have hnb := @nextV_bd zs k5 ((k : Int) + 1) (by omega)
        have hR8 : RRk w8 A1 k R := K.rk.keep (T := 25) (by decide) hkp
        have hx8 : RSd w8 A k x := K.sd.keep (T := 25) (by decide) hkp
        have hv8 : RVd w8 B m v := K.vd.keep (T := 25) (by decide) hkp
        have hB8 := K.bel.trans (grown_below g8 (Nat.le_refl _) K.bel.size)
        clear K s5 s8 g8 hkp hk5
        generalize nextV zs k5 ((k : Int) + 1) = q at *
        obtain ⟨j, rfl⟩ : ∃ j : Nat, q = (j : Int) := ⟨q.toNat, by omega⟩
        have hj : j ≤ k := by omega
        clear hnb
        go_wp2_with fail
        have hlt1 := Lib.hid (show (x.take j).length = j by rw [List.length_take, hx8.len]; omega)
        have hld := Lib.hid (show (x.drop j).length = k - j by rw [List.length_drop, hx8.len])
        rcases hcap.out with ⟨rfl, rfl, rfl⟩ | ⟨b, rfl, hnc⟩
        · obtain rfl : j = 0 := by omega
          have hxe : x = [] := List.eq_nil_of_length_eq_zero hx8.len
          have hC1 := Lib.hid (fun W h => cloneSd_c none 0 0 (x.take 0) W h (by omega))
          have hC2 := Lib.hid (fun W h => cloneSd_c none (0 - 0) (0 - 0) (x.drop 0) W h (by omega))
          have hx1 : RSd w8 none 0 (x.take 0) := by rw [hxe]; exact RN.nil_ _ _ _ _ _
          have hx2 : RSd w8 none (0 - 0) (x.drop 0) := by rw [hxe]; exact RN.nil_ _ _ _ _ _
          clear hxe
          go_region_held3 (fun _ => True) (trivial) (first
            | (have hq1 := hown1; go_at_call 95; refine (hC2.out _ hx9).mono ?_; rintro e w10 ⟨A10, c10, rfl, hown2, B10⟩; have hr1 := hr9.below B10; have hr2 := RN.of_own sdE_len hown2 hld.out (by omega); have hcp2 := Lib.hid (capA (own_cap hown2 rfl)); have hv10 := hv9.below B10; have hB10 := below_next hB9 B10; have hR10 := hR9.below B10)
            | (go_at_call 95; refine (hC1.out _ (RSd_drew hx1)).mono ?_; rintro e w9 ⟨A9, c9, rfl, hown1, B9⟩; have hx9 := (RSd_drew hx2).below B9; have hr9 := RN.of_own sdE_len hown1 hlt1.out (by omega); have hcp1 := Lib.hid (capA (own_cap hown1 rfl)); have hv9 := RN.below (w := w8.drew) hv8 B9; have hB9 := below_next (below_drewN hB8 1) B9; have hR9 := RN.below (w := w8.drew) hR8 B9)
            | (go_at_call 94; refine (hTg.out _ _ _ _ _ _ _ _ _ _ (heap_alloc_new _ _) (hr1.alloc _) (hr2.alloc _) hcp1.out hcp2.out (by omega) (List.take_append_drop _ _) (hv10.alloc _)).mono ?_; rintro e w11 ⟨A11, n11, c11, rfl, hR11, B11, hN11⟩))
          clear hC1 hC2 hTg hr1 hr2 hr9 hown1 hown2 hcp1 hcp2 hv8 hv9 hv10 hx1 hx2 hx9 hlt1 hld
          have hB11 := below_next (hB10.alloc hB10.size _) B11
          have hR1 := (hR10.alloc _).below B11
          have hMv := Lib.hid (moved_c A1 A11 0 c1 n11 c11 R w11 hR1 hR11 hN1'.out hN11 (by omega) hok.out hnd.out)
          have hEq := Lib.hid (fun W h h2 => equalRk_c A11 A1 n11 c11 0 c1 R R W h h2)
          have hdR : decide (R = R) = true := decide_eq_true rfl
          rw [hdR] at hEq
          clear hdR hN11 hok hnd hR8 hR9 hR10 hB8 hB9 hB10 B9 B10 B11 hx8
          go_wp2_with fail
          refine hMv.out.mono ?_; rintro e w12 ⟨rfl, B12⟩
          have hB12 := below_next hB11 B12
          have hR12 := hR11.below B12
          have hR13 := hR1.below B12
          clear hMv hB11 B12 hR11 hR1
          go_wp2_with (first
            | (go_at_call 97; refine (hEq.out _ hR12 hR13).mono ?_; rintro e w13 ⟨rfl, q13, rfl⟩; have hB13 := below_drewN hB12 q13)
            | (go_at_call 63; refine (ready_c _).mono ?_; rintro e w14 ⟨rfl, B14⟩; have hB14 := below_next hB13 B14))
          go_ret
          exact ⟨rfl, hB14⟩
        · by_cases hjc : c = j
          · obtain rfl : k = j := by omega
            subst hjc
            have hC1 := Lib.hid (fun W h => cloneSd_c (some ⟨b, 0, none⟩) c c (x.take c) W h (by omega))
            have hC2 := Lib.hid (fun W h => cloneSd_c (some ⟨b, 0, none⟩) 0 0 (x.drop c) W h (by omega))
            have hx1 := RSd_take hx8 hj
            have hld0 : (x.drop c).length = 0 := by rw [hld.out]; omega
            have hx2 : RSd w8 (some ⟨b, 0, none⟩) 0 (x.drop c) := ⟨hld0, by omega, fun hp => by omega⟩
            clear hld
            have hld := Lib.hid hld0
            clear hld0
            have j4 : (0 : Int) ≤ (c : Int) := by omega
            have j5 : (c : Int) ≤ (c : Int) := by omega
            go_region_held3 (fun _ => True) (trivial) (first
              | (have hq1 := hown1; go_at_call 95; refine (hC2.out _ hx9).mono ?_; rintro e w10 ⟨A10, c10, rfl, hown2, B10⟩; have hr1 := hr9.below B10; have hr2 := RN.of_own sdE_len hown2 hld.out (by omega); have hcp2 := Lib.hid (capA (own_cap hown2 rfl)); have hv10 := hv9.below B10; have hB10 := below_next hB9 B10; have hR10 := hR9.below B10)
              | (go_at_call 95; refine (hC1.out _ (RSd_drew hx1)).mono ?_; rintro e w9 ⟨A9, c9, rfl, hown1, B9⟩; have hx9 := (RSd_drew hx2).below B9; have hr9 := RN.of_own sdE_len hown1 hlt1.out (by omega); have hcp1 := Lib.hid (capA (own_cap hown1 rfl)); have hv9 := RN.below (w := w8.drew) hv8 B9; have hB9 := below_next (below_drewN hB8 1) B9; have hR9 := RN.below (w := w8.drew) hR8 B9)
              | (go_at_call 94; refine (hTg.out _ _ _ _ _ _ _ _ _ _ (heap_alloc_new _ _) (hr1.alloc _) (hr2.alloc _) hcp1.out hcp2.out (by omega) (List.take_append_drop _ _) (hv10.alloc _)).mono ?_; rintro e w11 ⟨A11, n11, c11, rfl, hR11, B11, hN11⟩))
            clear hC1 hC2 hTg hr1 hr2 hr9 hown1 hown2 hcp1 hcp2 hv8 hv9 hv10 hx1 hx2 hx9 hlt1 hld
            have hB11 := below_next (hB10.alloc hB10.size _) B11
            have hR1 := (hR10.alloc _).below B11
            have hMv := Lib.hid (moved_c A1 A11 c c1 n11 c11 R w11 hR1 hR11 hN1'.out hN11 (by omega) hok.out hnd.out)
            have hEq := Lib.hid (fun W h h2 => equalRk_c A11 A1 n11 c11 c c1 R R W h h2)
            have hdR : decide (R = R) = true := decide_eq_true rfl
            rw [hdR] at hEq
            clear hdR hN11 hok hnd hR8 hR9 hR10 hB8 hB9 hB10 B9 B10 B11 hx8
            go_wp2_with fail
            refine hMv.out.mono ?_; rintro e w12 ⟨rfl, B12⟩
            have hB12 := below_next hB11 B12
            have hR12 := hR11.below B12
            have hR13 := hR1.below B12
            clear hMv hB11 B12 hR11 hR1
            go_wp2_with (first
              | (go_at_call 97; refine (hEq.out _ hR12 hR13).mono ?_; rintro e w13 ⟨rfl, q13, rfl⟩; have hB13 := below_drewN hB12 q13)
              | (go_at_call 63; refine (ready_c _).mono ?_; rintro e w14 ⟨rfl, B14⟩; have hB14 := below_next hB13 B14))
            go_ret
            exact ⟨rfl, hB14⟩
          · have hj2 : ¬ j = c := fun e => hjc e.symm
            have hC1 := Lib.hid (fun W h => cloneSd_c (some ⟨b, 0, none⟩) j c (x.take j) W h (by omega))
            have hC2 := Lib.hid (fun W h => cloneSd_c (some ⟨b, j * 2, none⟩) (k - j) (c - j) (x.drop j) W h (by omega))
            have hx1 := RSd_take hx8 hj
            have hx2 := RSd_drop hx8 hj
            have j0 : (0 : Int) ≤ (j : Int) := by omega
            have j1 : (j : Int) ≤ (c : Int) := by omega
            have j2 : (j : Int) ≤ (k : Int) := by omega
            have j3 : (k : Int) ≤ (c : Int) := by omega
            have j4 : (0 : Int) ≤ (k : Int) := by omega
            go_region_held3 (fun _ => True) (trivial) (first
              | (have hq1 := hown1; go_at_call 95; refine (hC2.out _ hx9).mono ?_; rintro e w10 ⟨A10, c10, rfl, hown2, B10⟩; have hr1 := hr9.below B10; have hr2 := RN.of_own sdE_len hown2 hld.out (by omega); have hcp2 := Lib.hid (capA (own_cap hown2 rfl)); have hv10 := hv9.below B10; have hB10 := below_next hB9 B10; have hR10 := hR9.below B10)
              | (go_at_call 95; refine (hC1.out _ (RSd_drew hx1)).mono ?_; rintro e w9 ⟨A9, c9, rfl, hown1, B9⟩; have hx9 := (RSd_drew hx2).below B9; have hr9 := RN.of_own sdE_len hown1 hlt1.out (by omega); have hcp1 := Lib.hid (capA (own_cap hown1 rfl)); have hv9 := RN.below (w := w8.drew) hv8 B9; have hB9 := below_next (below_drewN hB8 1) B9; have hR9 := RN.below (w := w8.drew) hR8 B9)
              | (go_at_call 94; refine (hTg.out _ _ _ _ _ _ _ _ _ _ (heap_alloc_new _ _) (hr1.alloc _) (hr2.alloc _) hcp1.out hcp2.out (by omega) (List.take_append_drop _ _) (hv10.alloc _)).mono ?_; rintro e w11 ⟨A11, n11, c11, rfl, hR11, B11, hN11⟩))
            clear hC1 hC2 hTg hr1 hr2 hr9 hown1 hown2 hcp1 hcp2 hv8 hv9 hv10 hx1 hx2 hx9 hlt1 hld
            have hB11 := below_next (hB10.alloc hB10.size _) B11
            have hR1 := (hR10.alloc _).below B11
            have hMv := Lib.hid (moved_c A1 A11 k c1 n11 c11 R w11 hR1 hR11 hN1'.out hN11 (by omega) hok.out hnd.out)
            have hEq := Lib.hid (fun W h h2 => equalRk_c A11 A1 n11 c11 k c1 R R W h h2)
            have hdR : decide (R = R) = true := decide_eq_true rfl
            rw [hdR] at hEq
            clear hdR hN11 hok hnd hR8 hR9 hR10 hB8 hB9 hB10 B9 B10 B11 hx8
            go_wp2_with fail
            refine hMv.out.mono ?_; rintro e w12 ⟨rfl, B12⟩
            have hB12 := below_next hB11 B12
            have hR12 := hR11.below B12
            have hR13 := hR1.below B12
            clear hMv hB11 B12 hR11 hR1
            go_wp2_with (first
              | (go_at_call 97; refine (hEq.out _ hR12 hR13).mono ?_; rintro e w13 ⟨rfl, q13, rfl⟩; have hB13 := below_drewN hB12 q13)
              | (go_at_call 63; refine (ready_c _).mono ?_; rintro e w14 ⟨rfl, B14⟩; have hB14 := below_next hB13 B14))
            go_ret
            exact ⟨rfl, hB14⟩
end Go.Proofs.YtcmfgmdkdpadjaaGreatDoor
