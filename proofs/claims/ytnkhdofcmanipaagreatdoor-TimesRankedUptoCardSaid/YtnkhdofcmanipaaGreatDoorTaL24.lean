/- TimesRanked: Rank, RankTenths and Together are as specified for all times and verdicts: the walk, for lists of at most 1048576 numbers. -/
import Derived.Test.YtnkhdofcmanipaaGreatDoorTaRkRef
import Derived.Test.YtnkhdofcmanipaaGreatDoorTaTogA
import Derived.Test.YtnkhdofcmanipaaGreatDoorTaVerdM
import Derived.Test.YtnkhdofcmanipaaGreatDoorTaSeedM
import Derived.Test.YtnkhdofcmanipaaGreatDoorTaRnTD
import Derived.Test.YtnkhdofcmanipaaGreatDoorTaRunE
import Derived.Test.YtnkhdofcmanipaaGreatDoorTaAppW
import Derived.Test.YtnkhdofcmanipaaGreatDoorTaJudged
import Derived.Test.YtnkhdofcmanipaaGreatDoorTaDraws
import Derived.Deep.DeepCutAuto
namespace Go.Proofs.YtnkhdofcmanipaaGreatDoor
open Go.RowKit Go.Shelf Go.Lib Go.Sort
set_option linter.unusedVariables false

theorem info_row24 : (Tryz.prog.info? 26).map (fun i => (i.zero, i.size, i.bytes)) = some (some (.slice none 0 0), 1, 24) := by kernel_rfl
def sliceN : Value → Nat
  | .slice _ n _ => n
  | _ => 0
def wh24 (b : Bool) (e : Int) : Int := if b then e else 0
theorem when24_c (b : Bool) (e : Int) (w : World) : Calls Tryz.prog 15 #[.bool b, .int .i64 e] w fun e' w' => e' = .returned (.int .i64 (wh24 b e)) ∧ w = w' := by
  cases b
  · go_enter Tryz.func15, Tryz.ntmps15
    go_wp2
    go_ret
    exact ⟨rfl, rfl⟩
  · go_enter Tryz.func15, Tryz.ntmps15
    go_wp2
    go_ret
    exact ⟨rfl, rfl⟩
theorem Rank24_c (A B : Option Addr) (n c m c2 : Nat) (l : List Sd) (v : List Vd) (w : World) (h : RSd w A n l) (hv : RVd w B m v) (hn : n ≤ 19) :
    Calls Tryz.prog 10 #[.slice A n c, .slice B m c2] w (RetRk w (rankE l v) (rankD 1 l v)) := by
  have hR := Lib.hid (rank_c A B n c m c2 l v 1 w h hv hn (by omega) (by omega))
  generalize rankE l v = E at *
  generalize rankD 1 l v = D at *
  clear h hv
  go_enter Tryz.func10, Tryz.ntmps10
  go_wp2_with fail
  refine hR.out.mono ?_; rintro e w1 ⟨A', n', c', rfl, hr, hB, hN⟩
  have H := Lib.hid (And.intro hr (And.intro hB hN))
  clear hr hB hR hN
  go_wp2
  go_ret2
  exact ⟨A', n', c', rfl, H.out.1, H.out.2.1, H.out.2.2⟩
theorem cap24 {w : World} {base : Nat} {e : TypeId} {size n c : Nat} {A : Option Addr} {xs : List Value} (h : w.ownsRow base e size (.slice A n c) n xs) : (A = none → c = 0) ∧ n ≤ c := by
  rcases h.2 with ⟨h9, h0⟩ | ⟨g9, cap, cur, hv9, h1, h2, h3, h4⟩
  · injection h9 with e1 e2 e3
    exact ⟨fun _ => e3, by omega⟩
  · injection hv9 with e1 e2 e3
    exact ⟨fun e => by (rw [e1] at e; cases e), by omega⟩
theorem meas24 {n n' L r : Nat} (h : n' < n) (hr : r ≤ L + 1) : n' * (L + 3) + (L + 2) + 1 ≤ n * (L + 3) + (L + 2 - r) := by
  have h1 := Nat.mul_le_mul_right (L + 3) (show n' + 1 ≤ n from h)
  rw [Nat.add_mul] at h1
  omega
theorem top24 {n L : Nat} (h : n ≤ 10) : n * (L + 3) ≤ 10 * (L + 3) := Nat.mul_le_mul_right _ h
theorem rankE_or (l : List Sd) (v : List Vd) : orV [seedErr l, verdErr v] = rankE l v := by
  unfold rankE
  by_cases h : seedErr l = 0
  · rw [if_neg (by simp [h]), h]
    by_cases h2 : verdErr v = 0
    · rw [h2]; rfl
    · simp [orV, h2]
  · rw [if_pos h]
    simp [orV, h]
/-- what stays -/
structure X24 (w : World) (A : Option Addr) (n : Nat) (l : List Sd) (V : Option Addr) (m : Nat) (v : List Vd) (A7 : Option Addr) (n7 : Nat) (R1 : List Rk) (A9 : Option Addr) (n9 : Nat) (R10 : List Rk) (wx : World) : Prop where
  sd : RSd wx A n l
  vd : RVd wx V m v
  r1 : RRk wx A7 n7 R1
  r2 : RRk wx A9 n9 R10
  bel : Below w.heap.size w wx
section
variable {w wx w' : World} {A V A7 A9 : Option Addr} {n m n7 n9 : Nat} {l : List Sd} {v : List Vd} {R1 R10 : List Rk}
theorem X24.below (h : X24 w A n l V m v A7 n7 R1 A9 n9 R10 wx) (B : Below wx.heap.size wx w') : X24 w A n l V m v A7 n7 R1 A9 n9 R10 w' := ⟨h.sd.below B, h.vd.below B, h.r1.below B, h.r2.below B, below_next h.bel B⟩
theorem X24.stream {k : Nat} {zs : Zs} (h : X24 w A n l V m v A7 n7 R1 A9 n9 R10 wx) (hs : St wx w.heap.size zs k) (g : wx.grownBy w' (some w.heap.size)) : X24 w A n l V m v A7 n7 R1 A9 n9 R10 w' :=
  ⟨h.sd.keep (T := 25) (by decide) (hs.keep g), h.vd.keep (T := 25) (by decide) (hs.keep g), h.r1.keep (T := 25) (by decide) (hs.keep g), h.r2.keep (T := 25) (by decide) (hs.keep g), h.bel.trans (grown_below g (Nat.le_refl _) h.bel.size)⟩
theorem X24.own {base s c : Nat} {u : Value} {xs : List Value} (h : X24 w A n l V m v A7 n7 R1 A9 n9 R10 wx) (ho : wx.ownsRow base 26 s u c xs) (g : wx.grownBy w' u.ownBlock) (hb : w.heap.size ≤ base) : X24 w A n l V m v A7 n7 R1 A9 n9 R10 w' :=
  ⟨h.sd.keep (T := 26) (by decide) (keep_row ho g), h.vd.keep (T := 26) (by decide) (keep_row ho g), h.r1.keep (T := 26) (by decide) (keep_row ho g), h.r2.keep (T := 26) (by decide) (keep_row ho g), below_own h.bel ho g h.bel.size hb⟩
end
/-- heats under way: what was cut off, what is left -/
structure H24 (base : Nat) (l : List Sd) (u : Value) (acc : List NxS) (A : Option Addr) (n : Nat) (rs : List Sd) (wx : World) : Prop where
  own : wx.ownsRow base 26 1 u acc.length (acc.flatMap nxsE)
  ids : ∀ x ∈ acc, RSd wx x.A x.ids.length x.ids ∧ (x.A = none → x.c = 0)
  rest : RSd wx A n rs
  all : acc.flatMap NxS.ids ++ rs = l
  z : base ≤ wx.heap.size
section
variable {base n : Nat} {l rs : List Sd} {u : Value} {acc : List NxS} {A : Option Addr} {wx w' : World}
theorem H24.below (h : H24 base l u acc A n rs wx) (B : Below wx.heap.size wx w') : H24 base l u acc A n rs w' := ⟨own_below h.own B, fun x hx => ⟨(h.ids x hx).1.below B, (h.ids x hx).2⟩, h.rest.below B, h.all, Nat.le_trans h.z B.size⟩
theorem H24.stream {k g : Nat} {zs : Zs} (h : H24 base l u acc A n rs wx) (hs : St wx g zs k) (hg : g < base) (gr : wx.grownBy w' (some g)) : H24 base l u acc A n rs w' :=
  ⟨own_keep h.own hg gr, fun x hx => ⟨(h.ids x hx).1.keep (T := 25) (by decide) (hs.keep gr), (h.ids x hx).2⟩, h.rest.keep (T := 25) (by decide) (hs.keep gr), h.all, Nat.le_trans h.z gr.size⟩
theorem H24.app {v' : Value} {A6 A' : Option Addr} {c6 k : Nat} (h : H24 base l u acc A n rs wx) (hr : RSd wx A6 k (rs.take k)) (hd : RSd wx A' (n - k) (rs.drop k)) (hc : A6 = none → c6 = 0) (ho : w'.ownsRow base 26 1 v' (acc.length + 1) (acc.flatMap nxsE ++ [.slice A6 k c6])) (hg : wx.grownBy w' u.ownBlock) : H24 base l v' (acc ++ [⟨A6, c6, rs.take k⟩]) A' (n - k) (rs.drop k) w' := by
  have hK := keep_row h.own hg
  refine ⟨?_, fun x hx => ?_, hd.keep (T := 26) (by decide) hK, ?_, Nat.le_trans h.z hg.size⟩
  · rw [List.length_append, List.flatMap_append]
    have e : [(⟨A6, c6, rs.take k⟩ : NxS)].flatMap nxsE = [.slice A6 k c6] := by
      show [Value.slice A6 (rs.take k).length c6] = _
      rw [hr.len]
    rw [e]
    exact ho
  · rcases List.mem_append.1 hx with hx | hx
    · exact ⟨(h.ids x hx).1.keep (T := 26) (by decide) hK, (h.ids x hx).2⟩
    · rcases List.mem_singleton.1 hx with rfl
      exact ⟨by dsimp only; rw [hr.len]; exact hr.keep (T := 26) (by decide) hK, hc⟩
  · rw [List.flatMap_append, List.append_assoc]
    show acc.flatMap NxS.ids ++ (rs.take k ++ [] ++ rs.drop k) = l
    rw [List.append_nil, List.take_append_drop]
    exact h.all
theorem H24.fin {A8 : Option Addr} {c8 : Nat} (h : H24 base l (.slice A8 acc.length c8) acc A n rs wx) (hb : acc.length ≤ 140737488355328) : RNxS wx A8 acc.length acc := ⟨RN.of_own nxsE_len h.own rfl hb, h.ids⟩
end
/-- a list that a call cuts: front and rest -/
theorem cut24 {wx : World} {A : Option Addr} {n k : Nat} {rs : List Sd} (h : RSd wx A n rs) (hp : 0 < n) (hk : k ≤ n) : ∃ b o, A = some ⟨b, o, none⟩ ∧ RSd wx (some ⟨b, o, none⟩) k (rs.take k) ∧ RSd wx (some ⟨b, o + k * 2, none⟩) (n - k) (rs.drop k) := by
  obtain ⟨b, o, x, rfl, _⟩ := h.at_ hp
  exact ⟨b, o, rfl, RN_take h hk, RN_drop h hk⟩
theorem step24 {zs : Zs} {kk r n1 q a T : Nat} (hn1 : 0 < n1) (hn : n1 ≤ 10) (hq : nextV zs kk ((n1 : Int) - 0 + 1) = q) (hq1 : q ≤ n1) (hr : r ≤ kk) (hrL : r ≤ zs.l.length + 1) (hrun : ∀ j, j < r → nextV zs (kk - r + j) ((n1 : Int) - 0 + 1) = 0) (hM : a + (n1 * (zs.l.length + 3) + (zs.l.length + 2 - r)) ≤ T) :
    ∃ r', r' ≤ kk + 1 ∧ r' ≤ zs.l.length + 1 ∧ Hid (∀ j, j < r' → nextV zs (kk + 1 - r' + j) (((n1 - q : Nat) : Int) - 0 + 1) = 0) ∧ a + 1 + ((n1 - q) * (zs.l.length + 3) + (zs.l.length + 2 - r')) ≤ T := by
  rcases Nat.eq_zero_or_pos q with h0 | hp
  · subst h0
    have hrun2 : ∀ j, j < r + 1 → nextV zs (kk - r + j) ((n1 : Int) - 0 + 1) = 0 := fun j hj => by
      rcases Nat.lt_or_ge j r with h | h
      · exact hrun j h
      · rw [show kk - r + j = kk by omega]; exact hq
    have hr2 : r + 1 ≤ zs.l.length + 1 := by
      rcases Nat.lt_or_ge (zs.l.length + 1) (r + 1) with h | h
      · exact (run_ends (zs := zs) (k := kk - r) (N := (n1 : Int) - 0 + 1) (by omega) (by omega) (fun j hj => hrun2 j (by omega))).elim
      · exact h
    refine ⟨r + 1, by omega, hr2, Lib.hid (fun j hj => ?_), ?_⟩
    · rw [show kk + 1 - (r + 1) + j = kk - r + j by omega, Nat.sub_zero]; exact hrun2 j hj
    · rw [Nat.sub_zero]; omega
  · refine ⟨0, by omega, by omega, Lib.hid (fun j hj => by omega), ?_⟩
    have := meas24 (n := n1) (n' := n1 - q) (L := zs.l.length) (r := r) (by omega) hrL
    omega
set_option maxHeartbeats 12800000 in
set_option maxRecDepth 100000 in
theorem timesRanked_walk (a0 : Option Addr) (len0 cap0 : Nat) (z0 : List Int) (w : World) (w0 : IsRow .i64 w a0 len0 cap0 z0) (hlen : len0 ≤ 1048576) (htab : Tb w) :
    Calls Tryz.prog 3 #[.slice a0 len0 cap0] w fun e w' => e = .returned (.bool true) ∧ Below w.heap.size w w' := by
  have hs := law_start w0
  have hzl : (Zs.mk (z0.take len0) w.heap.size).l.length ≤ 1048576 := by show (z0.take len0).length ≤ _; rw [List.length_take]; omega
  clear w0
  generalize Zs.mk (z0.take len0) w.heap.size = zs at *
  have hs' : St (w.alloc (.cells #[.slice a0 len0 cap0, .int .i64 0] 25)) w.heap.size zs 0 := hs
  have hB1 := below_new w (.cells #[.slice a0 len0 cap0, .int .i64 0] 25)
  go_enter Tryz.func3, Tryz.ntmps3
  go_wp2_with fail
  refine (seeds_c _ zs 0 10 _ w hs' (by omega) (by omega) htab hB1 (Nat.le_refl _)).mono ?_; rintro e w2 ⟨A, n, c, l, k2, rfl, ho2, hln, hn, s2, hk2, g2⟩
  have hx2 : RSd w2 A n l := RN.of_own sdE_len ho2 hln (by omega)
  have hB2 := hB1.trans (grown_below g2 (Nat.le_refl _) hB1.size)
  clear hs hs' hB1 g2 ho2 htab
  go_wp2_with fail
  refine (verdictList_c _ zs k2 _ s2 (by omega)).mono ?_; rintro e w3 ⟨V, m, cv, v, k3, rfl, ho3, hlv, hm, s3, hk3, g3⟩
  have hv3 : RVd w3 V m v := RN.of_own vdE_len ho3 hlv (by omega)
  have hx3 : RSd w3 A n l := hx2.keep (T := 25) (by decide) (s2.keep g3)
  have hB3 := hB2.trans (grown_below g3 (Nat.le_refl _) hB2.size)
  have hSF := Lib.hid (fun W h => seedsFault_c A n c l W h)
  have hVF := Lib.hid (fun W h => verdictsFault_c V m cv v W h)
  have hOr := Lib.hid (rankE_or l v)
  have hRk := Lib.hid (fun W h h2 => Rank24_c A V n c m cv l v W h h2 (by omega))
  have hRT := Lib.hid (fun W h h2 => rankTenths_c A V n c m cv l v W h h2 (by omega))
  have hso := Lib.hid (fun (h : seedErr l = 0) x hx => (seedErr_ok h).2 x hx)
  have hvo := Lib.hid (fun (h : verdErr v = 0) x hx => (verdErr_ok h).2 x hx)
  have hrE : Hid (rankE l v = 0 → seedErr l = 0 ∧ verdErr v = 0) := Lib.hid (fun h => by
    unfold rankE at h
    by_cases h9 : seedErr l = 0
    · rw [if_neg (by simp [h9])] at h; exact ⟨h9, h⟩
    · rw [if_pos h9] at h; exact absurd h h9)
  have hDE := Lib.hid (fun d (h : rankE l v ≠ 0) => show rankD d l v = [] from if_neg h)
  have hD0 := Lib.hid (fun d (h : rankE l v = 0) => show rankD d l v = refRank d (faultV v) l by rw [refRank_law]; exact if_pos h)
  clear hx2 s2 g3 ho3 hB2
  generalize seedErr l = SE at *
  generalize verdErr v = VE at *
  go_wp2_with fail
  refine (hSF.out _ hx3).mono ?_; rintro e w4 ⟨rfl, B4⟩
  have hB4 := below_next hB3 B4
  have hv4 := hv3.below B4
  have hx4 := hx3.below B4
  have s4 := s3.below B4
  clear hx3 hv3 s3 hB3 B4 hSF
  go_wp2_with fail
  refine (hVF.out _ hv4).mono ?_; rintro e w5 ⟨rfl, B5⟩
  have hB5 := (below_next hB4 B5).alloc (below_next hB4 B5).size (.cells #[.int .i64 SE, .int .i64 VE] 30)
  have hv5 := (hv4.below B5).alloc (.cells #[.int .i64 SE, .int .i64 VE] 30)
  have hx5 := (hx4.below B5).alloc (.cells #[.int .i64 SE, .int .i64 VE] 30)
  have s5 := (s4.below B5).alloc (.cells #[.int .i64 SE, .int .i64 VE] 30)
  clear hx4 hv4 s4 hB4 B5 hVF
  go_wp2_with fail
  refine (orE_c _ _ _ [SE, VE] _ (R1.litAt _ _ _ [SE, VE] (by first | rfl | simp) rfl (by simp))).mono ?_; rintro e w' ⟨rfl, rfl⟩
  rw [hOr.out]
  clear hOr
  go_wp2_with fail
  refine (hRk.out _ hx5 hv5).mono ?_; rintro e w7 ⟨A7, n7, c7, rfl, r7, B7, _⟩
  have hB7 := below_next hB5 B7
  have hv7 := hv5.below B7
  have hx7 := hx5.below B7
  have s7 := s5.below B7
  clear hx5 hv5 s5 hB5 B7 hRk
  go_wp2_with fail
  refine (hRT.out _ hx7 hv7).mono ?_; rintro e w9 ⟨A9, n9, c9, rfl, r9, B9, _⟩
  have K9 : X24 w A n l V m v A7 n7 (rankD 1 l v) A9 n9 (rankD 10 l v) w9 := ⟨hx7.below B9, hv7.below B9, r7.below B9, r9, below_next hB7 B9⟩
  have s9 := s7.below B9
  have hl7 := r7.len
  have hl9 := r9.len
  clear hx7 hv7 s7 hB7 B9 hRT r7 r9
  go_wp2_with fail
  refine (cloneSd_c A n c l _ K9.sd (by omega)).mono ?_; rintro e w10 ⟨A0, c0, rfl, ho10, B10⟩
  have K10 := K9.below B10
  have s10 := s9.below B10
  have hcc := cap24 ho10
  have hr10 : RSd w10 A0 n l := RN.of_own sdE_len ho10 hln (by omega)
  have hg10 := s10.lt
  have J0 : H24 w10.heap.size l (.slice none 0 0) [] A0 n l w10 := ⟨World.ownsRow_nil _ _ _ _, (fun x h => by cases h), hr10, rfl, Nat.le_refl _⟩
  have hz10 := K10.bel.size
  have hTg := Lib.hid (fun A8 n8 c8 L W h h2 hM => togetherA_c A8 V n8 c8 m cv L v W h h2 hM)
  clear K9 s9 ho10 B10 hr10
  generalize hBS : w10.heap.size = base at *
  clear hBS
  go_wp2_with fail
  go_loopw [11, 12, 13] (fun u t _ wr => ∃ (acc : List NxS) (A1 : Option Addr) (n1 c1 : Nat) (rs : List Sd) (kk r : Nat), t = .slice A1 n1 c1 ∧ n1 ≤ c1 ∧ n1 ≤ 10 ∧ H24 base l u acc A1 n1 rs wr ∧ X24 w A n l V m v A7 n7 (rankD 1 l v) A9 n9 (rankD 10 l v) wr ∧ St wr w.heap.size zs kk ∧ kk ≤ k3 + acc.length ∧ r ≤ kk ∧ r ≤ zs.l.length + 1 ∧ Hid (∀ j, j < r → nextV zs (kk - r + j) ((n1 : Int) - 0 + 1) = 0) ∧ acc.length + (n1 * (zs.l.length + 3) + (zs.l.length + 2 - r)) ≤ 10 * (zs.l.length + 3) + (zs.l.length + 2)) (fun u _ _ _ => 10 * (zs.l.length + 3) + (zs.l.length + 2) - sliceN u)
  case atStart => exact ⟨[], A0, n, c0, l, k3, 0, rfl, hcc.2, by omega, J0, K10, s10, by simp, by omega, by omega, Lib.hid (fun j h => by omega), by have := top24 (L := zs.l.length) (show n ≤ 10 by omega); simp; omega⟩
  case round =>
    clear J0 K10 s10
    rename World => wr
    obtain ⟨acc, A1, n1, c1, rs, kk, r, rfl, hc1, hn1, J, K, s, hkk, hr, hrL, hrun, hM⟩ := hrel
    obtain ⟨A8, c8, rfl⟩ := own_shape J.own
    by_cases hp : 0 < n1
    · obtain ⟨b, o, _, rfl, _⟩ := J.rest.at_ hp
      have hp1 : (0 : Int) < (n1 : Int) := by omega
      go_wp2_with fail
      refine (range_c _ zs kk 0 (n1 : Int) _ s (by omega) (by omega) (by omega) (by omega)).mono ?_; rintro e w11 ⟨rfl, s11, g11⟩
      have hv := @nextV_bd zs kk ((n1 : Int) - 0 + 1) (by omega)
      obtain ⟨q, hq⟩ : ∃ q : Nat, nextV zs kk ((n1 : Int) - 0 + 1) = q := ⟨(nextV zs kk ((n1 : Int) - 0 + 1)).toNat, by omega⟩
      have hq1 : q ≤ n1 := by omega
      obtain ⟨r', hr1, hr2, hr3, hr4⟩ := step24 hp hn1 hq hq1 hr hrL hrun.out hM
      rw [hq, Int.zero_add]
      have J11 := J.stream s hg10 g11
      have K11 := K.stream s g11
      obtain ⟨b', o', e9, hf, hd⟩ := cut24 J11.rest hp hq1
      injection e9 with e9
      injection e9 with e9a e9b
      subst e9a e9b
      have hbd : acc.length ≤ 33554432 := by omega
      have hqi0 : (0 : Int) ≤ (q : Int) := by omega
      have hqi1 : (q : Int) ≤ (n1 : Int) := by omega
      have hqi2 : (q : Int) ≤ (c1 : Int) := by omega
      clear J K s g11 hv hq hrun hM
      have hsd := Lib.hid Tryz.sizeOf40
      go_wp2_with fail
      refine (cloneSd_c (some ⟨b, o, none⟩) q c1 (rs.take q) w11 hf (by omega)).mono ?_; rintro e w12 ⟨A6, c6, rfl, ho12, B12⟩
      have J12 := J11.below B12
      have K12 := K11.below B12
      have s12 := s11.below B12
      have hr6 : RSd w12 A6 q (rs.take q) := RN.of_own sdE_len ho12 hf.len (by omega)
      have hd12 : RSd w12 (if c1 = q then some ⟨b, o, none⟩ else some ⟨b, o + q * 2, none⟩) (n1 - q) (rs.drop q) := by
        by_cases h9 : c1 = q
        · rw [if_pos h9, show n1 - q = 0 by omega, List.drop_of_length_le (by have := J12.rest.len; omega)]
          exact RN.nil_ _ _ _ _ _
        · rw [if_neg h9]; exact hd.below B12
      have hc6 := (cap24 ho12).1
      clear J11 K11 s11 ho12 B12 hf hd
      go_wp2_with (at_builtin; refine wpList_appW (w := w12) rfl (.tmp 51) (.tmp 56) 37 rfl Tryz.underlying37 info_row24 rfl (by omega) (by omega) J12.own rfl rfl (by first | rfl | (simp; done)) rfl (by simp [Value.oneCell']) hbd J12.z ?_; intro v8 w8 hown8 hg8)
      have J8 := J12.app (k := q) hr6 hd12 hc6 hown8 hg8
      have K8 := K12.own J12.own hg8 hz10
      have s8 := s12.grown hg8 (fun i hi => by have := own_row_lt J12.own i hi; omega)
      obtain ⟨A9, c9, rfl⟩ := own_shape J8.own
      clear J12 K12 s12 hr6 hd12 hc6 hown8 hg8
      have hla : (acc ++ [(⟨A6, c6, rs.take q⟩ : NxS)]).length = acc.length + 1 := by rw [List.length_append]; rfl
      rw [hla]
      go_wp2
      go_roundw
      case rel => exact ⟨acc ++ [⟨A6, c6, rs.take q⟩], _, n1 - q, c1 - q, rs.drop q, kk + 1, r', rfl, by omega, by omega, by rw [← hla]; exact J8, K8, s8, by rw [hla]; omega, hr1, hr2, hr3, by rw [hla]; exact hr4⟩
      case measure => simp [sliceN]; omega
    · obtain rfl : n1 = 0 := by omega
      have hrs : rs = [] := List.eq_nil_of_length_eq_zero J.rest.len
      have hFl : acc.flatMap NxS.ids = l := by have := J.all; rw [hrs, List.append_nil] at this; exact this
      have hRN := J.fin (by omega)
      have hT := hTg.out A8 acc.length c8 acc wr hRN K.vd (by rw [hFl]; omega)
      rw [hFl] at hT
      have hT' := Lib.hid hT
      have hlA : acc.length ≤ 33554432 := by omega
      clear hT hRN J hrs hTg hrun hM hFl hc1 hn1
      generalize acc.length = na at *
      go_wp2_with fail
      refine hT'.out.mono ?_; rintro e w14 ⟨A4, n4, c4, rfl, r14, B14, _⟩
      have K14 := K.below B14
      have s14 := s.below B14
      have hl14 := r14.len
      clear K s B14 hT'
      by_cases hE : rankE l v = 0
      · obtain ⟨hs0, hv0⟩ := hrE.out hE
        have hso1 := hso.out hs0
        have hvo1 := hvo.out hv0
        have hKey : ∀ x : ByteArray, keyB x = true → x.size ≤ 40 := fun x hx => (key_small hx).2
        have hRO := Lib.hid (fun d W h h2 hd hd2 => rankedOf_c A V n c m cv l v d W h h2 (by omega) (by omega) hd hd2 (fun x hx => ⟨hKey _ (hso1 x hx).1, (hso1 x hx).2⟩) (fun x hx => ⟨hKey _ (hvo1 x hx).1, (hvo1 x hx).2⟩))
        rw [hD0.out 1 hE] at K14 hl7 r14
        rw [hD0.out 10 hE] at K14 hl9
        have hRO1 := Lib.hid (hRO.out 1)
        have hRO10 := Lib.hid (hRO.out 10)
        have hRl : (refRank 1 (faultV v) l).length = l.length := refRank_len _ _ _
        have hRl10 : (refRank 10 (faultV v) l).length = l.length := refRank_len _ _ _
        generalize refRank 1 (faultV v) l = R1 at *
        generalize refRank 10 (faultV v) l = R10 at *
        rw [hE]
        clear hRO hDE hD0 hso hvo hrE hso1 hvo1 hKey hs0 hv0 hE
        go_wp2_with fail
        refine (hRO1.out _ K14.sd K14.vd (by omega) (by omega)).mono ?_; rintro e w16 ⟨A16, n16, c16, rfl, ho16, B16⟩
        have K16 := K14.below B16
        have r16 := r14.below B16
        have hl16 := own_len rkE_len (by decide) ho16
        have x16 : RRk w16 A16 n16 R1 := RN.of_own rkE_len ho16 hl16 (by omega)
        have hEq1 := equalRk_c A7 A16 n7 c7 n16 c16 R1 R1 w16 K16.r1 x16
        rw [decide_eq_true (rfl : R1 = R1)] at hEq1
        have hEq1' := Lib.hid hEq1
        clear K14 r14 B16 ho16 hRO1 hEq1
        go_wp2_with fail
        refine hEq1'.out.mono ?_; rintro e w17 ⟨rfl, q17, rfl⟩
        have B17 := below_drewN (Below.refl w16.heap.size w16) q17
        have K17 := K16.below B17
        have r17 := r16.below B17
        have x17 := x16.below B17
        generalize w16.drewN q17 = w17 at *
        clear K16 r16 x16 B17 hEq1'
        go_wp2_with fail
        refine (hRO10.out _ K17.sd K17.vd (by omega) (by omega)).mono ?_; rintro e w18 ⟨A18, n18, c18, rfl, ho18, B18⟩
        have K18 := K17.below B18
        have r18 := r17.below B18
        have x18 := x17.below B18
        have hl18 := own_len rkE_len (by decide) ho18
        have y18 : RRk w18 A18 n18 R10 := RN.of_own rkE_len ho18 hl18 (by omega)
        have hEq2 := equalRk_c A9 A18 n9 c9 n18 c18 R10 R10 w18 K18.r2 y18
        rw [decide_eq_true (rfl : R10 = R10)] at hEq2
        have hEq2' := Lib.hid hEq2
        clear K17 r17 x17 B18 ho18 hRO10 hEq2
        go_wp2_with fail
        refine hEq2'.out.mono ?_; rintro e w19 ⟨rfl, q19, rfl⟩
        have B19 := below_drewN (Below.refl w18.heap.size w18) q19
        have hb19 := (K18.below B19).bel
        have r19 := r18.below B19
        have x19 := x18.below B19
        generalize w18.drewN q19 = w19 at *
        clear K18 r18 x18 B19 hEq2' y18
        by_cases h60 : 60 < na
        · have h60i : (60 : Int) < (na : Int) := by omega
          have e4 : n4 = 0 := by unfold togL at hl14; rw [if_pos h60] at hl14; exact hl14.symm
          subst e4
          rw [show togE na 0 = 2 from if_pos h60]
          clear r19 x19
          go_wp2_with fail
          refine (judged_c _).mono ?_; rintro e wM ⟨rfl, BM⟩
          have hb3 := below_next hb19 BM
          go_wp2
          go_ret
          exact ⟨rfl, hb3⟩
        · have h60i : ¬ (60 : Int) < (na : Int) := by omega
          rw [show togE na 0 = 0 from if_neg h60]
          rw [show togL na R1 = R1 from if_neg h60] at r19
          have hEq3 := equalRk_c A4 A16 n4 c4 n16 c16 R1 R1 w19 r19 x19
          rw [decide_eq_true (rfl : R1 = R1)] at hEq3
          have hEq3' := Lib.hid hEq3
          clear hEq3 r19 x19
          go_wp2_with fail
          refine hEq3'.out.mono ?_; rintro e w20 ⟨rfl, q20, rfl⟩
          have hb20 := below_drewN hb19 q20
          generalize w19.drewN q20 = w20 at *
          clear hEq3'
          go_wp2_with fail
          refine (judged_c _).mono ?_; rintro e wM ⟨rfl, BM⟩
          have hb3 := below_next hb20 BM
          go_wp2
          go_ret
          exact ⟨rfl, hb3⟩
      · have e7 : n7 = 0 := by rw [hDE.out 1 hE] at hl7; exact hl7.symm
        have e9 : n9 = 0 := by rw [hDE.out 10 hE] at hl9; exact hl9.symm
        have e4 : n4 = 0 := by rw [hDE.out 1 hE] at hl14; unfold togL at hl14; split at hl14 <;> exact hl14.symm
        subst e7 e9 e4
        have hb := K14.bel
        have eb : (rankE l v != 0) = true := by simpa using hE
        clear K14 r14 hl14 hl7 hl9 hDE hD0 hso hvo hrE
        generalize rankE l v = E at *
        unfold togE
        by_cases h60 : 60 < na
        · have h60i : (60 : Int) < (na : Int) := by omega
          rw [if_pos h60]
          go_wp2_with fail
          refine (when24_c _ _ _).mono ?_; rintro e wq ⟨rfl, rfl⟩
          rw [show wh24 true 2 = 2 from rfl]
          go_wp2_with fail
          refine (orE_c _ _ _ [2, E] _ (R1.litAt _ _ _ [2, E] (by first | rfl | simp) rfl (by simp))).mono ?_; rintro e w' ⟨rfl, rfl⟩
          rw [show orV [2, E] = 2 by simp [orV]]
          have hb2 := hb.alloc (show w.heap.size ≤ w14.heap.size from hb.size) (.cells #[.int .i64 2, .int .i64 E] 30)
          go_wp2_with fail
          refine (judged_c _).mono ?_; rintro e wM ⟨rfl, BM⟩
          have hb3 := below_next hb2 BM
          go_wp2
          go_ret
          exact ⟨rfl, hb3⟩
        · have h60i : ¬ (60 : Int) < (na : Int) := by omega
          rw [if_neg h60]
          go_wp2_with fail
          refine (when24_c _ _ _).mono ?_; rintro e wq ⟨rfl, rfl⟩
          have hd60 : decide ((60 : Int) < (na : Int)) = false := decide_eq_false (by omega)
          rw [hd60, show wh24 false 2 = 0 from rfl]
          go_wp2_with fail
          refine (orE_c _ _ _ [0, E] _ (R1.litAt _ _ _ [0, E] (by first | rfl | simp) rfl (by simp))).mono ?_; rintro e w' ⟨rfl, rfl⟩
          rw [show orV [0, E] = E by simp [orV]; intro h; exact h.symm]
          have hb2 := hb.alloc (show w.heap.size ≤ w14.heap.size from hb.size) (.cells #[.int .i64 0, .int .i64 E] 30)
          go_wp2_with fail
          refine (judged_c _).mono ?_; rintro e wM ⟨rfl, BM⟩
          have hb3 := below_next hb2 BM
          go_wp2
          go_ret
          exact ⟨rfl, hb3⟩
end Go.Proofs.YtnkhdofcmanipaaGreatDoor
