/- TouchList as a function of the list and the place. Printed by wip/mktoul.py out of TouchL. -/
import Derived.Test.YtklggnglaeagpaaGreatDoorQTouF
namespace Go.Proofs.YtklggnglaeagpaaGreatDoor
open Go.RowKit
set_option linter.unusedVariables false

theorem info_touch : (Tryz.prog.info? 80).map (fun i => (i.zero, i.size, i.bytes)) = some (some (.agg #[.int .i64 0, .int .i64 0, .slice none 0 0]), 3, 40) := by kernel_rfl
theorem snoc_tc {w : World} {base k : Nat} {out : Value} {acc : List Tc} {a b : Int} {A : Option Addr} {n c : Nat} (ws : List Int) (h : w.ownsRow base 80 3 out k (acc.flatMap tcE ++ (#[.int .i64 a, .int .i64 b, .slice A n c] : Array Value).toList)) : w.ownsRow base 80 3 out k ((acc ++ [(⟨a, b, A, n, c, ws⟩ : Tc)]).flatMap tcE) := by
  rw [← flat_snoc]; exact h
/-- the list under way -/
structure TL (w : World) (g : Nat) (zs : Zs) (out : Value) (n : Nat) (acc : List Tc) (k : Nat) (wx : World) : Prop where
  o : wx.ownsRow w.heap.size 80 3 out n (acc.flatMap tcE)
  len : acc.length = n
  ri : ∀ x ∈ acc, RI 3 wx x.A x.n x.ws
  st : St wx g zs k
  gr : w.grownBy wx (some g)
section
variable {w wx w' : World} {g : Nat} {zs : Zs} {out : Value} {n : Nat} {acc : List Tc} {k : Nat}
theorem TL.stream {k' : Nat} (hg0 : g < w.heap.size) (h : TL w g zs out n acc k wx) (hs : St w' g zs k') (hg : wx.grownBy w' (some g)) : TL w g zs out n acc k' w' :=
  ⟨own_keep h.o hg0 hg, h.len, fun x hx => (h.ri x hx).keep (T := 25) (by decide) (h.st.keep hg), hs, grown_trans h.gr hg⟩
theorem TL.app {v' : Value} {a b : Int} {A : Option Addr} {m c : Nat} {ws : List Int} (hg0 : g < w.heap.size) (h : TL w g zs out n acc k wx) (hr : RI 3 wx A m ws) (ho : w'.ownsRow w.heap.size 80 3 v' (n + 1) (acc.flatMap tcE ++ (#[.int .i64 a, .int .i64 b, .slice A m c] : Array Value).toList)) (hg : wx.grownBy w' out.ownBlock) : TL w g zs v' (n + 1) (acc ++ [⟨a, b, A, m, c, ws⟩]) k w' := by
  have hk : Keep 80 wx w' := keep_row h.o hg
  refine ⟨snoc_tc ws ho, by rw [List.length_append, h.len]; rfl, fun x hx => ?_, h.st.grown hg (fun i hi => by have := own_row_lt h.o i hi; omega), grown_own h.gr hg (fun i hi => own_row_lt h.o i hi)⟩
  rcases List.mem_append.1 hx with hx | hx
  · exact (h.ri x hx).keep (T := 80) (by decide) hk
  · obtain rfl := List.mem_singleton.1 hx
    exact hr.keep (T := 80) (by decide) hk
end
/-- the touches of a heat, one behind the other -/
def tlG (zs : Zs) : Nat → Nat → List (Int × Int × List Int) × Nat
  | 0, k => ([], k)
  | n + 1, k => ((touchV zs k).1 :: (tlG zs n (touchV zs k).2).1, (tlG zs n (touchV zs k).2).2)
/-- eight empty touches at the end, at times -/
def tlF (zs : Zs) (r : List (Int × Int × List Int) × Nat) : List (Int × Int × List Int) × Nat :=
  (if (nextV zs r.2 30 == 0) = true then r.1 ++ List.replicate 8 (0, 0, []) else r.1, r.2 + 1)
/-- TouchList: what comes, and where the stream stands behind it -/
def tlV (zs : Zs) (k : Nat) : List (Int × Int × List Int) × Nat := tlF zs (tlG zs (0 + nextV zs k (6 - 0 + 1)).toNat (k + 1))
set_option maxHeartbeats 3200000 in
set_option maxRecDepth 100000 in
theorem touchListF_c (g : Nat) (zs : Zs) (k : Nat) (w : World) (h : St w g zs k) (hk : k + 1000 ≤ 1099511627776) :
    Calls Tryz.prog 30 #[.pointer (some ⟨g, 0, none⟩)] w fun e w' => ∃ (A : Option Addr) (n c : Nat) (l : List Tc), e = .returned (.slice A n c) ∧ RTc w' A n l ∧ n ≤ 14 ∧ l.map tcAbs = (tlV zs k).1 ∧ St w' g zs (tlV zs k).2 ∧ (tlV zs k).2 ≤ k + 500 ∧ w.grownBy w' (some g) := by
  have hglt := h.lt
  have hV := Lib.hid (show tlV zs k = tlF zs (tlG zs (0 + nextV zs k (6 - 0 + 1)).toNat (k + 1)) from rfl)
  generalize tlV zs k = RV at *
  go_enter Tryz.func30, Tryz.ntmps30
  go_wp2_with fail
  refine (rangeH_c g zs k 0 6 _ h (by omega) (by decide) (by decide) (by decide)).mono ?_; rintro e w1 ⟨v, hv, rfl, v0, v1, s1, g1⟩
  obtain ⟨N, rfl⟩ : ∃ N : Nat, v = N := ⟨v.toNat, by omega⟩
  have hT : TL w g zs (.slice none 0 0) 0 [] (k + 1) w1 := ⟨World.ownsRow_nil _ _ _ _, rfl, (fun x hx => by cases hx), s1, g1⟩
  clear s1 g1 h
  obtain ⟨G_, hG_⟩ : ∃ q, tlG zs = q := ⟨_, rfl⟩
  have hGs := Lib.hid (fun n kk => show G_ (n + 1) kk = ((touchV zs kk).1 :: (G_ n (touchV zs kk).2).1, (G_ n (touchV zs kk).2).2) by rw [← hG_]; rfl)
  have hG0 := Lib.hid (fun kk => show G_ 0 kk = ([], kk) by rw [← hG_]; rfl)
  have hV2 := Lib.hid (show RV = tlF zs (G_ N (k + 1)) by rw [hV.out, hv.out, Int.toNat_natCast, hG_])
  clear hV hG_ hv
  go_wp2_with fail
  go_loopw [3, 6] (fun out i wr => ∃ (j k2 : Nat) (acc : List Tc), j ≤ N ∧ i = .int .i64 j ∧ k2 ≤ k + 1 + 60 * j ∧ TL w g zs out j acc k2 wr ∧ Hid ((acc.map tcAbs ++ (G_ (N - j) k2).1, (G_ (N - j) k2).2) = G_ N (k + 1))) (fun _ i _ => N - (intOf i).toNat)
  case atStart => exact ⟨0, _, _, Nat.zero_le _, rfl, by omega, hT, Lib.hid (by rw [Nat.sub_zero]; rfl)⟩
  case round =>
    clear hT
    obtain ⟨j, k2, acc, hj, rfl, hk2, hT, hG⟩ := hrel
    by_cases hlt : j < N
    · go_wp2_with fail
      refine (touchOfF_c g zs k2 _ hT.st (by omega)).mono ?_; rintro e w2 ⟨x, rfl, hr, hxn, hxa, s3, hk3, g3⟩
      have hG2 := Lib.hid (show (acc.map tcAbs ++ tcAbs x :: (G_ (N - (j + 1)) (touchV zs k2).2).1, (G_ (N - (j + 1)) (touchV zs k2).2).2) = G_ N (k + 1) by
        rw [← hG.out, show N - j = (N - (j + 1)) + 1 by omega, hGs.out, hxa])
      clear hG hxa
      generalize (touchV zs k2).2 = k3 at *
      have hT3 := hT.stream hglt s3 g3
      clear hT s3 g3
      obtain ⟨pad, btn, xA, xn, xc, ws⟩ := x
      dsimp only [Tc.val] at *
      have hz := hT3.gr.size
      go_wp2_with (at_builtin; refine wpList_app rfl (.tmp 8) (.tmp 11) 73 rfl Tryz.underlying73 info_touch rfl (by omega) (by omega) hT3.o rfl rfl (by first | rfl | (simp; done)) rfl (by simp [Value.oneCell']) (by omega) hz ?_; intro v' w' hown' hg; have H := Lib.hid (hT3.app hglt hr hown' hg); clear hown' hg)
      go_roundw
      case rel => exact ⟨j + 1, k3, _, by omega, by go_num, by omega, H.out, Lib.hid (by rw [← hG2.out, List.map_append, List.append_assoc]; rfl)⟩
      case measure => simp [intOf]; omega
    · obtain rfl : j = N := by omega
      have hV3 := Lib.hid (show RV = tlF zs (acc.map tcAbs, k2) by
        have h9 := hG.out
        rw [Nat.sub_self, hG0.out, List.append_nil] at h9
        rw [hV2.out, ← h9])
      clear hG hV2 hGs hG0
      go_wp2_with fail
      refine (flipH_c g zs _ _ _ hT.st (by omega) (by omega) (by omega)).mono ?_; rintro e w5 ⟨fl, hfl, rfl, s5, g5⟩
      have hV4 : RV = (if fl = true then acc.map tcAbs ++ List.replicate 8 (0, 0, []) else acc.map tcAbs, k2 + 1) := by rw [hV3.out, ← hfl.out]; rfl
      obtain ⟨LL, hLL⟩ : ∃ q, Hid ((if fl = true then acc.map tcAbs ++ List.replicate 8 (0, 0, []) else acc.map tcAbs) = q) := ⟨_, Lib.hid rfl⟩
      rw [hLL.out] at hV4
      subst hV4
      have hT5 := hT.stream hglt s5 g5
      clear hT s5 g5 hV3 hfl
      dsimp only
      go_upto_if 15 with (fail)
      go_cut [3] (fun s3 wx => ∃ (n : Nat) (acc2 : List Tc), n ≤ 14 ∧ Hid (acc2.map tcAbs = LL) ∧ TL w g zs s3 n acc2 (k2 + 1) wx)
      case first =>
        cases fl
        · go_wp2
          go_meet
          case rel => exact ⟨_, acc, by omega, Lib.hid hLL.out, hT5⟩
        · go_wp2_with fail
          go_loopw [3, 16] (fun out i wr => ∃ (q : Nat) (acc3 : List Tc), q ≤ 8 ∧ i = .int .i64 q ∧ TL w g zs out (j + q) acc3 (k2 + 1) wr ∧ Hid (acc3.map tcAbs = acc.map tcAbs ++ List.replicate q (0, 0, []))) (fun _ i _ => 8 - (intOf i).toNat)
          case atStart => exact ⟨0, _, by omega, rfl, hT5, Lib.hid (by simp)⟩
          case round =>
            clear hT5
            obtain ⟨q, acc3, hq, rfl, hT, hM⟩ := hrel
            by_cases hq8 : q < 8
            · have hq8i : (q : Int) < 8 := by omega
              have hz := hT.gr.size
              go_wp2_with (at_builtin; refine wpList_app rfl (.tmp 18) (.tmp 20) 73 rfl Tryz.underlying73 info_touch rfl (by omega) (by omega) hT.o rfl rfl (by first | rfl | (simp; done)) rfl (by simp [Value.oneCell']) (by omega) hz ?_; intro v' w' hown' hg; have H := Lib.hid (hT.app (ws := []) hglt (R1.nil_ _ _ _ _) hown' hg); clear hown' hg)
              go_roundw
              case rel => exact ⟨q + 1, _, by omega, by go_num, H.out, Lib.hid (by rw [List.map_append, hM.out, List.append_assoc, List.replicate_succ']; rfl)⟩
              case measure => simp [intOf]; omega
            · obtain rfl : q = 8 := by omega
              go_wp2
              go_meet
              case rel => exact ⟨_, _, by omega, Lib.hid (by rw [hM.out]; exact hLL.out), hT⟩
      case rest =>
        clear hT5
        rename World => wx
        obtain ⟨n, acc2, hn, hA, hT⟩ := hcut
        obtain ⟨A, c, rfl⟩ := own_shape hT.o
        go_wp2
        go_ret
        exact ⟨A, n, ⟨c, rfl⟩, acc2, ⟨RN.of_own tcE_len hT.o hT.len (by omega), hT.ri⟩, hn, hA.out, hT.st, by omega, hT.gr⟩
end Go.Proofs.YtklggnglaeagpaaGreatDoor
