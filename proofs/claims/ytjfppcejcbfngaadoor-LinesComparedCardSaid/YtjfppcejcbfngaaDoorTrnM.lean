/- The stream's turns. -/
import Derived.Test.YtjfppcejcbfngaaDoorTrn
import Derived.Test.YtjfppcejcbfngaaDoorDraws
import Derived.Test.YtjfppcejcbfngaaDoorSplits
import Derived.Test.YtjfppcejcbfngaaDoorReady4
import Derived.Deep.AppendLies
import Derived.Deep.RegionHeld3
import Derived.Test.YtjfppcejcbfngaaDoorRegInv
import Derived.Test.YtjfppcejcbfngaaDoorRows2
namespace Go.Proofs.YtjfppcejcbfngaaDoor
open Go.RowKit
set_option linter.unusedVariables false

theorem info_turn : (Tryd.prog.info? 160).map (fun i => (i.zero, i.size, i.bytes)) = some (some (.agg #[.int .i64 0, .int .i64 0, .int .i64 0, .int .i64 0, .int .i64 0]), 5, 40) := by kernel_rfl
/-- a block of another element type than the row that is written -/
theorem blk_other_type {w w' : World} {base b : Nat} {e t : TypeId} {size n : Nat} {v : Value} {xs : List Value} {cs : Array Value} {fz : Nat × Nat} (h : w.heap[b]? = some (.cells cs t fz)) (hown : w.ownsRow base e size v n xs) (hne : e ≠ t) (hg : w.grownBy w' v.ownBlock) : w'.heap[b]? = some (.cells cs t fz) :=
  blk_grown h hg (fun he => by
    rcases hown.2 with ⟨rfl, _⟩ | ⟨g', cap, cur, rfl, _, hh, _⟩
    · simp [Value.ownBlock] at he
    · have e1 : b = g' := by simpa [Value.ownBlock] using he
      subst e1
      rw [h] at hh
      injection hh with hh
      injection hh with _ ht
      exact hne ht.symm)
theorem heap_alloc_at (w : World) (o : Obj) (z : Nat) (hz : w.heap.size = z) : (w.alloc o).heap[z]? = some o := by subst hz; exact heap_alloc_new w o
theorem trn_set : ∀ (l : List Trn) (k : Nat) (a b c : Int) (t : Trn), l[k]? = some t →
    (((l.flatMap trnE).set (k * 5) (.int .i64 a)).set (k * 5 + 1) (.int .i64 b)).set (k * 5 + 2) (.int .i64 c) = (l.set k ⟨a, b, c, t.den, t.fixed⟩).flatMap trnE
  | [], _, _, _, _, _, h => by simp at h
  | x :: l, 0, a, b, c, t, h => by
    obtain rfl : x = t := by simpa using h
    simp [trnE]
  | x :: l, k + 1, a, b, c, t, h => by
    have ih := trn_set l k a b c t (by simpa using h)
    have e : ∀ (m : List Value) (i : Nat) (v : Value), (trnE x ++ m).set ((k + 1) * 5 + i) v = trnE x ++ m.set (k * 5 + i) v := fun m i v => by
      rw [List.set_append_right _ _ (by show 5 ≤ _; omega)]
      congr 2
      show (k + 1) * 5 + i - 5 = _; omega
    rw [List.set_cons_succ, List.flatMap_cons, List.flatMap_cons, ← ih]
    have e0 := e (l.flatMap trnE) 0 (.int .i64 a)
    simp only [Nat.add_zero] at e0
    rw [e0, e, e]
def C14 (g b nv : Nat) (i : Nat) (w : World) (v : Value) : Prop :=
  match i with
  | 0 | 1 | 2 | 6 | 7 | 13 | 14 | 20 | 23 | 26 => v = .pointer (some ⟨b, nv * 5, none⟩)
  | 3 | 5 | 12 => v = .pointer (some ⟨g, 0, none⟩)
  | 8 | 24 => v = .pointer (some ⟨b, nv * 5 + 1, none⟩)
  | 15 | 16 | 27 | 28 => v = .pointer (some ⟨b, nv * 5 + 2, none⟩)
  | 21 => v = .pointer (some ⟨b, nv * 5, none⟩)
  | 4 | 9 | 11 | 17 | 19 => ∃ x : Int, v = .int .i64 x
  | 10 | 18 => ∃ z l, v = .slice (some ⟨z, 0, none⟩) 3 3 ∧ RI 3 w (some ⟨z, 0, none⟩) 3 l
  | _ => True
theorem C14.mono {g b nv : Nat} {w w1 : World} (hR : ∀ A n l, RI 3 w A n l → RI 3 w1 A n l) (i : Nat) (v : Value) (h : C14 g b nv i w v) : C14 g b nv i w1 v := by
  unfold C14 at h ⊢
  split at h <;> first | exact h | (obtain ⟨z, l, h1, h2⟩ := h; exact ⟨z, l, h1, hR _ _ _ h2⟩)
def rem14 (listed : Array Bool) : Nat := (if listed.getD 4 false then 0 else 2) + (if listed.getD 11 false then 0 else 2) + (if listed.getD 19 false then 0 else 2)
theorem rem14_pos (listed : Array Bool) : 0 ≤ rem14 listed := Nat.zero_le _
def W14 (g : Nat) (zs : List Int) (K base m b c : Nat) (wo : World) (listed : Array Bool) (w : World) : Prop :=
  ∃ (kk : Nat) (acc : List Trn), kk + rem14 listed ≤ K ∧ St w g zs kk ∧ w.ownsRow base 160 5 (.slice (some ⟨b, 0, none⟩) m c) m (acc.flatMap trnE) ∧ acc.length = m ∧ wo.grownBy w (some g)
theorem rem14_set {listed : Array Bool} {i : Nat} (hi : i ≠ 4 ∧ i ≠ 11 ∧ i ≠ 19) : rem14 (listed.setIfInBounds i true) = rem14 listed := by
  unfold rem14; rw [getD_set_other _ hi.1, getD_set_other _ hi.2.1, getD_set_other _ hi.2.2]
theorem rem14_call {listed : Array Bool} {i : Nat} (hi : i = 4 ∨ i = 11 ∨ i = 19) (h : listed.getD i true = false) : rem14 (listed.setIfInBounds i true) + 2 = rem14 listed := by
  have his : i < listed.size := by
    rcases Nat.lt_or_ge i listed.size with h' | h'
    · exact h'
    · rw [Array.getD_eq_getD_getElem?, Array.getElem?_eq_none h'] at h; cases h
  have hf : listed.getD i false = false := by
    rw [Array.getD_eq_getD_getElem?, Array.getElem?_eq_getElem his] at h ⊢; exact h
  unfold rem14
  rcases hi with rfl | rfl | rfl
  · rw [getD_set_self', if_pos his, getD_set_other _ (by decide), getD_set_other _ (by decide), hf]; simp; omega
  · rw [getD_set_self', if_pos his, getD_set_other _ (by decide), getD_set_other _ (by decide), hf]; simp; omega
  · rw [getD_set_self', if_pos his, getD_set_other _ (by decide), getD_set_other _ (by decide), hf]; simp
theorem W14.keep {g : Nat} {zs : List Int} {K base m b c : Nat} {wo : World} {listed : Array Bool} {w : World} {i : Nat} (h : W14 g zs K base m b c wo listed w) (hi : i ≠ 4 ∧ i ≠ 11 ∧ i ≠ 19) : W14 g zs K base m b c wo (listed.setIfInBounds i true) w := by
  unfold W14 at h ⊢; rw [rem14_set hi]; exact h
/-- a block that is not the stream's own stays when the stream is asked -/
theorem blk_other_int {w w' : World} {b g : Nat} {zs : List Int} {k : Nat} {t : TypeId} {cs : Array Value} (h : w.heap[b]? = some (.cells cs t (0, 0))) (hs : St w g zs k) (hg : w.grownBy w' (some g)) (hne : t ≠ 25) : w'.heap[b]? = some (.cells cs t (0, 0)) := (hs.keep hg) b cs t (0, 0) hne h
set_option maxHeartbeats 3200000 in
set_option maxRecDepth 100000 in
theorem turnList_c (g : Nat) (zs : List Int) (k : Nat) (w : World) (h : St w g zs k) (hk : k + 1000 ≤ 1099511627776) :
    Calls Tryd.prog 70 #[.pointer (some ⟨g, 0, none⟩)] w fun e w' => ∃ A n c l k', e = .returned (.slice A n c) ∧ RTn w' A n l ∧ St w' g zs k' ∧ k' ≤ k + 100 ∧ w.grownBy w' (some g) := by
  have hglt := h.lt
  go_enter Tryd.func70, Tryd.ntmps70
  go_wp2_with fail
  go_loopw [3, 4] (fun out st wr => ∃ (s m kk : Nat) (acc : List Trn), 1 ≤ s ∧ s ≤ 6 ∧ st = .int .i64 s ∧ m + 3 ≤ 3 * s ∧ kk + 9 ≤ k + 9 * s ∧ acc.length = m ∧ wr.ownsRow w.heap.size 160 5 out m (acc.flatMap trnE) ∧ St wr g zs kk ∧ w.grownBy wr (some g)) (fun _ st _ => 6 - (intOf st).toNat)
  case atStart => exact ⟨1, 0, k, [], by omega, by omega, rfl, by omega, by omega, rfl, World.ownsRow_nil _ _ _ _, h, grown_refl _ _⟩
  case round =>
    obtain ⟨s, m, kk, acc, hs1, hs6, rfl, hm, hkk, hl, hown, hst, hgr⟩ := hrel
    have hl' := Lib.hid hl
    clear hl
    by_cases hlt : s < 6
    · have hs5 : (s : Int) ≤ 5 := by omega
      have hs5' : s ≤ 5 := by omega
      have hz := hgr.size
      have hown1 := hown.alloc (.cells #[.int .i64 50, .int .i64 100, .int .i64 200] 3)
      have hst1 := hst.alloc (.cells #[.int .i64 50, .int .i64 100, .int .i64 200] 3)
      have hgr1 := grown_alloc hgr (.cells #[.int .i64 50, .int .i64 100, .int .i64 200] 3)
      have hb13 := heap_alloc_new wr (.cells #[.int .i64 50, .int .i64 100, .int .i64 200] 3)
      clear hown hst hgr h
      go_wp2_with fail
      generalize hW : wr.alloc (.cells #[.int .i64 50, .int .i64 100, .int .i64 200] 3) = w1 at *
      generalize wr.heap.size = b13 at *
      clear hW
      go_loopw [3, 15] (fun out i wx => ∃ (j m2 kx : Nat) (acc : List Trn), j ≤ 3 ∧ i = .int .i64 j ∧ m2 ≤ m + j ∧ kx ≤ kk + 3 * j ∧ acc.length = m2 ∧ wx.ownsRow w.heap.size 160 5 out m2 (acc.flatMap trnE) ∧ St wx g zs kx ∧ w.grownBy wx (some g) ∧ wx.heap[b13]? = some (.cells #[.int .i64 50, .int .i64 100, .int .i64 200] 3 (0, 0))) (fun _ i _ => 3 - (intOf i).toNat)
      case atStart => exact ⟨0, m, kk, acc, by omega, rfl, by omega, by omega, hl'.out, hown1, hst1, hgr1, hb13⟩
      case round =>
        obtain ⟨j, m2, kx, acc, hj, rfl, hm2, hkx, hl, hown, hst, hgr, hb⟩ := hrel
        have hl' := Lib.hid hl
        have zb := (blk_facts hb).1
        clear hl hown1 hst1 hgr1 hb13
        by_cases hj3 : j < 3
        · obtain ⟨mv, hmv⟩ : ∃ mv : Int, (#[.int .i64 50, .int .i64 100, .int .i64 200] : Array Value)[j]? = some (.int .i64 mv) := by
            rcases (show j = 0 ∨ j = 1 ∨ j = 2 by omega) with rfl | rfl | rfl
            · exact ⟨50, rfl⟩
            · exact ⟨100, rfl⟩
            · exact ⟨200, rfl⟩
          have zj : wr.cell? ⟨b13, j, none⟩ = some (.int .i64 mv) := by rw [zb j, hmv]
          clear hmv zb
          go_wp2_with fail
          refine (flipE_c g zs _ _ _ hst (by omega) (by omega) (by omega)).mono ?_; rintro e w2 ⟨fl, rfl, s2, g2⟩
          have hgr2 := grown_trans hgr g2
          have hown2 := own_keep hown hglt g2
          have hb2 := blk_other_int hb hst g2 (by decide)
          clear hst g2 hown hgr hb
          cases fl
          · go_wp2
            go_roundw
            case rel => exact ⟨j + 1, m2, kx + 1, acc, by omega, by go_num, by omega, by omega, hl'.out, hown2, s2, hgr2, hb2⟩
            case measure => simp [intOf]; omega
          · have hown3 := hown2.alloc (.cells #[.int .i64 0, .int .i64 1, .int .i64 1, .int .i64 50, .int .i64 21, .int .i64 1000, .int .i64 1, .int .i64 1, .int .i64 1, .int .i64 3] 51)
            have hst3 := s2.alloc (.cells #[.int .i64 0, .int .i64 1, .int .i64 1, .int .i64 50, .int .i64 21, .int .i64 1000, .int .i64 1, .int .i64 1, .int .i64 1, .int .i64 3] 51)
            have hgr3 := grown_alloc hgr2 (.cells #[.int .i64 0, .int .i64 1, .int .i64 1, .int .i64 50, .int .i64 21, .int .i64 1000, .int .i64 1, .int .i64 1, .int .i64 1, .int .i64 3] 51)
            have hb3 := blk_alloc hb2 (.cells #[.int .i64 0, .int .i64 1, .int .i64 1, .int .i64 50, .int .i64 21, .int .i64 1000, .int .i64 1, .int .i64 1, .int .i64 1, .int .i64 3] 51)
            have hF3 := heap_alloc_new w2 (.cells #[.int .i64 0, .int .i64 1, .int .i64 1, .int .i64 50, .int .i64 21, .int .i64 1000, .int .i64 1, .int .i64 1, .int .i64 1, .int .i64 3] 51)
            clear hown2 hgr2 hb2
            go_wp2_with fail
            refine (nextE_c g zs _ _ _ hst3 (by omega) (by omega) (by omega)).mono ?_; rintro e w4 ⟨v, rfl, hv0, hv1, s4, g4⟩
            obtain ⟨nv, rfl⟩ := Int.eq_ofNat_of_zero_le hv0
            have hgr4 := grown_trans hgr3 g4
            have hown4 := own_keep hown3 hglt g4
            have hb4 := blk_other_int hb3 hst3 g4 (by decide)
            have hF4 := blk_other_int hF3 hst3 g4 (by decide)
            have hz4 := hgr4.size
            clear hst3 g4 hown3 hgr3 hb3 hF3
            obtain ⟨fa, fb, hfa, hfb⟩ : ∃ fa fb : Int, (#[.int .i64 0, .int .i64 1, .int .i64 1, .int .i64 50, .int .i64 21, .int .i64 1000, .int .i64 1, .int .i64 1, .int .i64 1, .int .i64 3] : Array Value)[nv * 2]? = some (.int .i64 fa) ∧ (#[.int .i64 0, .int .i64 1, .int .i64 1, .int .i64 50, .int .i64 21, .int .i64 1000, .int .i64 1, .int .i64 1, .int .i64 1, .int .i64 3] : Array Value)[nv * 2 + 1]? = some (.int .i64 fb) := by
              rcases (show nv = 0 ∨ nv = 1 ∨ nv = 2 ∨ nv = 3 ∨ nv = 4 by omega) with rfl | rfl | rfl | rfl | rfl
              · exact ⟨0, 1, rfl, rfl⟩
              · exact ⟨1, 50, rfl, rfl⟩
              · exact ⟨21, 1000, rfl, rfl⟩
              · exact ⟨1, 1, rfl, rfl⟩
              · exact ⟨1, 3, rfl, rfl⟩
            have za : w4.cell? ⟨w2.heap.size, nv * 2, none⟩ = some (.int .i64 fa) := by rw [(blk_facts hF4).1, hfa]
            have zc : w4.cell? ⟨w2.heap.size, nv * 2 + 1, none⟩ = some (.int .i64 fb) := by rw [(blk_facts hF4).1, hfb]
            have hnl : (nv : Int) < 5 := by omega
            have hn5 : nv < 5 := by omega
            clear hfa hfb hF4
            go_wp2_with fail
            have hown5 := hown4.alloc (.cells #[.int .i64 fa, .int .i64 fb] 51)
            have hst5 := s4.alloc (.cells #[.int .i64 fa, .int .i64 fb] 51)
            have hgr5 := grown_alloc hgr4 (.cells #[.int .i64 fa, .int .i64 fb] 51)
            have hb5 := blk_alloc hb4 (.cells #[.int .i64 fa, .int .i64 fb] 51)
            have hx5 := heap_alloc_new w4 (.cells #[.int .i64 fa, .int .i64 fb] 51)
            have hz5 := hgr5.size
            clear za zc hown4 s4 hgr4 hb4
            generalize hW5 : w4.alloc (.cells #[.int .i64 fa, .int .i64 fb] 51) = w5 at *
            generalize w4.heap.size = b7 at *
            have zx0 := (blk_facts hx5).1 0
            have zx1 := (blk_facts hx5).1 1
            clear hW5
            obtain ⟨i0, hi0, hz0, hz1, hz2⟩ := info_parts info_turn
            go_region_held3 (fun w' => w'.cell? ⟨b7, 0, none⟩ = some (.int .i64 fa) ∧ w'.cell? ⟨b7, 1, none⟩ = some (.int .i64 fb))
              (first
                | go_keep
                | exact ⟨(blk_facts hx6).1 0, (blk_facts hx6).1 1⟩
                | exact ⟨(blk_facts (blk_other_type (blk_alloc hx6 _) (hown6.alloc _) (by decide) hgrow)).1 0, (blk_facts (blk_other_type (blk_alloc hx6 _) (hown6.alloc _) (by decide) hgrow)).1 1⟩)
              (first
                | (go_at_call 21; refine (pickE_c g zs _ _ _ _ [0, 40, 80, 6000] _ (hst5.alloc _).drew (by omega) (R1.litAt _ _ _ _ (by simp) rfl (by simp)).drew (by decide)).mono ?_; rintro e w6 ⟨p, rfl, hp, s6, g6⟩; have hgr6 := grown_trans (grown_drew (grown_alloc hgr5 _)) g6; have hown6 := own_keep ((hown5.alloc _).drew) hglt g6; have hb6 := blk_other_int (w := World.drew _) (blk_alloc hb5 _) (hst5.alloc _).drew g6 (by decide); have hx6 := blk_other_int (w := World.drew _) (blk_alloc hx5 _) (hst5.alloc _).drew g6 (by decide); have hz6 := hgr6.size)
                | (refine step_append_lies _ (by rfl) _ _ _ (by rfl) w.heap.size 160 i0 _ 5 40 Tryd.underlying90 hi0 hz0 hz1 hz2 rfl (by omega) _ m2 (acc.flatMap trnE) (by rfl) (hown6.alloc _) ⟨w6.heap.size, 0, none⟩ 1 1 [.int .i64 s, .int .i64 mv, .int .i64 fa, .int .i64 fb, .int .i64 p] (by rfl) (by rfl) (World.news_of_block (cs := #[.int .i64 s, .int .i64 mv, .int .i64 fa, .int .i64 fb, .int .i64 p]) (t := 160) (fr := (0, 0)) (heap_alloc_new w6 _)) (by simp [Value.oneCell']) (by omega) (by unfold maxLen; omega) (by omega) (by simp; omega) (w6.heap.size + 1) (by simp) ?_; intro gg cap w7 hown7 hgrow hat hlt7))
            have hgr7 := grown_own (grown_alloc hgr6 _) hgrow (own_row_lt hown6)
            have s7 := (s6.alloc _).grown hgrow (fun i hi => by have := own_row_lt hown6 i hi; omega)
            have hb7 := blk_other_type (blk_alloc hb6 _) (hown6.alloc _) (by decide) hgrow
            have hown7' : w7.ownsRow w.heap.size 160 5 (.slice (some ⟨gg, 0, none⟩) (m2 + 1) cap) (m2 + 1) ((acc ++ [(⟨s, mv, fa, fb, p⟩ : Trn)]).flatMap trnE) := by rw [← flat_snoc]; exact hown7
            clear hown6 hgrow hgr6 s6 hb6 hx6 hown7 hat hlt7 g6 hp zx0 zx1 hx5 hb5 hgr5 hst5 hown5 hi0 hz0 hz1 hz2
            go_wp2
            go_roundw
            case rel => exact ⟨j + 1, m2 + 1, kx + 1 + 1 + 1, acc ++ [(⟨s, mv, fa, fb, p⟩ : Trn)], by omega, by go_num, by omega, by omega, by rw [List.length_append, hl'.out]; rfl, hown7', s7, hgr7, hb7⟩
            case measure => simp [intOf]; omega
        · go_wp2
          go_roundw
          case rel => exact ⟨s + 1, m2, kx, acc, by omega, by omega, by go_num, by omega, by omega, hl'.out, hown, hst, hgr⟩
          case measure => simp [intOf]; omega
    · obtain rfl : s = 6 := by omega
      have hm15 : m ≤ 15 := by omega
      obtain ⟨A, c, rfl⟩ := own_shape hown
      by_cases hm0 : m = 0
      · subst hm0
        go_wp2
        go_ret
        exact ⟨A, 0, c, acc, kk, rfl, RN.of_own trnE_len hown hl'.out (by omega), hst, by omega, hgr⟩
      · have hmp : 0 < m := by omega
        clear h
        go_wp2_with fail
        refine (flipE_c g zs _ _ _ hst (by omega) (by omega) (by omega)).mono ?_; rintro e w2 ⟨fl, rfl, s2, g2⟩
        have hgr2 := grown_trans hgr g2
        have hown2 := own_keep hown hglt g2
        clear hst g2 hown hgr
        cases fl
        · go_wp2
          go_ret
          exact ⟨A, m, c, acc, _, rfl, RN.of_own trnE_len hown2 hl'.out (by omega), s2, by omega, hgr2⟩
        · go_wp2_with fail
          refine (nextE_c g zs _ _ _ s2 (by omega) (by omega) (by omega)).mono ?_; rintro e w4 ⟨v, rfl, hv0, hv1, s4, g4⟩
          obtain ⟨nv, rfl⟩ := Int.eq_ofNat_of_zero_le hv0
          have hgr4 := grown_trans hgr2 g4
          have hown4 := own_keep hown2 hglt g4
          clear s2 g4 hown2 hgr2
          obtain ⟨b, rfl, hb⟩ := own_someN hown4 hmp
          have hcj := own_capN hown4
          have hnl : (nv : Int) < m := by omega
          have hn5 : nv < m := by omega
          have hz4 := hgr4.size
          obtain ⟨t, ht⟩ := at_of_lt (l := acc) (k := nv) (by rw [hl'.out]; exact hn5)
          have hc1 := Lib.hid (flat_at trnE_len acc nv t 1 _ ht rfl)
          have hc2 := Lib.hid (flat_at trnE_len acc nv t 2 _ ht rfl)
          have hc0 := Lib.hid (flat_at trnE_len acc nv t 0 _ ht rfl)
          have hset := Lib.hid (fun a b c => trn_set acc nv a b c t ht)
          clear ht
          generalize t.metres = tm at *
          generalize t.num = tn at *
          have c1 : w4.cell? ⟨b, nv * 5 + 1, none⟩ = some (.int .i64 tm) := by rw [hown4.cellAt _ (by omega)]; exact hc1.out
          have c2 : w4.cell? ⟨b, nv * 5 + 2, none⟩ = some (.int .i64 tn) := by rw [hown4.cellAt _ (by omega)]; exact hc2.out
          have lb := (hown4.lt b rfl).2
          go_wp2_with fail
          clear c1 c2 hc0 hc1 hc2 hset
          refine wp_region_inv (by kernel_rfl) (fun listed a w' => ∃ xs : Nat → Value, a = { tmps := #[Value.pointer (some { block := g, off := 0 }), undef, Value.slice none 0 0, Value.slice (some { block := b, off := 0 }) m c, Value.int IntKind.i64 6, undef, u6, u7, Value.pointer (some { block := b, off := nv * 5 }), Value.int IntKind.i64 6, Value.bool false, u11, u12, u13, u14, u15, u16, u17, u18, u19, u20, u21, u22, u23, u24, u25, u26, u27, u28, u29, u30, u31, u32, u33, u34, u35, u36, u37, u38, u39, u40, u41, Value.slice (some { block := b, off := 0 }) m c, Value.int IntKind.i64 ↑m, Value.bool true, Value.bool true, Value.pointer (some { block := g, off := 0 }), Value.bool true, Value.bool true, Value.slice (some { block := b, off := 0 }) m c, Value.pointer (some { block := g, off := 0 }), Value.slice (some { block := b, off := 0 }) m c, Value.int IntKind.i64 ↑m, Value.int IntKind.i64 ↑nv, Value.pointer (some { block := b, off := nv * 5 }), xs 0, xs 1, xs 2, xs 3, xs 4, xs 5, xs 6, xs 7, xs 8, xs 9, xs 10, xs 11, xs 12, xs 13, xs 14, xs 15, xs 16, xs 17, xs 18, xs 19, xs 20, xs 21, xs 23, xs 24, xs 26, xs 27, xs 28, undef], defers := [] } ∧ (∀ j, listed.getD j false = true → C14 g b nv j w' (xs j)) ∧ W14 g zs (kk + 8) w.heap.size m b c w listed w') ?h0 (AllOps.of ?hs) ?he
          case h0 => exact ⟨fun _ => undef, rfl, (fun j hj => by rw [rep_false] at hj; cases hj), kk + 1 + 1, acc, by simp [rem14], s4.drew, hown4.drew, hl'.out, grown_drew hgr4⟩
          case hs =>
            refine ⟨?_, ?_, ?_, ?_, ?_, ?_, ?_, ?_, ?_, ?_, ?_, ?_, ?_, ?_, ?_, ?_, ?_, ?_, ?_, ?_, ?_, ?_, ?_, ?_, ?_, ?_, ?_, ?_, ?_, ?_, trivial⟩
            · intro listed a w' hs hI h0 hd K' hK
              obtain ⟨xs, rfl, hC, hW⟩ := hI
              clear hd h0 hs
              have hK2 := Lib.hid hK
              have hC2 := Lib.hid hC
              go_simp
              exact hK2.out _ _ ⟨updV xs 0 (.pointer (some ⟨b, nv * 5, none⟩)), by simp [updV], cond_set hC2.out (fun _ _ h => h) rfl, hW.keep (by decide)⟩
            · intro listed a w' hs hI h0 hd K' hK
              obtain ⟨xs, rfl, hC, hW⟩ := hI
              clear hd h0 hs
              have hK2 := Lib.hid hK
              have hC2 := Lib.hid hC
              go_simp
              exact hK2.out _ _ ⟨updV xs 1 (.pointer (some ⟨b, nv * 5, none⟩)), by simp [updV], cond_set hC2.out (fun _ _ h => h) rfl, hW.keep (by decide)⟩
            · intro listed a w' hs hI h0 hd K' hK
              obtain ⟨xs, rfl, hC, hW⟩ := hI
              clear hd h0 hs
              have hK2 := Lib.hid hK
              have hC2 := Lib.hid hC
              go_simp
              exact hK2.out _ _ ⟨updV xs 2 (.pointer (some ⟨b, nv * 5, none⟩)), by simp [updV], cond_set hC2.out (fun _ _ h => h) rfl, hW.keep (by decide)⟩
            · intro listed a w' hs hI h0 hd K' hK
              obtain ⟨xs, rfl, hC, hW⟩ := hI
              clear hd h0 hs
              have hK2 := Lib.hid hK
              have hC2 := Lib.hid hC
              go_simp
              exact hK2.out _ _ ⟨updV xs 3 (.pointer (some ⟨g, 0, none⟩)), by simp [updV], cond_set hC2.out (fun _ _ h => h) rfl, hW.keep (by decide)⟩
            · intro listed a w' hs hI h0 hd K' hK
              obtain ⟨xs, rfl, hC, hW⟩ := hI
              have e3 : xs 3 = .pointer (some ⟨g, 0, none⟩) := hC 3 (hd ⟨3, .data⟩ (by simp) rfl)
              have hK2 := Lib.hid hK
              have hC2 := Lib.hid hC
              obtain ⟨k9, acc9, hk9, s9, hown9, hl9, hgr9⟩ := hW
              have hrem := rem14_call (i := 4) (by decide) h0
              clear hd hK hC
              clear h0
              go_simp
              refine (oddE_c g zs _ _ _ _ s9 (by omega) (by omega) (by omega) (by omega)).mono ?_; rintro e w1 ⟨v, rfl, _, _, s10, g10⟩
              exact hK2.out _ _ ⟨updV xs 4 (.int .i64 v), by simp [updV, e3], cond_set hC2.out (C14.mono (fun A n l h => h.keep (T := 25) (by decide) (s9.keep g10))) ⟨_, rfl⟩, k9 + 2, acc9, show k9 + 2 + rem14 (listed.setIfInBounds 4 true) ≤ kk + 8 by omega, s10, own_keep hown9 hglt g10, hl9, grown_trans hgr9 g10⟩
            · intro listed a w' hs hI h0 hd K' hK
              obtain ⟨xs, rfl, hC, hW⟩ := hI
              clear hd h0 hs
              have hK2 := Lib.hid hK
              have hC2 := Lib.hid hC
              go_simp
              exact hK2.out _ _ ⟨updV xs 5 (.pointer (some ⟨g, 0, none⟩)), by simp [updV], cond_set hC2.out (fun _ _ h => h) rfl, hW.keep (by decide)⟩
            · intro listed a w' hs hI h0 hd K' hK
              obtain ⟨xs, rfl, hC, hW⟩ := hI
              clear hd h0 hs
              have hK2 := Lib.hid hK
              have hC2 := Lib.hid hC
              go_simp
              exact hK2.out _ _ ⟨updV xs 6 (.pointer (some ⟨b, nv * 5, none⟩)), by simp [updV], cond_set hC2.out (fun _ _ h => h) rfl, hW.keep (by decide)⟩
            · intro listed a w' hs hI h0 hd K' hK
              obtain ⟨xs, rfl, hC, hW⟩ := hI
              have e6 : xs 6 = .pointer (some ⟨b, nv * 5, none⟩) := hC 6 (hd ⟨6, .data⟩ (by simp) rfl)
              clear hd h0 hs
              have hK2 := Lib.hid hK
              have hC2 := Lib.hid hC
              go_simp
              exact hK2.out _ _ ⟨updV xs 7 (.pointer (some ⟨b, nv * 5, none⟩)), by simp [updV, e6], cond_set hC2.out (fun _ _ h => h) rfl, hW.keep (by decide)⟩
            · intro listed a w' hs hI h0 hd K' hK
              obtain ⟨xs, rfl, hC, hW⟩ := hI
              have e7 : xs 7 = .pointer (some ⟨b, nv * 5, none⟩) := hC 7 (hd ⟨7, .data⟩ (by simp) rfl)
              clear hd h0 hs
              have hK2 := Lib.hid hK
              have hC2 := Lib.hid hC
              go_simp
              exact hK2.out _ _ ⟨updV xs 8 (.pointer (some ⟨b, nv * 5 + 1, none⟩)), by simp [updV, e7], cond_set hC2.out (fun _ _ h => h) rfl, hW.keep (by decide)⟩
            · intro listed a w' hs hI h0 hd K' hK
              obtain ⟨xs, rfl, hC, hW⟩ := hI
              have e8 : xs 8 = .pointer (some ⟨b, nv * 5 + 1, none⟩) := hC 8 (hd ⟨8, .data⟩ (by simp) rfl)
              have hK2 := Lib.hid hK
              have hC2 := Lib.hid hC
              obtain ⟨k9, acc9, hk9, s9, hown9, hl9, hgr9⟩ := hW
              clear hd hK hC
              obtain ⟨t9, ht9⟩ := at_of_lt (l := acc9) (k := nv) (by omega)
              have c9 : w'.cell? ⟨b, nv * 5 + 1, none⟩ = some (.int .i64 t9.metres) := by rw [hown9.cellAt _ (by omega)]; exact flat_at trnE_len acc9 nv t9 1 _ ht9 rfl
              clear h0 ht9
              go_simp
              exact hK2.out _ _ ⟨updV xs 9 (.int .i64 t9.metres), by simp [updV, e8], cond_set hC2.out (fun _ _ h => h) ⟨_, rfl⟩, W14.keep ⟨k9, acc9, hk9, s9, hown9, hl9, hgr9⟩ (by decide)⟩
            · intro listed a w' hs hI h0 hd K' hK
              obtain ⟨xs, rfl, hC, hW⟩ := hI
              obtain ⟨v9, e9⟩ : ∃ v : Int, xs 9 = .int .i64 v := hC 9 (hd ⟨9, .data⟩ (by simp) rfl)
              have hK2 := Lib.hid hK
              have hC2 := Lib.hid hC
              obtain ⟨k9, acc9, hk9, s9, hown9, hl9, hgr9⟩ := hW
              clear hd hK hC
              clear h0
              go_simp
              exact hK2.out _ _ ⟨updV xs 10 (.slice (some ⟨w'.heap.size, 0, none⟩) 3 3), by simp [updV, e9], cond_set hC2.out (C14.mono (fun A n l h => h.alloc _)) ⟨w'.heap.size, [v9, 49, 50], rfl, R1.lit w' _ [v9, 49, 50] rfl (by simp)⟩, W14.keep ⟨k9, acc9, hk9, s9.alloc _, hown9.alloc _, hl9, grown_alloc hgr9 _⟩ (by decide)⟩
            · intro listed a w' hs hI h0 hd K' hK
              obtain ⟨xs, rfl, hC, hW⟩ := hI
              have e5 : xs 5 = .pointer (some ⟨g, 0, none⟩) := hC 5 (hd ⟨5, .data⟩ (by simp) rfl)
              obtain ⟨z10, l10, e10, r10⟩ : ∃ z l, xs 10 = .slice (some ⟨z, 0, none⟩) 3 3 ∧ RI 3 w' (some ⟨z, 0, none⟩) 3 l := hC 10 (hd ⟨10, .data⟩ (by simp) rfl)
              have hK2 := Lib.hid hK
              have hC2 := Lib.hid hC
              obtain ⟨k9, acc9, hk9, s9, hown9, hl9, hgr9⟩ := hW
              have hrem := rem14_call (i := 11) (by decide) h0
              clear hd hK hC
              clear h0
              go_simp
              refine (pickE_c g zs _ _ _ _ l10 _ s9 (by omega) r10 (by decide)).mono ?_; rintro e w1 ⟨v, rfl, _, s10, g10⟩
              exact hK2.out _ _ ⟨updV xs 11 (.int .i64 v), by simp [updV, e5, e10], cond_set hC2.out (C14.mono (fun A n l h => h.keep (T := 25) (by decide) (s9.keep g10))) ⟨_, rfl⟩, k9 + 1, acc9, show k9 + 1 + rem14 (listed.setIfInBounds 11 true) ≤ kk + 8 by omega, s10, own_keep hown9 hglt g10, hl9, grown_trans hgr9 g10⟩
            · intro listed a w' hs hI h0 hd K' hK
              obtain ⟨xs, rfl, hC, hW⟩ := hI
              clear hd h0 hs
              have hK2 := Lib.hid hK
              have hC2 := Lib.hid hC
              go_simp
              exact hK2.out _ _ ⟨updV xs 12 (.pointer (some ⟨g, 0, none⟩)), by simp [updV], cond_set hC2.out (fun _ _ h => h) rfl, hW.keep (by decide)⟩
            · intro listed a w' hs hI h0 hd K' hK
              obtain ⟨xs, rfl, hC, hW⟩ := hI
              clear hd h0 hs
              have hK2 := Lib.hid hK
              have hC2 := Lib.hid hC
              go_simp
              exact hK2.out _ _ ⟨updV xs 13 (.pointer (some ⟨b, nv * 5, none⟩)), by simp [updV], cond_set hC2.out (fun _ _ h => h) rfl, hW.keep (by decide)⟩
            · intro listed a w' hs hI h0 hd K' hK
              obtain ⟨xs, rfl, hC, hW⟩ := hI
              have e13 : xs 13 = .pointer (some ⟨b, nv * 5, none⟩) := hC 13 (hd ⟨13, .data⟩ (by simp) rfl)
              clear hd h0 hs
              have hK2 := Lib.hid hK
              have hC2 := Lib.hid hC
              go_simp
              exact hK2.out _ _ ⟨updV xs 14 (.pointer (some ⟨b, nv * 5, none⟩)), by simp [updV, e13], cond_set hC2.out (fun _ _ h => h) rfl, hW.keep (by decide)⟩
            · intro listed a w' hs hI h0 hd K' hK
              obtain ⟨xs, rfl, hC, hW⟩ := hI
              have e14 : xs 14 = .pointer (some ⟨b, nv * 5, none⟩) := hC 14 (hd ⟨14, .data⟩ (by simp) rfl)
              clear hd h0 hs
              have hK2 := Lib.hid hK
              have hC2 := Lib.hid hC
              go_simp
              exact hK2.out _ _ ⟨updV xs 15 (.pointer (some ⟨b, nv * 5 + 2, none⟩)), by simp [updV, e14], cond_set hC2.out (fun _ _ h => h) rfl, hW.keep (by decide)⟩
            · intro listed a w' hs hI h0 hd K' hK
              obtain ⟨xs, rfl, hC, hW⟩ := hI
              have e15 : xs 15 = .pointer (some ⟨b, nv * 5 + 2, none⟩) := hC 15 (hd ⟨15, .data⟩ (by simp) rfl)
              clear hd h0 hs
              have hK2 := Lib.hid hK
              have hC2 := Lib.hid hC
              go_simp
              exact hK2.out _ _ ⟨updV xs 16 (.pointer (some ⟨b, nv * 5 + 2, none⟩)), by simp [updV, e15], cond_set hC2.out (fun _ _ h => h) rfl, hW.keep (by decide)⟩
            · intro listed a w' hs hI h0 hd K' hK
              obtain ⟨xs, rfl, hC, hW⟩ := hI
              have e16 : xs 16 = .pointer (some ⟨b, nv * 5 + 2, none⟩) := hC 16 (hd ⟨16, .data⟩ (by simp) rfl)
              have hK2 := Lib.hid hK
              have hC2 := Lib.hid hC
              obtain ⟨k9, acc9, hk9, s9, hown9, hl9, hgr9⟩ := hW
              clear hd hK hC
              obtain ⟨t9, ht9⟩ := at_of_lt (l := acc9) (k := nv) (by omega)
              have c9 : w'.cell? ⟨b, nv * 5 + 2, none⟩ = some (.int .i64 t9.num) := by rw [hown9.cellAt _ (by omega)]; exact flat_at trnE_len acc9 nv t9 2 _ ht9 rfl
              clear h0 ht9
              go_simp
              exact hK2.out _ _ ⟨updV xs 17 (.int .i64 t9.num), by simp [updV, e16], cond_set hC2.out (fun _ _ h => h) ⟨_, rfl⟩, W14.keep ⟨k9, acc9, hk9, s9, hown9, hl9, hgr9⟩ (by decide)⟩
            · intro listed a w' hs hI h0 hd K' hK
              obtain ⟨xs, rfl, hC, hW⟩ := hI
              obtain ⟨v17, e17⟩ : ∃ v : Int, xs 17 = .int .i64 v := hC 17 (hd ⟨17, .data⟩ (by simp) rfl)
              have hK2 := Lib.hid hK
              have hC2 := Lib.hid hC
              obtain ⟨k9, acc9, hk9, s9, hown9, hl9, hgr9⟩ := hW
              clear hd hK hC
              clear h0
              go_simp
              exact hK2.out _ _ ⟨updV xs 18 (.slice (some ⟨w'.heap.size, 0, none⟩) 3 3), by simp [updV, e17], cond_set hC2.out (C14.mono (fun A n l h => h.alloc _)) ⟨w'.heap.size, [v17, -1, 2], rfl, R1.lit w' _ [v17, -1, 2] rfl (by simp)⟩, W14.keep ⟨k9, acc9, hk9, s9.alloc _, hown9.alloc _, hl9, grown_alloc hgr9 _⟩ (by decide)⟩
            · intro listed a w' hs hI h0 hd K' hK
              obtain ⟨xs, rfl, hC, hW⟩ := hI
              have e12 : xs 12 = .pointer (some ⟨g, 0, none⟩) := hC 12 (hd ⟨12, .data⟩ (by simp) rfl)
              obtain ⟨z18, l18, e18, r18⟩ : ∃ z l, xs 18 = .slice (some ⟨z, 0, none⟩) 3 3 ∧ RI 3 w' (some ⟨z, 0, none⟩) 3 l := hC 18 (hd ⟨18, .data⟩ (by simp) rfl)
              have hK2 := Lib.hid hK
              have hC2 := Lib.hid hC
              obtain ⟨k9, acc9, hk9, s9, hown9, hl9, hgr9⟩ := hW
              have hrem := rem14_call (i := 19) (by decide) h0
              clear hd hK hC
              clear h0
              go_simp
              refine (pickE_c g zs _ _ _ _ l18 _ s9 (by omega) r18 (by decide)).mono ?_; rintro e w1 ⟨v, rfl, _, s10, g10⟩
              exact hK2.out _ _ ⟨updV xs 19 (.int .i64 v), by simp [updV, e12, e18], cond_set hC2.out (C14.mono (fun A n l h => h.keep (T := 25) (by decide) (s9.keep g10))) ⟨_, rfl⟩, k9 + 1, acc9, show k9 + 1 + rem14 (listed.setIfInBounds 19 true) ≤ kk + 8 by omega, s10, own_keep hown9 hglt g10, hl9, grown_trans hgr9 g10⟩
            · intro listed a w' hs hI h0 hd K' hK
              obtain ⟨xs, rfl, hC, hW⟩ := hI
              have e0 : xs 0 = .pointer (some ⟨b, nv * 5, none⟩) := hC 0 (hd ⟨0, .data⟩ (by simp) rfl)
              clear hd h0 hs
              have hK2 := Lib.hid hK
              have hC2 := Lib.hid hC
              go_simp
              exact hK2.out _ _ ⟨updV xs 20 (.pointer (some ⟨b, nv * 5, none⟩)), by simp [updV, e0], cond_set hC2.out (fun _ _ h => h) rfl, hW.keep (by decide)⟩
            · intro listed a w' hs hI h0 hd K' hK
              obtain ⟨xs, rfl, hC, hW⟩ := hI
              have e20 : xs 20 = .pointer (some ⟨b, nv * 5, none⟩) := hC 20 (hd ⟨20, .data⟩ (by simp) rfl)
              clear hd h0 hs
              have hK2 := Lib.hid hK
              have hC2 := Lib.hid hC
              go_simp
              exact hK2.out _ _ ⟨updV xs 21 (.pointer (some ⟨b, nv * 5, none⟩)), by simp [updV, e20], cond_set hC2.out (fun _ _ h => h) rfl, hW.keep (by decide)⟩
            · intro listed a w' hs hI h0 hd K' hK
              obtain ⟨xs, rfl, hC, hW⟩ := hI
              obtain ⟨v4, e4⟩ : ∃ v : Int, xs 4 = .int .i64 v := hC 4 (hd ⟨4, .data⟩ (by simp) rfl)
              have e21 : xs 21 = .pointer (some ⟨b, nv * 5, none⟩) := hC 21 (hd ⟨21, .data⟩ (by simp) rfl)
              have hK2 := Lib.hid hK
              have hC2 := Lib.hid hC
              obtain ⟨k9, acc9, hk9, s9, hown9, hl9, hgr9⟩ := hW
              clear hd hK hC
              obtain ⟨t9, ht9⟩ := at_of_lt (l := acc9) (k := nv) (by omega)
              have c9 : w'.cell? ⟨b, nv * 5, none⟩ = some (.int .i64 t9.stroke) := by rw [hown9.cellAt _ (by omega)]; exact flat_at trnE_len acc9 nv t9 0 _ ht9 rfl
              have f9 := hown9.frozenAt (nv * 5)
              have hst9 := hown9.stored (nv * 5) (.int .i64 v4)
              have hK9 := keep_row hown9 hst9.2
              have hown10 : (w'.setCell ⟨b, nv * 5, none⟩ (.int .i64 v4)).ownsRow w.heap.size 160 5 (.slice (some ⟨b, 0, none⟩) m c) m ((acc9.set nv { t9 with stroke := v4 }).flatMap trnE) := by rw [← flat_set trnE_len acc9 nv t9 _ 0 (.int .i64 v4) ht9 (by decide) rfl]; exact hst9.1
              have hgr10 := grown_own hgr9 hst9.2 (fun i hi => by injection hi with hi; omega)
              have s10 := s9.setOther (p := ⟨b, nv * 5, none⟩) (show g < b by omega) (.int .i64 v4)
              have H := Lib.hid (And.intro s10 (And.intro hown10 (And.intro hgr10 (And.intro hK9 (show (acc9.set nv { t9 with stroke := v4 }).length = m by rw [List.length_set]; exact hl9)))))
              clear h0 ht9 hst9 hown10 hgr10 s10 hK9
              go_simp
              exact hK2.out _ _ ⟨updV xs 22 undef, by simp [updV, e4, e21], cond_set hC2.out (C14.mono (fun A n l h => h.keep (T := 160) (by decide) H.out.2.2.2.1)) trivial, W14.keep ⟨k9, _, hk9, H.out.1, H.out.2.1, H.out.2.2.2.2, H.out.2.2.1⟩ (by decide)⟩
            · intro listed a w' hs hI h0 hd K' hK
              obtain ⟨xs, rfl, hC, hW⟩ := hI
              have e1 : xs 1 = .pointer (some ⟨b, nv * 5, none⟩) := hC 1 (hd ⟨1, .data⟩ (by simp) rfl)
              clear hd h0 hs
              have hK2 := Lib.hid hK
              have hC2 := Lib.hid hC
              go_simp
              exact hK2.out _ _ ⟨updV xs 23 (.pointer (some ⟨b, nv * 5, none⟩)), by simp [updV, e1], cond_set hC2.out (fun _ _ h => h) rfl, hW.keep (by decide)⟩
            · intro listed a w' hs hI h0 hd K' hK
              obtain ⟨xs, rfl, hC, hW⟩ := hI
              have e23 : xs 23 = .pointer (some ⟨b, nv * 5, none⟩) := hC 23 (hd ⟨23, .data⟩ (by simp) rfl)
              clear hd h0 hs
              have hK2 := Lib.hid hK
              have hC2 := Lib.hid hC
              go_simp
              exact hK2.out _ _ ⟨updV xs 24 (.pointer (some ⟨b, nv * 5 + 1, none⟩)), by simp [updV, e23], cond_set hC2.out (fun _ _ h => h) rfl, hW.keep (by decide)⟩
            · intro listed a w' hs hI h0 hd K' hK
              obtain ⟨xs, rfl, hC, hW⟩ := hI
              obtain ⟨v11, e11⟩ : ∃ v : Int, xs 11 = .int .i64 v := hC 11 (hd ⟨11, .data⟩ (by simp) rfl)
              have e24 : xs 24 = .pointer (some ⟨b, nv * 5 + 1, none⟩) := hC 24 (hd ⟨24, .data⟩ (by simp) rfl)
              have hK2 := Lib.hid hK
              have hC2 := Lib.hid hC
              obtain ⟨k9, acc9, hk9, s9, hown9, hl9, hgr9⟩ := hW
              clear hd hK hC
              obtain ⟨t9, ht9⟩ := at_of_lt (l := acc9) (k := nv) (by omega)
              have c9 : w'.cell? ⟨b, nv * 5 + 1, none⟩ = some (.int .i64 t9.metres) := by rw [hown9.cellAt _ (by omega)]; exact flat_at trnE_len acc9 nv t9 1 _ ht9 rfl
              have f9 := hown9.frozenAt (nv * 5 + 1)
              have hst9 := hown9.stored (nv * 5 + 1) (.int .i64 v11)
              have hK9 := keep_row hown9 hst9.2
              have hown10 : (w'.setCell ⟨b, nv * 5 + 1, none⟩ (.int .i64 v11)).ownsRow w.heap.size 160 5 (.slice (some ⟨b, 0, none⟩) m c) m ((acc9.set nv { t9 with metres := v11 }).flatMap trnE) := by rw [← flat_set trnE_len acc9 nv t9 _ 1 (.int .i64 v11) ht9 (by decide) rfl]; exact hst9.1
              have hgr10 := grown_own hgr9 hst9.2 (fun i hi => by injection hi with hi; omega)
              have s10 := s9.setOther (p := ⟨b, nv * 5 + 1, none⟩) (show g < b by omega) (.int .i64 v11)
              have H := Lib.hid (And.intro s10 (And.intro hown10 (And.intro hgr10 (And.intro hK9 (show (acc9.set nv { t9 with metres := v11 }).length = m by rw [List.length_set]; exact hl9)))))
              clear h0 ht9 hst9 hown10 hgr10 s10 hK9
              go_simp
              exact hK2.out _ _ ⟨updV xs 25 undef, by simp [updV, e11, e24], cond_set hC2.out (C14.mono (fun A n l h => h.keep (T := 160) (by decide) H.out.2.2.2.1)) trivial, W14.keep ⟨k9, _, hk9, H.out.1, H.out.2.1, H.out.2.2.2.2, H.out.2.2.1⟩ (by decide)⟩
            · intro listed a w' hs hI h0 hd K' hK
              obtain ⟨xs, rfl, hC, hW⟩ := hI
              have e2 : xs 2 = .pointer (some ⟨b, nv * 5, none⟩) := hC 2 (hd ⟨2, .data⟩ (by simp) rfl)
              clear hd h0 hs
              have hK2 := Lib.hid hK
              have hC2 := Lib.hid hC
              go_simp
              exact hK2.out _ _ ⟨updV xs 26 (.pointer (some ⟨b, nv * 5, none⟩)), by simp [updV, e2], cond_set hC2.out (fun _ _ h => h) rfl, hW.keep (by decide)⟩
            · intro listed a w' hs hI h0 hd K' hK
              obtain ⟨xs, rfl, hC, hW⟩ := hI
              have e26 : xs 26 = .pointer (some ⟨b, nv * 5, none⟩) := hC 26 (hd ⟨26, .data⟩ (by simp) rfl)
              clear hd h0 hs
              have hK2 := Lib.hid hK
              have hC2 := Lib.hid hC
              go_simp
              exact hK2.out _ _ ⟨updV xs 27 (.pointer (some ⟨b, nv * 5 + 2, none⟩)), by simp [updV, e26], cond_set hC2.out (fun _ _ h => h) rfl, hW.keep (by decide)⟩
            · intro listed a w' hs hI h0 hd K' hK
              obtain ⟨xs, rfl, hC, hW⟩ := hI
              have e27 : xs 27 = .pointer (some ⟨b, nv * 5 + 2, none⟩) := hC 27 (hd ⟨27, .data⟩ (by simp) rfl)
              clear hd h0 hs
              have hK2 := Lib.hid hK
              have hC2 := Lib.hid hC
              go_simp
              exact hK2.out _ _ ⟨updV xs 28 (.pointer (some ⟨b, nv * 5 + 2, none⟩)), by simp [updV, e27], cond_set hC2.out (fun _ _ h => h) rfl, hW.keep (by decide)⟩
            · intro listed a w' hs hI h0 hd K' hK
              obtain ⟨xs, rfl, hC, hW⟩ := hI
              obtain ⟨v19, e19⟩ : ∃ v : Int, xs 19 = .int .i64 v := hC 19 (hd ⟨19, .data⟩ (by simp) rfl)
              have e28 : xs 28 = .pointer (some ⟨b, nv * 5 + 2, none⟩) := hC 28 (hd ⟨28, .data⟩ (by simp) rfl)
              have hK2 := Lib.hid hK
              have hC2 := Lib.hid hC
              obtain ⟨k9, acc9, hk9, s9, hown9, hl9, hgr9⟩ := hW
              clear hd hK hC
              obtain ⟨t9, ht9⟩ := at_of_lt (l := acc9) (k := nv) (by omega)
              have c9 : w'.cell? ⟨b, nv * 5 + 2, none⟩ = some (.int .i64 t9.num) := by rw [hown9.cellAt _ (by omega)]; exact flat_at trnE_len acc9 nv t9 2 _ ht9 rfl
              have f9 := hown9.frozenAt (nv * 5 + 2)
              have hst9 := hown9.stored (nv * 5 + 2) (.int .i64 v19)
              have hK9 := keep_row hown9 hst9.2
              have hown10 : (w'.setCell ⟨b, nv * 5 + 2, none⟩ (.int .i64 v19)).ownsRow w.heap.size 160 5 (.slice (some ⟨b, 0, none⟩) m c) m ((acc9.set nv { t9 with num := v19 }).flatMap trnE) := by rw [← flat_set trnE_len acc9 nv t9 _ 2 (.int .i64 v19) ht9 (by decide) rfl]; exact hst9.1
              have hgr10 := grown_own hgr9 hst9.2 (fun i hi => by injection hi with hi; omega)
              have s10 := s9.setOther (p := ⟨b, nv * 5 + 2, none⟩) (show g < b by omega) (.int .i64 v19)
              have H := Lib.hid (And.intro s10 (And.intro hown10 (And.intro hgr10 (And.intro hK9 (show (acc9.set nv { t9 with num := v19 }).length = m by rw [List.length_set]; exact hl9)))))
              clear h0 ht9 hst9 hown10 hgr10 s10 hK9
              go_simp
              exact hK2.out _ _ ⟨updV xs 29 undef, by simp [updV, e19, e28], cond_set hC2.out (C14.mono (fun A n l h => h.keep (T := 160) (by decide) H.out.2.2.2.1)) trivial, W14.keep ⟨k9, _, hk9, H.out.1, H.out.2.1, H.out.2.2.2.2, H.out.2.2.1⟩ (by decide)⟩
          case he =>
            intro listed a w' hs hI hr
            obtain ⟨xs, rfl, hC, k9, acc9, hk9, s9, hown9, hl9, hgr9⟩ := hI
            clear hC hs hr
            go_wp2
            go_ret
            exact ⟨_, m, c, acc9, k9, rfl, RN.of_own trnE_len hown9 hl9 (by omega), s9, by have := rem14_pos listed; omega, hgr9⟩
end Go.Proofs.YtjfppcejcbfngaaDoor
