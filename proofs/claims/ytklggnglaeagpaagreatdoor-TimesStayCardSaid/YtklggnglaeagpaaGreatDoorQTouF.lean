/- TouchOf and TouchList as functions of the list and the place. Printed by wip/gentouf.py out of TouchN and TouchL. -/
import Derived.Test.YtklggnglaeagpaaGreatDoorQTouX
import Derived.Test.YtklggnglaeagpaaGreatDoorQFnReg
import Derived.Deep.DeepCutAuto
import Derived.IntWalk
import Derived.Test.YtklggnglaeagpaaGreatDoorQRows2
namespace Go.Proofs.YtklggnglaeagpaaGreatDoor
open Go.RowKit
set_option linter.unusedVariables false

def kfT (c k2 d : Nat) (L : Array Bool) : Nat := if L.getD c false then k2 + d else k2
def pfT (c : Nat) (p v1 : Int) (L : Array Bool) : Int := if L.getD c false then v1 else p
def kfU (k2 : Nat) (L : Array Bool) : Nat := if L.getD 6 false then k2 + 3 else if L.getD 1 false then k2 + 2 else k2
section
variable {c k2 d i : Nat} {p v1 : Int} {L : Array Bool}
theorem kfT_rep (c k2 d m : Nat) : kfT c k2 d (Array.replicate m false) = k2 := by unfold kfT; rw [rep_false]; rfl
theorem pfT_rep (c : Nat) (p v1 : Int) (m : Nat) : pfT c p v1 (Array.replicate m false) = p := by unfold pfT; rw [rep_false]; rfl
theorem kfU_rep (k2 m : Nat) : kfU k2 (Array.replicate m false) = k2 := by unfold kfU; rw [rep_false, rep_false]; rfl
theorem kfT_other (h : i ≠ c) : kfT c k2 d (L.setIfInBounds i true) = kfT c k2 d L := by unfold kfT; rw [getD_set_other _ h]
theorem pfT_other (h : i ≠ c) : pfT c p v1 (L.setIfInBounds i true) = pfT c p v1 L := by unfold pfT; rw [getD_set_other _ h]
theorem kfU_other (h1 : i ≠ 1) (h6 : i ≠ 6) : kfU k2 (L.setIfInBounds i true) = kfU k2 L := by unfold kfU; rw [getD_set_other _ h1, getD_set_other _ h6]
theorem kfT_no (h : L.getD c true = false) : kfT c k2 d L = k2 := by unfold kfT; rw [(getD_tfT h).1]; rfl
theorem set_yes (h : L.getD c true = false) : (L.setIfInBounds c true).getD c false = true := by rw [getD_set_self', if_pos (getD_tfT h).2]
theorem kfT_set (h : L.getD c true = false) : kfT c k2 d (L.setIfInBounds c true) = k2 + d := by unfold kfT; rw [set_yes h]; rfl
theorem pfT_set (h : L.getD c true = false) : pfT c p v1 (L.setIfInBounds c true) = v1 := by unfold pfT; rw [set_yes h]; rfl
theorem kfT_yes (h : L.getD c false = true) : kfT c k2 d L = k2 + d := by unfold kfT; rw [h]; rfl
theorem pfT_yes (h : L.getD c false = true) : pfT c p v1 L = v1 := by unfold pfT; rw [h]; rfl
theorem kfU_yes (h : L.getD 6 false = true) : kfU k2 L = k2 + 3 := by unfold kfU; rw [h]; rfl
theorem no6 (h : L.getD 1 true = false) (hc : L.getD 6 false = true → L.getD 1 false = true) : L.getD 6 false = false := by
  cases e : L.getD 6 false
  · rfl
  · have := hc e; rw [(getD_tfT h).1] at this; cases this
theorem kfU_0 (h : L.getD 1 true = false) (hc : L.getD 6 false = true → L.getD 1 false = true) : kfU k2 L = k2 := by unfold kfU; rw [no6 h hc, (getD_tfT h).1]; rfl
theorem kfU_1 (h : L.getD 1 true = false) (hc : L.getD 6 false = true → L.getD 1 false = true) : kfU k2 (L.setIfInBounds 1 true) = k2 + 2 := by unfold kfU; rw [getD_set_other _ (by decide), no6 h hc, set_yes h]; rfl
theorem kfU_2 (h : L.getD 6 true = false) (h1 : L.getD 1 false = true) : kfU k2 L = k2 + 2 := by unfold kfU; rw [(getD_tfT h).1, h1]; rfl
theorem kfU_3 (h : L.getD 6 true = false) : kfU k2 (L.setIfInBounds 6 true) = k2 + 3 := by unfold kfU; rw [set_yes h]; rfl
theorem clo_keep (h : L.getD 6 false = true → L.getD 1 false = true) (hi : i ≠ 6) : (L.setIfInBounds i true).getD 6 false = true → (L.setIfInBounds i true).getD 1 false = true := fun e => getD_mono (h (by rwa [getD_set_other _ hi] at e))
end
def C5F (g b : Nat) (bs v5 x6 : Int) (u : Value) (n : Nat) (lf : List Int) (j : Nat) (w : World) (v : Value) : Prop :=
  match j with
  | 0 | 9 => v = .pointer (some ⟨b, 2, none⟩)
  | 1 => v = u
  | 2 => v = .int .i64 bs
  | 3 => v = .pointer (some ⟨g, 0, none⟩)
  | 4 => ∃ z : Nat, v = .slice (some ⟨z, 0, none⟩) 5 5 ∧ u.ownBlock ≠ some z ∧ w.heap[z]? = some (.cells (ints [0, 3, 8, 9, 35]).toArray 3 (0, 0))
  | 5 => v = .int .i64 v5
  | 6 => v = .int .i64 x6
  | 7 => ∃ z : Nat, v = .slice (some ⟨z, 0, none⟩) 1 1 ∧ u.ownBlock ≠ some z ∧ w.heap[z]? = some (.cells (ints [x6]).toArray 3 (0, 0))
  | 8 => w.ownsRow (b + 1) 3 1 v (n + 1) (ints lf)
  | _ => True
theorem C5F.mono {g b : Nat} {x0 x1 x2 : Int} {u : Value} {n : Nat} {lf : List Int} {w w1 : World} (hR : ∀ (z : Nat) (cs : Array Value), u.ownBlock ≠ some z → w.heap[z]? = some (.cells cs 3 (0, 0)) → w1.heap[z]? = some (.cells cs 3 (0, 0))) (hO : ∀ (v : Value) (l : List Int), w.ownsRow (b + 1) 3 1 v (n + 1) (ints l) → w1.ownsRow (b + 1) 3 1 v (n + 1) (ints l)) (j : Nat) (v : Value) (h : C5F g b x0 x1 x2 u n lf j w v) : C5F g b x0 x1 x2 u n lf j w1 v := by
  unfold C5F at h ⊢
  split at h <;> first | exact h | (obtain ⟨z, h1, h2, h4⟩ := h; exact ⟨z, h1, h2, hR _ _ h2 h4⟩) | exact hO _ _ h
theorem C5F.mono2 {g b : Nat} {x0 x1 x2 : Int} {u : Value} {n : Nat} {lf : List Int} {w w1 : World} (hR : ∀ (z : Nat) (cs : Array Value), u.ownBlock ≠ some z → w.heap[z]? = some (.cells cs 3 (0, 0)) → w1.heap[z]? = some (.cells cs 3 (0, 0))) (j : Nat) (v : Value) (hj : j ≠ 8) (h : C5F g b x0 x1 x2 u n lf j w v) : C5F g b x0 x1 x2 u n lf j w1 v := by
  unfold C5F at h ⊢
  split at h <;> first | exact h | (obtain ⟨z, h1, h2, h4⟩ := h; exact ⟨z, h1, h2, hR _ _ h2 h4⟩) | exact absurd rfl hj
def C12F (g b : Nat) (bs v1 v6 : Int) (u : Value) (n : Nat) (lf : List Int) (j : Nat) (w : World) (v : Value) : Prop :=
  match j with
  | 0 | 4 => v = .pointer (some ⟨g, 0, none⟩)
  | 2 | 11 => v = .pointer (some ⟨b, 2, none⟩)
  | 9 => v = .pointer (some ⟨b, 0, none⟩)
  | 3 => v = u
  | 1 => v = .int .i64 v1
  | 6 => v = .int .i64 v6
  | 5 => ∃ z : Nat, v = .slice (some ⟨z, 0, none⟩) 3 3 ∧ u.ownBlock ≠ some z ∧ w.heap[z]? = some (.cells (ints [0, 1, 360001]).toArray 3 (0, 0))
  | 7 => ∃ z : Nat, v = .slice (some ⟨z, 0, none⟩) 1 1 ∧ u.ownBlock ≠ some z ∧ w.heap[z]? = some (.cells (ints [v6]).toArray 3 (0, 0))
  | 8 => w.ownsRow (b + 1) 3 1 v (n + 1) (ints lf)
  | _ => True
theorem C12F.mono {g b : Nat} {x0 x1 x2 : Int} {u : Value} {n : Nat} {lf : List Int} {w w1 : World} (hR : ∀ (z : Nat) (cs : Array Value), u.ownBlock ≠ some z → w.heap[z]? = some (.cells cs 3 (0, 0)) → w1.heap[z]? = some (.cells cs 3 (0, 0))) (hO : ∀ (v : Value) (l : List Int), w.ownsRow (b + 1) 3 1 v (n + 1) (ints l) → w1.ownsRow (b + 1) 3 1 v (n + 1) (ints l)) (j : Nat) (v : Value) (h : C12F g b x0 x1 x2 u n lf j w v) : C12F g b x0 x1 x2 u n lf j w1 v := by
  unfold C12F at h ⊢
  split at h <;> first | exact h | (obtain ⟨z, h1, h2, h4⟩ := h; exact ⟨z, h1, h2, hR _ _ h2 h4⟩) | exact hO _ _ h
theorem C12F.mono2 {g b : Nat} {x0 x1 x2 : Int} {u : Value} {n : Nat} {lf : List Int} {w w1 : World} (hR : ∀ (z : Nat) (cs : Array Value), u.ownBlock ≠ some z → w.heap[z]? = some (.cells cs 3 (0, 0)) → w1.heap[z]? = some (.cells cs 3 (0, 0))) (j : Nat) (v : Value) (hj : j ≠ 8) (h : C12F g b x0 x1 x2 u n lf j w v) : C12F g b x0 x1 x2 u n lf j w1 v := by
  unfold C12F at h ⊢
  split at h <;> first | exact h | (obtain ⟨z, h1, h2, h4⟩ := h; exact ⟨z, h1, h2, hR _ _ h2 h4⟩) | exact absurd rfl hj
theorem TX.neb {w wx : World} {g r b : Nat} {zs : Zs} {u : Value} {n : Nat} {l lf : List Int} {kf : Array Bool → Nat} {pf : Array Bool → Int} {q : Int} {ld ap sto : Nat} {listed : Array Bool} (h : TX w g r b zs u n l lf kf pf q ld ap sto listed wx) {z : Nat} {cs : Array Value} (hz : wx.heap[z]? = some (.cells cs 3 (0, 0))) : z ≠ b := by
  obtain ⟨t, h1, _, _⟩ := h.bx
  intro e
  subst e
  rw [hz] at h1
  injection h1 with h1
  injection h1 with _ h1
  exact absurd h1 (by decide)
/-- the watches of a touch -/
def tchW (zs : Zs) (bs : Int) : Nat → Nat → List Int
  | 0, _ => []
  | n + 1, kk => (bs + pickV zs kk [0, 3, 8, 9, 35]) :: tchW zs bs n (kk + 1)
/-- what is done with a touch at the end -/
def tchF (zs : Zs) (K : Nat) (p q : Int) (l : List Int) : (Int × Int × List Int) × Nat :=
  if (nextV zs (K + 2) 20 == 0) = true then ((oddV zs (K + 3) 0 360000, (if (nextV zs (K + 1) 4 == 0) = true then 0 else q), l ++ [pickV zs (K + 5) [0, 1, 360001]]), K + 6)
  else (((if (nextV zs K 4 == 0) = true then 0 else p), (if (nextV zs (K + 1) 4 == 0) = true then 0 else q), l), K + 3)
/-- TouchOf: what comes, and where the stream stands behind it -/
def touchV (zs : Zs) (k : Nat) : (Int × Int × List Int) × Nat :=
  tchF zs (k + 4 + (nextV zs (k + 3) 4).toNat) (pickV zs k [3000, 6000, 6012] + pickV zs (k + 1) [0, 1, 29, 30, 31, 80, -40]) (pickV zs k [3000, 6000, 6012] + pickV zs (k + 2) [0, 5, 8, 40]) (tchW zs (pickV zs k [3000, 6000, 6012]) (nextV zs (k + 3) 4).toNat (k + 4))
def tcAbs (x : Tc) : Int × Int × List Int := (x.pad, x.btn, x.ws)
set_option maxHeartbeats 6400000 in
set_option maxRecDepth 100000 in
theorem touchOfF_c (g : Nat) (zs : Zs) (k : Nat) (w : World) (h : St w g zs k) (hk : k + 100 ≤ 1099511627776) :
    Calls Tryz.prog 134 #[.pointer (some ⟨g, 0, none⟩)] w fun e w' => ∃ x : Tc, e = .returned x.val ∧ RI 3 w' x.A x.n x.ws ∧ x.n ≤ 4 ∧ tcAbs x = (touchV zs k).1 ∧ St w' g zs (touchV zs k).2 ∧ (touchV zs k).2 ≤ k + 13 ∧ w.grownBy w' (some g) := by
  have hglt := h.lt
  have s0 := h.alloc (.cells #[.int .i64 0, .int .i64 0, .slice none 0 0] 80)
  have r0 := heap_alloc_new w (.cells #[.int .i64 0, .int .i64 0, .slice none 0 0] 80)
  have g0 := grown_alloc (grown_refl w (some g)) (.cells #[.int .i64 0, .int .i64 0, .slice none 0 0] 80)
  have hV := Lib.hid (show touchV zs k = tchF zs (k + 4 + (nextV zs (k + 3) 4).toNat) (pickV zs k [3000, 6000, 6012] + pickV zs (k + 1) [0, 1, 29, 30, 31, 80, -40]) (pickV zs k [3000, 6000, 6012] + pickV zs (k + 2) [0, 5, 8, 40]) (tchW zs (pickV zs k [3000, 6000, 6012]) (nextV zs (k + 3) 4).toNat (k + 4)) from rfl)
  generalize touchV zs k = RV at *
  go_enter Tryz.func134, Tryz.ntmps134
  go_wp2_with fail
  refine (pickH_c g zs _ [3000, 6000, 6012] 0 10000 3 _ _ _ _ s0 (by omega) (by first | rfl | (simp; done)) rfl rfl (by decide) (by decide) (by decide)).mono ?_; rintro e w1 ⟨bs, hbs, rfl, bs0, bs1, s1, g1⟩
  replace r0 := s0.keep g1 _ _ _ (0, 0) (by decide) r0
  replace g0 := grown_trans g0 g1
  clear s0 g1
  go_wp2_with fail
  refine (pickH_c g zs _ [0, 1, 29, 30, 31, 80, -40] (-40) 80 7 _ _ _ _ s1 (by omega) (by first | rfl | (simp; done)) rfl rfl (by decide) (by decide) (by decide)).mono ?_; rintro e w2 ⟨x0, hx0, rfl, x00, x01, s2, g2⟩
  replace r0 := s1.keep g2 _ _ _ (0, 0) (by decide) r0
  replace g0 := grown_trans g0 g2
  clear s1 g2
  have e1 : IntKind.i64.wrap (bs + x0) = bs + x0 := IntWalk.i64_in _ (by omega)
  go_wp2_with fail
  refine (pickH_c g zs _ [0, 5, 8, 40] 0 40 4 _ _ _ _ s2 (by omega) (by first | rfl | (simp; done)) rfl rfl (by decide) (by decide) (by decide)).mono ?_; rintro e w3 ⟨x1, hx1, rfl, x10, x11, s3, g3⟩
  replace r0 := s2.keep g3 _ _ _ (0, 0) (by decide) r0
  replace g0 := grown_trans g0 g3
  clear s2 g3
  have e2 : IntKind.i64.wrap (bs + x1) = bs + x1 := IntWalk.i64_in _ (by omega)
  have hD : D4 w g w.heap.size w3.heap.size zs (.slice none 0 0) 0 [] (k + 3) (bs + x0) (bs + x1) (w3.alloc (.cells #[.int .i64 (bs + x0), .int .i64 (bs + x1), .slice none 0 0] 80)) :=
    ⟨World.ownsRow_nil _ _ _ _, heap_alloc_new w3 _, blk_alloc r0 _, s3.alloc _, grown_alloc g0 _, hglt, lt_of_heap r0, Nat.le_refl _⟩
  clear r0 s3 g0
  generalize hb : w3.heap.size = b at *
  generalize hr : w.heap.size = r at *
  go_wp2_with fail
  refine (nextH_c g zs _ 4 _ hD.st (by omega) (by decide) (by decide)).mono ?_; rintro e w4 ⟨v, hvN, rfl, v0, v1, s4, g4⟩
  have hD4 := hD.stream s4 g4
  clear hD s4 g4
  obtain ⟨N, rfl⟩ : ∃ N : Nat, v = N := ⟨v.toNat, by omega⟩
  have hV2 := Lib.hid (show RV = tchF zs (k + 4 + N) (bs + x0) (bs + x1) (tchW zs bs N (k + 4)) by rw [hV.out, hbs.out, hx0.out, hx1.out, hvN.out, Int.toNat_natCast])
  clear x00 x01 x10 x11 e1 e2 hV hbs hx0 hx1 hvN
  obtain ⟨TW_, hTW⟩ : ∃ q, tchW zs bs = q := ⟨_, rfl⟩
  have hTs := Lib.hid (fun n kk => show TW_ (n + 1) kk = (bs + pickV zs kk [0, 3, 8, 9, 35]) :: TW_ n (kk + 1) by rw [← hTW]; rfl)
  have hT0 := Lib.hid (fun kk => show TW_ 0 kk = [] by rw [← hTW]; rfl)
  rw [hTW] at hV2
  clear hTW
  obtain ⟨TL_, hTLe⟩ : ∃ q, TW_ N (k + 4) = q := ⟨_, rfl⟩
  rw [hTLe] at hV2
  have hTLe := Lib.hid hTLe
  generalize bs + x0 = p0 at *
  generalize bs + x1 = q0 at *
  go_wp2_with fail
  go_loopw [21] (fun i wr => ∃ (j k2 : Nat) (u : Value) (l : List Int), j ≤ N ∧ i = .int .i64 j ∧ k2 = k + 4 + j ∧ D4 w g r b zs u j l k2 p0 q0 wr ∧ Hid (l ++ TW_ (N - j) k2 = TL_)) (fun i _ => N - (intOf i).toNat)
  case atStart => exact ⟨0, k + 4, _, [], Nat.zero_le _, rfl, by omega, hD4, Lib.hid (by rw [Nat.sub_zero]; exact hTLe.out)⟩
  case round =>
    clear hD4
    obtain ⟨jj, k2, u, l, hj, rfl, hk2, hD, hG⟩ := hrel
    have hk2b : k2 ≤ k + 4 + jj := Nat.le_of_eq hk2
    have hk2' := Lib.hid hk2
    clear hk2
    obtain ⟨p, hpe⟩ : ∃ p, Hid (p0 = p) := ⟨_, Lib.hid rfl⟩
    rw [hpe.out] at hD
    obtain ⟨q, hqe⟩ : ∃ q, Hid (q0 = q) := ⟨_, Lib.hid rfl⟩
    rw [hqe.out] at hD
    by_cases hlt : jj < N
    · obtain ⟨v5, hv5⟩ : ∃ v : Int, Hid (pickV zs k2 [0, 3, 8, 9, 35] = v) := ⟨_, Lib.hid rfl⟩
      have hw5 := Lib.hid (show IntKind.i64.wrap (bs + v5) = bs + v5 by have hm := @pickV_mem Int _ zs k2 [0, 3, 8, 9, 35] (by simp); rw [hv5.out] at hm; simp at hm; exact IntWalk.i64_in _ (by omega))
      go_wp2_with fail
      refine wp_region_inv (by kernel_rfl) (fun listed a w' => ∃ xs : Nat → Value, a = { tmps := #[.pointer (some ⟨g, 0, none⟩), undef, .pointer (some ⟨r, 0, none⟩), .int .i64 bs, .pointer (some ⟨b, 0, none⟩), .pointer (some ⟨g, 0, none⟩), .slice (some ⟨r + 1, 0, none⟩) 3 3, .int .i64 bs, .int .i64 bs, .pointer (some ⟨g, 0, none⟩), .slice (some ⟨w1.heap.size, 0, none⟩) 7 7, .int .i64 x0, .int .i64 p0, .int .i64 bs, .pointer (some ⟨g, 0, none⟩), .slice (some ⟨w2.heap.size, 0, none⟩) 4 4, .int .i64 x1, .int .i64 q0, .agg #[.int .i64 p0, .int .i64 q0, .slice none 0 0], .pointer (some ⟨g, 0, none⟩), .int .i64 ↑N, .int .i64 ↑jj, .bool true, xs 0, xs 1, xs 2, xs 3, xs 4, xs 5, xs 6, xs 7, xs 8, xs 9, u33, undef, undef, undef, undef, undef, undef, undef, undef, undef, undef, undef, undef, undef, undef, undef, undef, undef, undef, undef, undef], defers := [] } ∧ (∀ j, listed.getD j false = true → C5F g b bs v5 (IntKind.i64.wrap (bs + v5)) u jj (l ++ [(IntKind.i64.wrap (bs + v5))]) j w' (xs j)) ∧ TX w g r b zs u (jj) l (l ++ [(IntKind.i64.wrap (bs + v5))]) (kfT 5 k2 1) (fun _ => p) q 1 8 10 listed w') ?h0 (AllOps.of ?hs) ?he
      case h0 => exact ⟨fun j => match j with | 0 => u23 | 1 => u24 | 2 => u25 | 3 => u26 | 4 => u27 | 5 => u28 | 6 => u29 | 7 => u30 | 8 => u31 | 9 => u32 | _ => undef, rfl, (fun j hj => by rw [rep_false] at hj; cases hj), TX.start hD (kfT_rep _ _ _ _) rfl⟩
      case hs =>
        refine ⟨?_, ?_, ?_, ?_, ?_, ?_, ?_, ?_, ?_, ?_, ?_, trivial⟩
        · intro listed a w' hs hI h0 hd K' hK
          obtain ⟨xs, rfl, hC, hW⟩ := hI
          have hK2 := Lib.hid hK
          have hC2 := Lib.hid hC
          clear hd hK hC h0
          go_simp
          exact hK2.out _ _ ⟨updV xs 0 (.pointer (some ⟨b, 2, none⟩)), by simp [updV], cond_set hC2.out (fun _ _ h => h) rfl, hW.keep (kfT_other (by decide)) rfl (by decide) (by decide)⟩
        · intro listed a w' hs hI h0 hd K' hK
          obtain ⟨xs, rfl, hC, hW⟩ := hI
          have e0 : xs 0 = (.pointer (some ⟨b, 2, none⟩)) := hC 0 (hd ⟨0, .data⟩ (by simp) rfl)
          have hK2 := Lib.hid hK
          have hC2 := Lib.hid hC
          have c9 := hW.load h0
          clear hd hK hC h0
          go_simp
          exact hK2.out _ _ ⟨updV xs 1 (u), by simp [updV, e0], cond_set hC2.out (fun _ _ h => h) rfl, hW.keep (kfT_other (by decide)) rfl (by decide) (by decide)⟩
        · intro listed a w' hs hI h0 hd K' hK
          obtain ⟨xs, rfl, hC, hW⟩ := hI
          have hK2 := Lib.hid hK
          have hC2 := Lib.hid hC
          clear hd hK hC h0
          go_simp
          exact hK2.out _ _ ⟨updV xs 2 (.int .i64 bs), by simp [updV], cond_set hC2.out (fun _ _ h => h) rfl, hW.keep (kfT_other (by decide)) rfl (by decide) (by decide)⟩
        · intro listed a w' hs hI h0 hd K' hK
          obtain ⟨xs, rfl, hC, hW⟩ := hI
          have hK2 := Lib.hid hK
          have hC2 := Lib.hid hC
          clear hd hK hC h0
          go_simp
          exact hK2.out _ _ ⟨updV xs 3 (.pointer (some ⟨g, 0, none⟩)), by simp [updV], cond_set hC2.out (fun _ _ h => h) rfl, hW.keep (kfT_other (by decide)) rfl (by decide) (by decide)⟩
        · intro listed a w' hs hI h0 hd K' hK
          obtain ⟨xs, rfl, hC, hW⟩ := hI
          have hK2 := Lib.hid hK
          have hC2 := Lib.hid hC
          clear hd hK hC h0
          go_simp
          exact hK2.out _ _ ⟨updV xs 4 (.slice (some ⟨w'.heap.size, 0, none⟩) 5 5), by simp [updV], cond_set hC2.out (C5F.mono (fun z cs _ h => blk_alloc h _) (fun v l h => h.alloc _)) ⟨w'.heap.size, rfl, (fun e => by have := (hW.ua _ e).2; omega), heap_alloc_new w' _⟩, (hW.alloc _).keep (kfT_other (by decide)) rfl (by decide) (by decide)⟩
        · intro listed a w' hs hI h0 hd K' hK
          obtain ⟨xs, rfl, hC, hW⟩ := hI
          have e3 : xs 3 = (.pointer (some ⟨g, 0, none⟩)) := hC 3 (hd ⟨3, .data⟩ (by simp) rfl)
          obtain ⟨z4, e4, ne4, hz4⟩ : ∃ z : Nat, xs 4 = .slice (some ⟨z, 0, none⟩) 5 5 ∧ u.ownBlock ≠ some z ∧ w'.heap[z]? = some (.cells (ints [0, 3, 8, 9, 35]).toArray 3 (0, 0)) := hC 4 (hd ⟨4, .data⟩ (by simp) rfl)
          have hK2 := Lib.hid hK
          have hC2 := Lib.hid hC
          obtain ⟨s9, hnx⟩ := hW.call (i := 5) rfl (by decide) (by decide)
          have hW9 := hW
          rw [kfT_no h0] at s9
          rw [kfT_set h0] at hnx
          have r9 : RI 3 w' (some ⟨z4, 0, none⟩) 5 [0, 3, 8, 9, 35] := R1.of_lit hz4 rfl rfl (by decide)
          clear h0
          clear hd hK hC
          go_simp
          refine (pick_c g zs _ _ _ _ _ _ s9 (by omega) r9 (by decide)).mono ?_; rintro e w1 ⟨rfl, s10, g10⟩
          rw [hv5.out]
          exact hK2.out _ _ ⟨updV xs 5 (.int .i64 v5), by simp [updV, e3, e4], cond_set hC2.out (C5F.mono (fun z cs _ h => s9.keep g10 z cs _ (0, 0) (by decide) h) (fun v l h => own_keep h (by have := hW9.hgr; have := hW9.hrb; omega) g10)) rfl, hnx _ s10 g10⟩
        · intro listed a w' hs hI h0 hd K' hK
          obtain ⟨xs, rfl, hC, hW⟩ := hI
          have e2 : xs 2 = (.int .i64 bs) := hC 2 (hd ⟨2, .data⟩ (by simp) rfl)
          have e5 : xs 5 = (.int .i64 v5) := hC 5 (hd ⟨5, .data⟩ (by simp) rfl)
          have hK2 := Lib.hid hK
          have hC2 := Lib.hid hC
          clear hd hK hC h0
          go_simp
          exact hK2.out _ _ ⟨updV xs 6 (.int .i64 (IntKind.i64.wrap (bs + v5))), by simp [updV, e2, e5], cond_set hC2.out (fun _ _ h => h) rfl, hW.keep (kfT_other (by decide)) rfl (by decide) (by decide)⟩
        · intro listed a w' hs hI h0 hd K' hK
          obtain ⟨xs, rfl, hC, hW⟩ := hI
          have e6 : xs 6 = (.int .i64 (IntKind.i64.wrap (bs + v5))) := hC 6 (hd ⟨6, .data⟩ (by simp) rfl)
          have hK2 := Lib.hid hK
          have hC2 := Lib.hid hC
          clear hd hK hC h0
          go_simp
          exact hK2.out _ _ ⟨updV xs 7 (.slice (some ⟨w'.heap.size, 0, none⟩) 1 1), by simp [updV, e6], cond_set hC2.out (C5F.mono (fun z cs _ h => blk_alloc h _) (fun v l h => h.alloc _)) ⟨w'.heap.size, rfl, (fun e => by have := (hW.ua _ e).2; omega), heap_alloc_new w' _⟩, (hW.alloc _).keep (kfT_other (by decide)) rfl (by decide) (by decide)⟩
        · intro listed a w' hs hI h0 hd K' hK
          obtain ⟨xs, rfl, hC, hW⟩ := hI
          have e1 : xs 1 = u := hC 1 (hd ⟨1, .data⟩ (by simp) rfl)
          obtain ⟨z7, e7, ne7, hz7⟩ : ∃ z : Nat, xs 7 = .slice (some ⟨z, 0, none⟩) 1 1 ∧ u.ownBlock ≠ some z ∧ w'.heap[z]? = some (.cells (ints [(IntKind.i64.wrap (bs + v5))]).toArray 3 (0, 0)) := hC 7 (hd ⟨7, .data⟩ (by simp) rfl)
          have how := hW.ow (getD_tfT h0).1
          have hld : listed.getD 1 false = true := hd ⟨1, .data⟩ (by simp) rfl
          obtain ⟨i0, hi0, hz0, hz1, hz2⟩ := info_parts info_int
          refine step_append_lies _ (by rfl) _ _ _ (by rfl) (b + 1) 3 i0 _ 1 8 Tryz.underlying22 hi0 hz0 hz1 hz2 rfl (by omega) u (jj) (ints l) (by show xs 1 = u; exact e1) how ⟨z7, 0, none⟩ 1 1 [.int .i64 (IntKind.i64.wrap (bs + v5))] (by show xs 7 = _; exact e7) (by rfl) (World.news_of_block (fr := (0, 0)) hz7) (by simp [Value.oneCell']) (by omega) (by unfold maxLen; omega) (by omega) hW.sz _ rfl ?_
          intro gg cap w7 hown7 hgrow hat hlt7
          exact hK _ _ ⟨updV xs 8 (.slice (some ⟨gg, 0, none⟩) (jj + 1) cap), by first | rfl | simp [updV, Act.put], cond_set2 hC (C5F.mono2 (fun z cs hne h => blk_grown h hgrow (fun e => hne e.symm))) (show w7.ownsRow (b + 1) 3 1 _ (jj + 1) (ints (l ++ [(IntKind.i64.wrap (bs + v5))])) by rw [ints_app]; exact hown7), hW.app (kfT_other (by decide)) rfl h0 (by decide) hld hgrow⟩
        · intro listed a w' hs hI h0 hd K' hK
          obtain ⟨xs, rfl, hC, hW⟩ := hI
          have hK2 := Lib.hid hK
          have hC2 := Lib.hid hC
          clear hd hK hC h0
          go_simp
          exact hK2.out _ _ ⟨updV xs 9 (.pointer (some ⟨b, 2, none⟩)), by simp [updV], cond_set hC2.out (fun _ _ h => h) rfl, hW.keep (kfT_other (by decide)) rfl (by decide) (by decide)⟩
        · intro listed a w' hs hI h0 hd K' hK
          obtain ⟨xs, rfl, hC, hW⟩ := hI
          obtain h8 : w'.ownsRow (b + 1) 3 1 (xs 8) (jj + 1) (ints (l ++ [(IntKind.i64.wrap (bs + v5))])) := hC 8 (hd ⟨8, .data⟩ (by simp) rfl)
          have e9 : xs 9 = (.pointer (some ⟨b, 2, none⟩)) := hC 9 (hd ⟨9, .data⟩ (by simp) rfl)
          have hK2 := Lib.hid hK
          have hC2 := Lib.hid hC
          obtain ⟨f9, t9, c90, c91, c92⟩ := hW.free
          have f92 := f9 2
          obtain ⟨A8, c8, e8⟩ := own_shape h8
          rw [e8] at h8
          have hap : listed.getD 8 false = true := hd ⟨8, .data⟩ (by simp) rfl
          have hset := Lib.hid (hW.set2 (kfT_other (by decide)) rfl h0 (by decide) hap h8)
          clear hd hK hC h0
          go_simp
          exact hK2.out _ _ ⟨updV xs 10 (undef), by simp [updV, e9, e8], cond_set hC2.out (C5F.mono (fun z cs _ h => blk_other h (p := ⟨b, 2, none⟩) (hW.neb h) _) (fun v l h => h.kept (row := some b) (grown_setCell (grown_refl _ _) (p := ⟨b, 2, none⟩) (.inl rfl) _) (.inr (own_above h (Nat.le_refl _))))) trivial, hset.out⟩
      case he =>
        intro listed a w' hs hI hr
        obtain ⟨xs, rfl, hC, hW⟩ := hI
        have hfin := all_listed hs hr ⟨rfl, rfl, rfl, rfl, rfl, rfl, rfl, rfl, rfl, rfl, rfl, trivial⟩ 10 (by simp)
        have h5 := all_listed hs hr ⟨rfl, rfl, rfl, rfl, rfl, rfl, rfl, rfl, rfl, rfl, rfl, trivial⟩ 5 (by simp)
        clear hC hs hr
        obtain ⟨t9, hD9⟩ := hW.fin hfin
        rw [kfT_yes h5, hw5.out] at hD9
        clear hW hfin h5
        have hT9 := Lib.hid (show (l ++ [bs + v5]) ++ TW_ (N - (jj + 1)) (k2 + 1) = TL_ by rw [← hG.out, show N - jj = (N - (jj + 1)) + 1 by omega, hTs.out, hv5.out, List.append_assoc]; rfl)
        clear hG hv5 hw5
        go_wp2
        go_roundw
        case rel => exact ⟨jj + 1, k2 + 1, _, _, by omega, by go_num, by have := hk2'.out; omega, by rw [hpe.out, hqe.out]; exact hD9, hT9⟩
        case measure => simp [intOf]; omega
      --R5 end
    · obtain rfl : jj = N := by omega
      have hV3 := Lib.hid (show RV = tchF zs k2 p q l by
        have h9 := hG.out
        rw [Nat.sub_self, hT0.out, List.append_nil] at h9
        rw [hV2.out, hpe.out, hqe.out, ← h9, hk2'.out])
      clear hG hV2 hTs hT0 hTLe hpe hqe hk2'
      have hFd := Lib.hid (show tchF zs k2 p q l = if (nextV zs (k2 + 2) 20 == 0) = true then ((oddV zs (k2 + 3) 0 360000, (if (nextV zs (k2 + 1) 4 == 0) = true then 0 else q), l ++ [pickV zs (k2 + 5) [0, 1, 360001]]), k2 + 6) else (((if (nextV zs k2 4 == 0) = true then 0 else p), (if (nextV zs (k2 + 1) 4 == 0) = true then 0 else q), l), k2 + 3) from rfl)
      rw [hFd.out] at hV3
      clear hFd
      go_wp2_with fail
      refine (flipH_c g zs _ _ _ hD.st (by omega) (by omega) (by omega)).mono ?_; rintro e w5 ⟨f1, hf1, rfl, s5, g5⟩
      have hD5 := hD.stream s5 g5
      clear hD s5 g5
      go_upto_if 35 with (fail)
      go_cut [] (fun wx => D4 w g r b zs u jj l (k2 + 1) (if f1 = true then 0 else p) q wx)
      case first =>
        have z := (blk_facts (show w5.heap[b]? = some (.cells #[.int .i64 p, .int .i64 q, u] 80 (0, 0)) from hD5.bx)).1
        have f := (blk_facts (show w5.heap[b]? = some (.cells #[.int .i64 p, .int .i64 q, u] 80 (0, 0)) from hD5.bx)).2
        cases f1
        · go_wp2
          go_meet
          case rel => exact hD5
        · have hD6 := Lib.hid (hD5.set 0 (.int .i64 0) (p' := 0) (q' := q) rfl)
          clear hD5
          go_wp2
          go_meet
          case rel => exact hD6.out
      case rest =>
        clear hD5
        rename World => wx
        have hD := hcut
        clear hcut
        rw [hf1.out] at hV3
        obtain ⟨p1, hp1⟩ : ∃ z, (if f1 = true then (0 : Int) else p) = z := ⟨_, rfl⟩
        rw [hp1] at hD hV3
        clear hp1
        go_wp2_with fail
        refine (flipH_c g zs _ _ _ hD.st (by omega) (by omega) (by omega)).mono ?_; rintro e w6 ⟨f2, hf2, rfl, s6, g6⟩
        have hD6 := hD.stream s6 g6
        clear hD s6 g6
        go_upto_if 38 with (fail)
        go_cut [] (fun wx => D4 w g r b zs u jj l (k2 + 1 + 1) p1 (if f2 = true then 0 else q) wx)
        case first =>
          have z := (blk_facts (show w6.heap[b]? = some (.cells #[.int .i64 p1, .int .i64 q, u] 80 (0, 0)) from hD6.bx)).1
          have f := (blk_facts (show w6.heap[b]? = some (.cells #[.int .i64 p1, .int .i64 q, u] 80 (0, 0)) from hD6.bx)).2
          cases f2
          · go_wp2
            go_meet
            case rel => exact hD6
          · have hD7 := Lib.hid (hD6.set 1 (.int .i64 0) (p' := p1) (q' := 0) rfl)
            clear hD6
            go_wp2
            go_meet
            case rel => exact hD7.out
        case rest =>
          clear hD6
          rename World => wy
          have hD := hcut
          clear hcut
          rw [show (nextV zs (k2 + 1) 4 == 0) = f2 from hf2.out] at hV3
          obtain ⟨q1, hq1⟩ : ∃ z, (if f2 = true then (0 : Int) else q) = z := ⟨_, rfl⟩
          rw [hq1] at hD hV3
          clear hq1
          go_wp2_with fail
          refine (flipH_c g zs _ _ _ hD.st (by omega) (by omega) (by omega)).mono ?_; rintro e w7 ⟨f3, hf3, rfl, s7, g7⟩
          have hD7 := hD.stream s7 g7
          clear hD s7 g7
          go_upto_if 41 with (fail)
          go_cut [] (fun wx => ∃ (u : Value) (m : Nat), m ≤ 4 ∧ D4 w g r b zs u m RV.1.2.2 RV.2 RV.1.1 RV.1.2.1 wx)
          case first =>
            rw [show (nextV zs (k2 + 2) 20 == 0) = f3 from hf3.out] at hV3
            cases f3
            · have hRV : RV = ((p1, q1, l), k2 + 3) := by rw [hV3.out]; rfl
              subst hRV
              clear hV3
              go_wp2
              go_meet
              case rel => exact ⟨_, _, by omega, hD7⟩
            · have hRV0 := hV3.out
              rw [if_pos rfl] at hRV0
              obtain ⟨v1, hv1⟩ : ∃ v : Int, Hid (oddV zs (k2 + 3) 0 360000 = v) := ⟨_, Lib.hid rfl⟩
              obtain ⟨v6, hv6⟩ : ∃ v : Int, Hid (pickV zs (k2 + 5) [0, 1, 360001] = v) := ⟨_, Lib.hid rfl⟩
              rw [hv1.out, hv6.out] at hRV0
              subst hRV0
              clear hV3
              go_wp2_with fail
              refine wp_region_inv (by kernel_rfl) (fun listed a w' => ∃ xs : Nat → Value, a = { tmps := #[.pointer (some ⟨g, 0, none⟩), undef, .pointer (some ⟨r, 0, none⟩), .int .i64 bs, .pointer (some ⟨b, 0, none⟩), u5, u6, u7, u8, u9, u10, u11, u12, u13, u14, u15, u16, u17, u18, u19, .int .i64 ↑jj, .int .i64 ↑jj, u22, u23, u24, u25, u26, u27, u28, u29, u30, u31, u32, u33, u34, u35, u36, u37, u38, u39, .pointer (some ⟨g, 0, none⟩), .bool true, xs 0, xs 1, xs 2, xs 3, xs 4, xs 5, xs 6, xs 7, xs 8, xs 9, xs 11, u53], defers := [] } ∧ (∀ j, listed.getD j false = true → C12F g b bs v1 v6 u jj (l ++ [v6]) j w' (xs j)) ∧ TX w g r b zs u (jj) l (l ++ [v6]) (kfU (k2 + 3)) (pfT 10 p1 v1) q1 3 8 12 listed w' ∧ (listed.getD 6 false = true → listed.getD 1 false = true)) ?h0 (AllOps.of ?hs) ?he
              case h0 => exact ⟨fun j => match j with | 0 => u42 | 1 => u43 | 2 => u44 | 3 => u45 | 4 => u46 | 5 => u47 | 6 => u48 | 7 => u49 | 8 => u50 | 9 => u51 | 11 => u52 | _ => undef, rfl, (fun j hj => by rw [rep_false] at hj; cases hj), ⟨TX.start hD7 (kfU_rep _ _) (pfT_rep _ _ _ _), fun e => (by rw [rep_false] at e; cases e)⟩⟩
              case hs =>
                refine ⟨?_, ?_, ?_, ?_, ?_, ?_, ?_, ?_, ?_, ?_, ?_, ?_, ?_, trivial⟩
                · intro listed a w' hs hI h0 hd K' hK
                  obtain ⟨xs, rfl, hC, hW⟩ := hI
                  have hK2 := Lib.hid hK
                  have hC2 := Lib.hid hC
                  clear hd hK hC h0
                  go_simp
                  exact hK2.out _ _ ⟨updV xs 0 (.pointer (some ⟨g, 0, none⟩)), by simp [updV], cond_set hC2.out (fun _ _ h => h) rfl, ⟨hW.1.keep (kfU_other (by decide) (by decide)) (pfT_other (by decide)) (by decide) (by decide), clo_keep hW.2 (by decide)⟩⟩
                · intro listed a w' hs hI h0 hd K' hK
                  obtain ⟨xs, rfl, hC, hW⟩ := hI
                  have e0 : xs 0 = (.pointer (some ⟨g, 0, none⟩)) := hC 0 (hd ⟨0, .data⟩ (by simp) rfl)
                  have hK2 := Lib.hid hK
                  have hC2 := Lib.hid hC
                  obtain ⟨s9, hnx⟩ := hW.1.call (i := 1) (pfT_other (by decide)) (by decide) (by decide)
                  have hW9 := hW.1
                  rw [kfU_0 h0 hW.2] at s9
                  rw [kfU_1 h0 hW.2] at hnx
                  clear h0
                  clear hd hK hC
                  go_simp
                  refine (odd_c g zs _ _ _ _ s9 (by omega) (by omega) (by omega) (by omega)).mono ?_; rintro e w1 ⟨rfl, s10, g10⟩
                  rw [hv1.out]
                  exact hK2.out _ _ ⟨updV xs 1 (.int .i64 v1), by simp [updV, e0], cond_set hC2.out (C12F.mono (fun z cs _ h => s9.keep g10 z cs _ (0, 0) (by decide) h) (fun v l h => own_keep h (by have := hW9.hgr; have := hW9.hrb; omega) g10)) rfl, ⟨hnx _ s10 g10, clo_keep hW.2 (by decide)⟩⟩
                · intro listed a w' hs hI h0 hd K' hK
                  obtain ⟨xs, rfl, hC, hW⟩ := hI
                  have hK2 := Lib.hid hK
                  have hC2 := Lib.hid hC
                  clear hd hK hC h0
                  go_simp
                  exact hK2.out _ _ ⟨updV xs 2 (.pointer (some ⟨b, 2, none⟩)), by simp [updV], cond_set hC2.out (fun _ _ h => h) rfl, ⟨hW.1.keep (kfU_other (by decide) (by decide)) (pfT_other (by decide)) (by decide) (by decide), clo_keep hW.2 (by decide)⟩⟩
                · intro listed a w' hs hI h0 hd K' hK
                  obtain ⟨xs, rfl, hC, hW⟩ := hI
                  have e2 : xs 2 = (.pointer (some ⟨b, 2, none⟩)) := hC 2 (hd ⟨2, .data⟩ (by simp) rfl)
                  have hK2 := Lib.hid hK
                  have hC2 := Lib.hid hC
                  have c9 := hW.1.load h0
                  clear hd hK hC h0
                  go_simp
                  exact hK2.out _ _ ⟨updV xs 3 (u), by simp [updV, e2], cond_set hC2.out (fun _ _ h => h) rfl, ⟨hW.1.keep (kfU_other (by decide) (by decide)) (pfT_other (by decide)) (by decide) (by decide), clo_keep hW.2 (by decide)⟩⟩
                · intro listed a w' hs hI h0 hd K' hK
                  obtain ⟨xs, rfl, hC, hW⟩ := hI
                  have hK2 := Lib.hid hK
                  have hC2 := Lib.hid hC
                  clear hd hK hC h0
                  go_simp
                  exact hK2.out _ _ ⟨updV xs 4 (.pointer (some ⟨g, 0, none⟩)), by simp [updV], cond_set hC2.out (fun _ _ h => h) rfl, ⟨hW.1.keep (kfU_other (by decide) (by decide)) (pfT_other (by decide)) (by decide) (by decide), clo_keep hW.2 (by decide)⟩⟩
                · intro listed a w' hs hI h0 hd K' hK
                  obtain ⟨xs, rfl, hC, hW⟩ := hI
                  have hK2 := Lib.hid hK
                  have hC2 := Lib.hid hC
                  clear hd hK hC h0
                  go_simp
                  exact hK2.out _ _ ⟨updV xs 5 (.slice (some ⟨w'.heap.size, 0, none⟩) 3 3), by simp [updV], cond_set hC2.out (C12F.mono (fun z cs _ h => blk_alloc h _) (fun v l h => h.alloc _)) ⟨w'.heap.size, rfl, (fun e => by have := (hW.1.ua _ e).2; omega), heap_alloc_new w' _⟩, ⟨(hW.1.alloc _).keep (kfU_other (by decide) (by decide)) (pfT_other (by decide)) (by decide) (by decide), clo_keep hW.2 (by decide)⟩⟩
                · intro listed a w' hs hI h0 hd K' hK
                  obtain ⟨xs, rfl, hC, hW⟩ := hI
                  have e4 : xs 4 = (.pointer (some ⟨g, 0, none⟩)) := hC 4 (hd ⟨4, .data⟩ (by simp) rfl)
                  obtain ⟨z5, e5, ne5, hz5⟩ : ∃ z : Nat, xs 5 = .slice (some ⟨z, 0, none⟩) 3 3 ∧ u.ownBlock ≠ some z ∧ w'.heap[z]? = some (.cells (ints [0, 1, 360001]).toArray 3 (0, 0)) := hC 5 (hd ⟨5, .data⟩ (by simp) rfl)
                  have hK2 := Lib.hid hK
                  have hC2 := Lib.hid hC
                  obtain ⟨s9, hnx⟩ := hW.1.call (i := 6) (pfT_other (by decide)) (by decide) (by decide)
                  have hW9 := hW.1
                  have h1c : listed.getD 1 false = true := hd ⟨1, .chain⟩ (by simp) rfl
                  rw [kfU_2 h0 h1c] at s9
                  rw [kfU_3 h0] at hnx
                  have r9 : RI 3 w' (some ⟨z5, 0, none⟩) 3 [0, 1, 360001] := R1.of_lit hz5 rfl rfl (by decide)
                  clear h0
                  clear hd hK hC
                  go_simp
                  refine (pick_c g zs _ _ _ _ _ _ s9 (by omega) r9 (by decide)).mono ?_; rintro e w1 ⟨rfl, s10, g10⟩
                  rw [hv6.out]
                  exact hK2.out _ _ ⟨updV xs 6 (.int .i64 v6), by simp [updV, e4, e5], cond_set hC2.out (C12F.mono (fun z cs _ h => s9.keep g10 z cs _ (0, 0) (by decide) h) (fun v l h => own_keep h (by have := hW9.hgr; have := hW9.hrb; omega) g10)) rfl, ⟨hnx _ s10 g10, (fun _ => getD_mono h1c)⟩⟩
                · intro listed a w' hs hI h0 hd K' hK
                  obtain ⟨xs, rfl, hC, hW⟩ := hI
                  have e6 : xs 6 = (.int .i64 v6) := hC 6 (hd ⟨6, .data⟩ (by simp) rfl)
                  have hK2 := Lib.hid hK
                  have hC2 := Lib.hid hC
                  clear hd hK hC h0
                  go_simp
                  exact hK2.out _ _ ⟨updV xs 7 (.slice (some ⟨w'.heap.size, 0, none⟩) 1 1), by simp [updV, e6], cond_set hC2.out (C12F.mono (fun z cs _ h => blk_alloc h _) (fun v l h => h.alloc _)) ⟨w'.heap.size, rfl, (fun e => by have := (hW.1.ua _ e).2; omega), heap_alloc_new w' _⟩, ⟨(hW.1.alloc _).keep (kfU_other (by decide) (by decide)) (pfT_other (by decide)) (by decide) (by decide), clo_keep hW.2 (by decide)⟩⟩
                · intro listed a w' hs hI h0 hd K' hK
                  obtain ⟨xs, rfl, hC, hW⟩ := hI
                  have e3 : xs 3 = u := hC 3 (hd ⟨3, .data⟩ (by simp) rfl)
                  obtain ⟨z7, e7, ne7, hz7⟩ : ∃ z : Nat, xs 7 = .slice (some ⟨z, 0, none⟩) 1 1 ∧ u.ownBlock ≠ some z ∧ w'.heap[z]? = some (.cells (ints [v6]).toArray 3 (0, 0)) := hC 7 (hd ⟨7, .data⟩ (by simp) rfl)
                  have how := hW.1.ow (getD_tfT h0).1
                  have hld : listed.getD 3 false = true := hd ⟨3, .data⟩ (by simp) rfl
                  obtain ⟨i0, hi0, hz0, hz1, hz2⟩ := info_parts info_int
                  refine step_append_lies _ (by rfl) _ _ _ (by rfl) (b + 1) 3 i0 _ 1 8 Tryz.underlying22 hi0 hz0 hz1 hz2 rfl (by omega) u (jj) (ints l) (by show xs 3 = u; exact e3) how ⟨z7, 0, none⟩ 1 1 [.int .i64 v6] (by show xs 7 = _; exact e7) (by rfl) (World.news_of_block (fr := (0, 0)) hz7) (by simp [Value.oneCell']) (by omega) (by unfold maxLen; omega) (by omega) hW.1.sz _ rfl ?_
                  intro gg cap w7 hown7 hgrow hat hlt7
                  exact hK _ _ ⟨updV xs 8 (.slice (some ⟨gg, 0, none⟩) (jj + 1) cap), by first | rfl | simp [updV, Act.put], cond_set2 hC (C12F.mono2 (fun z cs hne h => blk_grown h hgrow (fun e => hne e.symm))) (show w7.ownsRow (b + 1) 3 1 _ (jj + 1) (ints (l ++ [v6])) by rw [ints_app]; exact hown7), ⟨hW.1.app (kfU_other (by decide) (by decide)) (pfT_other (by decide)) h0 (by decide) hld hgrow, clo_keep hW.2 (by decide)⟩⟩
                · intro listed a w' hs hI h0 hd K' hK
                  obtain ⟨xs, rfl, hC, hW⟩ := hI
                  have hK2 := Lib.hid hK
                  have hC2 := Lib.hid hC
                  clear hd hK hC h0
                  go_simp
                  exact hK2.out _ _ ⟨updV xs 9 (.pointer (some ⟨b, 0, none⟩)), by simp [updV], cond_set hC2.out (fun _ _ h => h) rfl, ⟨hW.1.keep (kfU_other (by decide) (by decide)) (pfT_other (by decide)) (by decide) (by decide), clo_keep hW.2 (by decide)⟩⟩
                · intro listed a w' hs hI h0 hd K' hK
                  obtain ⟨xs, rfl, hC, hW⟩ := hI
                  have e1 : xs 1 = (.int .i64 v1) := hC 1 (hd ⟨1, .data⟩ (by simp) rfl)
                  have e9 : xs 9 = (.pointer (some ⟨b, 0, none⟩)) := hC 9 (hd ⟨9, .data⟩ (by simp) rfl)
                  have hK2 := Lib.hid hK
                  have hC2 := Lib.hid hC
                  obtain ⟨f9, t9, c90, c91, c92⟩ := hW.1.free
                  have f90 := f9 0
                  have hp9 := Lib.hid (pfT_set (p := p1) (v1 := v1) h0)
                  clear hd hK hC h0
                  go_simp
                  exact hK2.out _ _ ⟨updV xs 10 (undef), by simp [updV, e1, e9], cond_set hC2.out (C12F.mono (fun z cs _ h => blk_other h (p := ⟨b, 0, none⟩) (hW.1.neb h) _) (fun v l h => h.kept (row := some b) (grown_setCell (grown_refl _ _) (p := ⟨b, 0, none⟩) (.inl rfl) _) (.inr (own_above h (Nat.le_refl _))))) trivial, ⟨hW.1.set0 (kfU_other (by decide) (by decide)) hp9.out (by decide) (by decide), clo_keep hW.2 (by decide)⟩⟩
                · intro listed a w' hs hI h0 hd K' hK
                  obtain ⟨xs, rfl, hC, hW⟩ := hI
                  have hK2 := Lib.hid hK
                  have hC2 := Lib.hid hC
                  clear hd hK hC h0
                  go_simp
                  exact hK2.out _ _ ⟨updV xs 11 (.pointer (some ⟨b, 2, none⟩)), by simp [updV], cond_set hC2.out (fun _ _ h => h) rfl, ⟨hW.1.keep (kfU_other (by decide) (by decide)) (pfT_other (by decide)) (by decide) (by decide), clo_keep hW.2 (by decide)⟩⟩
                · intro listed a w' hs hI h0 hd K' hK
                  obtain ⟨xs, rfl, hC, hW⟩ := hI
                  obtain h8 : w'.ownsRow (b + 1) 3 1 (xs 8) (jj + 1) (ints (l ++ [v6])) := hC 8 (hd ⟨8, .data⟩ (by simp) rfl)
                  have e11 : xs 11 = (.pointer (some ⟨b, 2, none⟩)) := hC 11 (hd ⟨11, .data⟩ (by simp) rfl)
                  have hK2 := Lib.hid hK
                  have hC2 := Lib.hid hC
                  obtain ⟨f9, t9, c90, c91, c92⟩ := hW.1.free
                  have f92 := f9 2
                  obtain ⟨A8, c8, e8⟩ := own_shape h8
                  rw [e8] at h8
                  have hap : listed.getD 8 false = true := hd ⟨8, .data⟩ (by simp) rfl
                  have hset := Lib.hid (hW.1.set2 (kfU_other (by decide) (by decide)) (pfT_other (by decide)) h0 (by decide) hap h8)
                  clear hd hK hC h0
                  go_simp
                  exact hK2.out _ _ ⟨updV xs 12 (undef), by simp [updV, e11, e8], cond_set hC2.out (C12F.mono (fun z cs _ h => blk_other h (p := ⟨b, 2, none⟩) (hW.1.neb h) _) (fun v l h => h.kept (row := some b) (grown_setCell (grown_refl _ _) (p := ⟨b, 2, none⟩) (.inl rfl) _) (.inr (own_above h (Nat.le_refl _))))) trivial, ⟨hset.out, clo_keep hW.2 (by decide)⟩⟩
              case he =>
                intro listed a w' hs hI hr
                obtain ⟨xs, rfl, hC, hW⟩ := hI
                have hfin := all_listed hs hr ⟨rfl, rfl, rfl, rfl, rfl, rfl, rfl, rfl, rfl, rfl, rfl, rfl, rfl, trivial⟩ 12 (by simp)
                have h6 := all_listed hs hr ⟨rfl, rfl, rfl, rfl, rfl, rfl, rfl, rfl, rfl, rfl, rfl, rfl, rfl, trivial⟩ 6 (by simp)
                have h10 := all_listed hs hr ⟨rfl, rfl, rfl, rfl, rfl, rfl, rfl, rfl, rfl, rfl, rfl, rfl, rfl, trivial⟩ 10 (by simp)
                clear hC hs hr
                obtain ⟨t9, hD9⟩ := hW.1.fin hfin
                rw [kfU_yes h6, pfT_yes h10] at hD9
                clear hW hfin h6 h10
                go_wp2
                go_meet
                case rel => exact ⟨_, _, by omega, hD9⟩
              --R12 end
          case rest =>
            clear hD7
            rename World => wz
            obtain ⟨u, m, hm, hD⟩ := hcut
            have hRb : RV.2 ≤ k + 13 := by rw [hV3.out]; split <;> (dsimp only; omega)
            obtain ⟨⟨p, q, l⟩, k3⟩ := RV
            dsimp only at hD hRb ⊢
            clear hV3
            obtain ⟨A, c, rfl⟩ := own_shape hD.o
            have z := (blk_facts (show wz.heap[b]? = some (.cells #[.int .i64 p, .int .i64 q, .slice A m c] 80 (0, 0)) from hD.bx)).1
            have zr := (blk_facts (show wz.heap[r]? = some (.cells #[.int .i64 0, .int .i64 0, .slice none 0 0] 80 (0, 0)) from hD.rs)).1
            have fr := (blk_facts (show wz.heap[r]? = some (.cells #[.int .i64 0, .int .i64 0, .slice none 0 0] 80 (0, 0)) from hD.rs)).2
            have hG := Lib.hid (grown_setCell (grown_setCell (grown_setCell (grown_refl wz (some r)) (p := ⟨r, 0, none⟩) (.inl rfl) (.int .i64 p)) (p := ⟨r, 1, none⟩) (.inl rfl) (.int .i64 q)) (p := ⟨r, 2, none⟩) (.inl rfl) (.slice A m c))
            have hrb := hD.hrb
            have hgr := hD.hgr
            have hwr := hD.hwr
            go_wp2
            refine bodyPost_ret (v := .agg #[.int .i64 p, .int .i64 q, .slice A m c]) (by simp [results, Tryz.results134, go_sem, zr]) rfl ⟨⟨p, q, A, m, c, l⟩, rfl, ?_, hm, rfl, ?_, ?_⟩
            · exact R1.of_own (hD.o.kept hG.out (.inr (own_above hD.o (by omega)))) (by show m ≤ 140737488355328; omega)
            · exact hD.st.grown hG.out (fun i hi => by injection hi with hi; omega)
            · exact grown_own hD.gr hG.out (fun i hi => by injection hi with hi; omega)
end Go.Proofs.YtklggnglaeagpaaGreatDoor
