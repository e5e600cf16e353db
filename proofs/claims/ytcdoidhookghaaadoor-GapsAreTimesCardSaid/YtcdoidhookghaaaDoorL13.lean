/- GapsAreTimes: gaps at the end are those of the times, and Ahead of the first one's own line is minus them: the walk. -/
import Derived.Test.YtcdoidhookghaaaDoorKept
import Derived.Test.YtcdoidhookghaaaDoorP13
import Derived.Test.YtcdoidhookghaaaDoorReady
import Derived.Test.YtcdoidhookghaaaDoorDraws
import Derived.Test.YtcdoidhookghaaaDoorLawBase
import Derived.Test.YtcdoidhookghaaaDoorRegInv2
import Derived.Test.YtcdoidhookghaaaDoorRows2
import Derived.IntWalk
import Derived.Deep.RegionHeld3
namespace Go.Proofs.YtcdoidhookghaaaDoor
open Go.RowKit
set_option linter.unusedVariables false

theorem gap_ahead {r : Race} {l : List Sw} {M : Nat} {g : List Gp} {g0 : Gp} {j : Nat} {x0 : Sw} (hr : ∀ x ∈ l, x.sp.length = M) (hM : 1 ≤ M) (hb : ∀ x ∈ l, ∀ y ∈ x.sp, 0 ≤ y ∧ y ≤ 360000) (hd : (l.map Sw.who).Nodup)
    (he : aheadE r l x0.sp = 0) (hp : g.Perm (gapLs M (firstG M l) l)) (hs : ∀ (i j : Nat) (x y : Gp), i < j → g[i]? = some x → g[j]? = some y → x.behind ≤ y.behind) (h0 : g[0]? = some g0) (hx0 : l[j]? = some x0) (hw : x0.who = g0.who) :
    g0.behind = 0 ∧ ∀ y ∈ g, (⟨y.who, itoaS (-y.behind)⟩ : Pr) ∈ aheadLs r l x0.sp := by
  have hgv : ∀ x ∈ l, gapV M x = x.sp.getLastD 0 := fun x hx => by
    have h1 := last_at (hr x hx) (by omega)
    exact getD_of h1
  have hbd : ∀ x ∈ l, gapV M x ≤ 360000 := fun x hx => by
    rw [hgv x hx]; exact (hb x hx _ (List.mem_of_getElem? (last_at (hr x hx) (by omega)))).2
  have hl : l ≠ [] := by intro e; rw [e] at hx0; simp at hx0
  obtain ⟨h1, x1, hx1, hw1, hf1⟩ := gap_first hl hbd hp hs h0
  have hx0m := List.mem_of_getElem? hx0
  have hsame : x1 = x0 := by
    obtain ⟨i, hi⟩ := List.mem_iff_getElem?.1 hx1
    have e1 : (l.map Sw.who)[i]? = some g0.who := by rw [List.getElem?_map, hi]; simp [hw1]
    have e2 : (l.map Sw.who)[j]? = some g0.who := by rw [List.getElem?_map, hx0]; simp [hw]
    have hi' := lt_of_at e1
    have hij : i = j := by
      have := (List.getElem?_inj hi' hd).1 (e1.trans e2.symm)
      exact this
    subst hij
    rw [hi] at hx0
    exact Option.some.inj hx0
  subst hsame
  refine ⟨h1, fun y hy => ?_⟩
  obtain ⟨z, hz, rfl⟩ := List.mem_map.1 (hp.subset hy)
  unfold aheadLs
  rw [if_pos he]
  refine List.mem_map.2 ⟨z, hz, ?_⟩
  show (⟨z.who, _⟩ : Pr) = ⟨z.who, _⟩
  congr 1
  rw [← hgv z hz, ← hgv x1 hx1, hf1]
  congr 1
  show firstG M l - gapV M z = -(gapV M z - firstG M l)
  omega
theorem keys4_nodup : keys4.Nodup := by
  unfold keys4
  decide
theorem gap_who {M : Nat} {F : Int} {l : List Sw} {g : List Gp} {g0 : Gp} (hp : g.Perm (gapLs M F l)) (h0 : g[0]? = some g0) : ∃ x ∈ l, x.who = g0.who := by
  obtain ⟨z, hz, rfl⟩ := List.mem_map.1 (hp.subset (List.mem_of_getElem? h0))
  exact ⟨z, hz, rfl⟩
theorem gap_bd {M : Nat} {l : List Sw} {g : List Gp} (hl : l ≠ []) (hb : ∀ x ∈ l, 0 ≤ gapV M x ∧ gapV M x ≤ 360000) (hp : g.Perm (gapLs M (firstG M l) l)) : ∀ y ∈ g, -1000000 ≤ y.behind ∧ y.behind ≤ 1000000 := by
  intro y hy
  obtain ⟨z, hz, rfl⟩ := List.mem_map.1 (hp.subset hy)
  obtain ⟨h1, x, hx, h2⟩ := firstG_of hl (fun x hx => (hb x hx).2)
  have h3 := hb z hz
  have h4 := hb x hx
  show -1000000 ≤ gapV M z - firstG M l ∧ gapV M z - firstG M l ≤ 1000000
  omega
theorem getD_up {listed : Array Bool} {i j : Nat} (h : listed.getD j false = true) : (listed.setIfInBounds i true).getD j false = true := by
  by_cases e : i = j
  · subst e
    rw [getD_set_self']
    have : i < listed.size := by
      rcases Nat.lt_or_ge i listed.size with h' | h'
      · exact h'
      · rw [Array.getD_eq_getD_getElem?, Array.getElem?_eq_none h'] at h; cases h
    rw [if_pos this]
  · rw [getD_set_other _ e]; exact h
def GG (n M : Nat) (l : List Sw) (w : World) (A : Option Addr) (g : List Gp) : Prop := RGp w A n g ∧ g.Perm (gapLs M (firstG M l) l) ∧ (∀ (i j : Nat) (x y : Gp), i < j → g[i]? = some x → g[j]? = some y → x.behind ≤ y.behind)
theorem GG.below {n M : Nat} {l : List Sw} {w w1 : World} {A : Option Addr} {g : List Gp} (h : GG n M l w A g) (hB : Below w.heap.size w w1) : GG n M l w1 A g := ⟨h.1.below hB, h.2⟩
theorem GG.keep {n M : Nat} {l : List Sw} {w w1 : World} {A : Option Addr} {g : List Gp} (h : GG n M l w A g) (hk : Keep 32 w w1) : GG n M l w1 A g := ⟨h.1.keep (T := 32) (by decide) hk, h.2⟩
theorem getD_ff {listed : Array Bool} {i : Nat} (h : listed.getD i true = false) : listed.getD i false = false := by
  have his : i < listed.size := by
    rcases Nat.lt_or_ge i listed.size with h' | h'
    · exact h'
    · rw [Array.getD_eq_getD_getElem?, Array.getElem?_eq_none h'] at h; cases h
  rw [Array.getD_eq_getD_getElem?, Array.getElem?_eq_getElem his] at h ⊢; exact h
/-- what the drawn region that calls Gaps holds -/
def C13 (rv : Value) (A : Option Addr) (n c M B0 : Nat) (G : World → Option Addr → List Gp → Prop) (j : Nat) (w : World) (v : Value) : Prop :=
  match j with
  | 0 | 2 => v = rv
  | 1 => v = .slice A n c
  | 3 => v = .int .i64 M
  | 4 | 5 => ∃ A6 c6 g, v = .tuple #[.slice A6 n c6, .int .i64 0] ∧ G w A6 g
  | 6 => ∃ A6 c6 g, v = .slice A6 n c6 ∧ G w A6 g
  | 7 | 10 => v = .int .i64 0
  | 8 => ∃ b6 u, v = .pointer (some ⟨b6, 0, none⟩) ∧ B0 < b6 ∧ w.heap[b6]? = some (.cells #[u] 32 (0, 0))
  | _ => True
def Box13 (n : Nat) (G : World → Option Addr → List Gp → Prop) (w : World) (v : Value) : Prop := ∃ b6 A6 c6 g, v = .pointer (some ⟨b6, 0, none⟩) ∧ w.heap[b6]? = some (.cells #[.slice A6 n c6] 32 (0, 0)) ∧ G w A6 g
section
variable {rv : Value} {A : Option Addr} {n c M B0 : Nat} {G : World → Option Addr → List Gp → Prop} {w w1 : World}
theorem C13.below (hB : Below w.heap.size w w1) (hG : ∀ A g, G w A g → G w1 A g) (j : Nat) (v : Value) (h : C13 rv A n c M B0 G j w v) : C13 rv A n c M B0 G j w1 v := by
  unfold C13 at h ⊢
  split at h <;> first | exact h | (obtain ⟨A6, c6, g, h1, h2⟩ := h; exact ⟨A6, c6, g, h1, hG _ _ h2⟩) | (obtain ⟨b6, u, h1, h2, h3⟩ := h; exact ⟨b6, u, h1, h2, blk_below h3 hB⟩)
theorem C13.store {b6 : Nat} {u x : Value} (hb : w.heap[b6]? = some (.cells #[u] 32 (0, 0))) (hG : ∀ A g, G w A g → G (w.setCell ⟨b6, 0, none⟩ x) A g) (j : Nat) (v : Value) (h : C13 rv A n c M B0 G j w v) : C13 rv A n c M B0 G j (w.setCell ⟨b6, 0, none⟩ x) v := by
  have h8 : ∀ (b' : Nat) (u' : Value), w.heap[b']? = some (Obj.cells #[u'] 32 (0, 0)) → ∃ u'', (w.setCell ⟨b6, 0, none⟩ x).heap[b']? = some (Obj.cells #[u''] 32 (0, 0)) := by
    intro b' u' hb'
    by_cases e : b' = b6
    · subst e
      exact ⟨x, by have := blk_set hb 0 x; exact this⟩
    · exact ⟨u', blk_other hb' (p := ⟨b6, 0, none⟩) e x⟩
  unfold C13 at h ⊢
  split at h <;> first | exact h | (obtain ⟨A6, c6, g, h1, h2⟩ := h; exact ⟨A6, c6, g, h1, hG _ _ h2⟩) | (obtain ⟨b', u', h1, h2, h3⟩ := h; obtain ⟨u'', h4⟩ := h8 b' u' h3; exact ⟨b', u'', h1, h2, h4⟩)
theorem Box13.below (hB : Below w.heap.size w w1) (hG : ∀ A g, G w A g → G w1 A g) {v : Value} (h : Box13 n G w v) : Box13 n G w1 v := by
  obtain ⟨b6, A6, c6, g, h1, h2, h3⟩ := h
  exact ⟨b6, A6, c6, g, h1, blk_below h2 hB, hG _ _ h3⟩
theorem box_keep {listed : Array Bool} {xs : Nat → Value} {i : Nat} {v : Value} (h : listed.getD 9 false = true → Box13 n G w (xs 8)) (hm : ∀ u, Box13 n G w u → Box13 n G w1 u) (h8 : i ≠ 8) (h9 : i ≠ 9) : (listed.setIfInBounds i true).getD 9 false = true → Box13 n G w1 (updV xs i v 8) := by
  intro e
  rw [getD_set_other _ h9] at e
  have : updV xs i v 8 = xs 8 := by unfold updV; rw [if_neg (fun q => h8 q.symm)]
  rw [this]; exact hm _ (h e)
theorem ls_keep {listed : Array Bool} {i : Nat} (h : listed.getD 9 false = true → listed.getD 8 false = true) (h9 : i ≠ 9) : (listed.setIfInBounds i true).getD 9 false = true → (listed.setIfInBounds i true).getD 8 false = true := by
  intro e
  rw [getD_set_other _ h9] at e
  exact getD_up (h e)
end
theorem KF.setG {w : World} {b : Nat} {r : Race} {A : Option Addr} {n : Nat} {l : List Sw} {zs : List Int} {k : Nat} {wx : World} {b' : Nat} {cs : Array Value} (h : KF w b r A n l zs k wx) (hb : wx.heap[b']? = some (.cells cs 32 (0, 0))) (hlt : w.heap.size < b') (x : Value) : KF w b r A n l zs k (wx.setCell ⟨b', 0, none⟩ x) := by
  have hk : Keep 32 wx (wx.setCell ⟨b', 0, none⟩ x) := Keep.of_grown hb (grown_setCell (grown_refl wx _) (.inl rfl) x)
  exact ⟨hk b _ _ _ (by decide) h.rc, h.fd.keep (T := 32) ⟨by decide, by decide⟩ hk, h.st.setOther (p := ⟨b', 0, none⟩) hlt x, h.bel.setCell (p := ⟨b', 0, none⟩) (Nat.le_of_lt hlt) x⟩
set_option maxHeartbeats 6400000 in
set_option maxRecDepth 100000 in
theorem gapsAreTimes_walk (a0 : Option Addr) (len0 cap0 : Nat) (z0 : List Int) (w : World) (w0 : IsRow .i64 w a0 len0 cap0 z0) (htab : Tb w) :
    Calls Tryd.prog 5 #[.slice a0 len0 cap0] w fun e w' => e = .returned (.bool true) ∧ Below w.heap.size w w' := by
  have hs := law_start w0
  clear w0
  generalize z0.take len0 = zs at *
  have hTb := Lib.hid (fun wx (h : Below w.heap.size w wx) => htab.below h)
  clear htab
  go_enter Tryd.func5, Tryd.ntmps5
  go_wp2_with fail
  have hs' : St (w.alloc (.cells #[.slice a0 len0 cap0, .int .i64 0] 25)) w.heap.size zs 0 := hs
  refine (plainRace_c w.heap.size zs 0 _ hs' (by omega)).mono ?_; rintro e w1 ⟨rfl, s1, g1⟩
  rw [plainRace_2] at s1
  have hB : Below w.heap.size w w1 := (below_new w _).trans (grown_below g1 (Nat.le_refl _) (by simp))
  clear hs hs' g1
  have hok := plainRace_ok zs 0
  have hRF := Lib.hid (fun l h => And.intro (right_field (zs := zs) (k := 0) (l := l) h) (And.intro (fun x hx => (right_rise (zs := zs) (k := 0) (l := l) h (x := x) hx).2) (keys4_nodup.sublist h.1)))
  generalize (plainRace zs 0).1 = r at *
  have hlb := lenV_bd hok
  have s2 := s1.alloc (.cells r.cells 27)
  have hB2 := hB.alloc hB.size (.cells r.cells 27)
  have hb2 := heap_alloc_new w1 (.cells r.cells 27)
  have hRi := Lib.hid (fun W h hk => rightField_c w.heap.size zs (0 + 9) r W h hk hok)
  have hLo := Lib.hid (fun W => lengthsOf_c r W hok)
  have hGa := Lib.hid (fun A n c E M l W h h0 h1 h2 h3 h4 h5 h6 h7 => gaps_c r A n c E M l W h h0 h1 h2 h3 h4 h5 h6 h7)
  have hAh := Lib.hid (fun A B n c m d l sp W h hs ht (h0 : aheadE r l sp = 0) => show Calls Tryd.prog 49 #[r.val, .slice A n c, .slice B m d] W fun e w' => ∃ A' n' c', e = .returned (.tuple #[.slice A' n' c', .int .i64 0]) ∧ RPr w' A' n' (aheadLs r l sp) ∧ Below W.heap.size W w' from by have := aheadA_c r A B n c m d l sp W h hs ht; rwa [h0] at this)
  have hAE := Lib.hid (fun l (sp : List Int) (h : fieldErr r l = 0) (h2 : wholeErr r sp = 0) => show aheadE r l sp = 0 by rw [← ahead_way]; rw [h, h2]; rfl)
  have hAL := Lib.hid (fun l (sp : List Int) (h : aheadE r l sp = 0) => show (aheadLs r l sp).length = l.length by unfold aheadLs; rw [if_pos h]; exact List.length_map _)
  have hGA := Lib.hid (fun l M g g0 j x0 h1 h2 h3 h4 h5 h6 h7 h8 h9 h10 => gap_ahead (r := r) (l := l) (M := M) (g := g) (g0 := g0) (j := j) (x0 := x0) h1 h2 h3 h4 h5 h6 h7 h8 h9 h10)
  have hFe := Lib.hid (fun l (h : fieldErr r l = 0) => fieldErr_ok h)
  have hSb := Lib.hid (fun sp (h : wholeErr r sp = 0) => (splits_bd (wholeErr_ok h).1).2.2)
  generalize hb4 : w1.heap.size = b4 at *
  have hlt4 : w.heap.size < b4 := by have := s1.lt; omega
  obtain ⟨M, hM⟩ : ∃ M : Nat, lenV r = M := ⟨(lenV r).toNat, by omega⟩
  have hMl := Lib.hid hM
  rw [hM] at hlb
  simp only [hM, Int.toNat_natCast] at hRF hLo hGa
  clear hM s1 hB hok
  generalize RightF zs r = RF at *
  have hKm := Lib.hid (fun A n l k wx (h1 : wx.heap[b4]? = some (.cells r.cells 27 (0, 0))) h2 h3 h4 => (KF.mk h1 h2 h3 h4 : KF w b4 r A n l zs k wx))
  have hKr : ∀ A n l k wx, KF w b4 r A n l zs k wx → wx.heap[b4]? = some (.cells r.cells 27 (0, 0)) := fun A n l k wx h => h.rc
  have hKF : ∀ A n l k wx, KF w b4 r A n l zs k wx → RSw wx A n l := fun A n l k wx h => h.fd
  have hKset := Lib.hid (fun A n l k wx b' (cs : Array Value) (h : KF w b4 r A n l zs k wx) (hb : wx.heap[b']? = some (Obj.cells cs 32 (0, 0))) hlt x => KF.setG h hb hlt x)
  have hKlt : ∀ A n l k wx, KF w b4 r A n l zs k wx → w.heap.size < wx.heap.size := fun A n l k wx h => h.st.lt
  have hKB : ∀ A n l k wx, KF w b4 r A n l zs k wx → Below w.heap.size w wx := fun A n l k wx h => h.bel
  have hKb : ∀ A n l k wx w', KF w b4 r A n l zs k wx → Below wx.heap.size wx w' → KF w b4 r A n l zs k w' := fun _ _ _ _ _ _ h hb => h.below hb
  generalize KF w b4 r = KK at *
  generalize fieldErr r = FE at *
  generalize wholeErr r = WE at *
  generalize aheadE r = AE at *
  generalize aheadLs r = AL at *
  generalize raceErr r = RE at *
  clear hMl
  obtain ⟨key, metres, stroke, course, legs, sex, young, old⟩ := r
  dsimp only [Race.val, Race.cells] at *
  have zc := (blk_facts hb2).1
  go_wp2_with fail
  refine (hRi.out _ s2 (by omega)).mono ?_; rintro e w3 ⟨A, n, c, l, k3, rfl, hown, hll, hn4, hri, hF, s3, hk3, g3⟩
  have K := hKm.out A n l k3 w3 (s2.keep g3 b4 _ _ (0, 0) (by decide) hb2) (RSw.of_own hown hll (by omega) hri) s3 (hB2.trans (grown_below g3 (Nat.le_refl _) hB2.size))
  clear zc hRi s2 hB2 hb2 hown hri s3 g3 hKm
  by_cases h0 : n = 0
  · subst h0
    have hBB := hKB _ _ _ _ _ K
    clear K hKr hKF hKB hKb hLo hGa hAh hAE hAL hGA hFe hSb hRF hTb
    go_wp2_with fail
    refine (ready_c _).mono ?_; rintro e w4 ⟨rfl, B4⟩
    have hB4 := below_next hBB B4
    go_wp2
    go_ret
    exact ⟨rfl, hB4⟩
  · have hn1 : 1 ≤ n := by omega
    have hne : ((n : Int) == 0) = false := beq_eq_false_iff_ne.2 (by omega)
    obtain ⟨hfe, hlen, hnd⟩ := hRF.out l hF
    obtain ⟨_, _, hwe⟩ := hFe.out l hfe
    have hxn : ∀ x ∈ l, x.n = M := fun x hx => by rw [← ((hKF _ _ _ _ _ K).2 x hx).len]; exact hlen x hx
    have hxb : ∀ x ∈ l, ∀ y ∈ x.sp, 0 ≤ y ∧ y ≤ 360000 := fun x hx => hSb.out _ (hwe x hx)
    have hGa' := Lib.hid (fun W h => hGa.out A n c M M l W h hfe (by omega) (by omega) rfl (by omega) (Nat.le_refl _) hxn hxb)
    have hAE' := Lib.hid (fun x hx => hAE.out l x.sp hfe (hwe x hx))
    have hGA' := Lib.hid (fun g g0 j x0 he h6 h7 h8 h9 h10 => hGA.out l M g g0 j x0 hlen (by omega) hxb hnd he h6 h7 h8 h9 h10)
    have hln : l ≠ [] := by intro e; rw [e] at hll; simp at hll; omega
    have hgb := Lib.hid (fun g hp => gap_bd (M := M) (l := l) (g := g) hln (fun x hx => by
      have h1 := last_at (hlen x hx) (by omega)
      rw [show gapV M x = x.sp.getLastD 0 from getD_of h1]
      exact hxb x hx _ (List.mem_of_getElem? h1)) hp)
    have hll' := Lib.hid hll
    have hgw := Lib.hid (fun g g0 hp h0 => gap_who (M := M) (F := firstG M l) (l := l) (g := g) (g0 := g0) hp h0)
    clear hGa hAE hGA hRF hFe hSb hF hwe hlen hnd hxn hxb hfe h0 hll hln
    go_upto_region 6 with (fail)
    go_cut [6, 7] (fun s6 s7 wx => ∃ (b6 : Nat) (A6 : Option Addr) (c6 : Nat) (g : List Gp), s6 = .pointer (some ⟨b6, 0, none⟩) ∧ s7 = .int .i64 0 ∧ wx.heap[b6]? = some (.cells #[.slice A6 n c6] 32 (0, 0)) ∧ RGp wx A6 n g ∧ g.Perm (gapLs M (firstG M l) l) ∧ (∀ (i j : Nat) (x y : Gp), i < j → g[i]? = some x → g[j]? = some y → x.behind ≤ y.behind) ∧ KK A n l zs k3 wx)
    case first =>
      clear hAh hAE' hAL hGA' hgb hgw hTb
      have K' := Lib.hid K
      clear K
      go_wp2_with fail
      --R6
      refine wp_region_inv (by kernel_rfl) (fun listed a w' => ∃ xs : Nat → Value, a = { tmps := #[Value.slice a0 len0 cap0, undef, Value.bool false, Value.pointer (some { block := w.heap.size, off := 0 }), Value.pointer (some { block := b4, off := 0 }), Value.slice A n c, xs 8, xs 10, undef, undef, undef, undef, Value.slice a0 len0 cap0, Value.agg #[Value.slice a0 len0 cap0, Value.int IntKind.i64 0], Value.pointer (some { block := w.heap.size, off := 0 }), Value.pointer (some { block := w.heap.size, off := 0 }), Value.agg #[Value.string key, Value.int IntKind.i64 metres, Value.int IntKind.i64 stroke, Value.int IntKind.i64 course, Value.int IntKind.i64 legs, Value.int IntKind.i64 sex, Value.int IntKind.i64 young, Value.int IntKind.i64 old], Value.pointer (some { block := w.heap.size, off := 0 }), Value.agg #[Value.string key, Value.int IntKind.i64 metres, Value.int IntKind.i64 stroke, Value.int IntKind.i64 course, Value.int IntKind.i64 legs, Value.int IntKind.i64 sex, Value.int IntKind.i64 young, Value.int IntKind.i64 old], Value.slice A n c, Value.slice A n c, Value.int IntKind.i64 ↑n, Value.bool false, undef, xs 5, xs 0, xs 1, xs 2, xs 3, xs 4, xs 6, xs 7, undef, undef, undef, undef, undef, undef, undef, undef, undef, undef, undef, undef, undef, undef, undef, undef, undef, undef, undef, undef, undef, undef, undef, undef, undef, undef, undef, undef, undef, undef, undef, undef, undef, undef, undef, undef, undef, undef, undef, undef, undef, undef, undef, undef, undef, undef, undef, undef, undef, undef, undef, undef, undef, undef, undef, undef, undef, undef, undef], defers := [] } ∧ (∀ j, listed.getD j false = true → C13 (.agg #[.string key, .int .i64 metres, .int .i64 stroke, .int .i64 course, .int .i64 legs, .int .i64 sex, .int .i64 young, .int .i64 old]) A n c M w.heap.size (GG n M l) j w' (xs j)) ∧ KK A n l zs k3 w' ∧ (listed.getD 9 false = true → Box13 n (GG n M l) w' (xs 8)) ∧ (listed.getD 9 false = true → listed.getD 8 false = true)) ?h0 (AllOps.of ?hs) ?he
      case h0 => exact ⟨fun j => match j with | 0 => undef | 1 => undef | 2 => undef | 3 => undef | 4 => undef | 5 => undef | 6 => undef | 7 => undef | 8 => undef | 10 => undef | _ => undef, rfl, (fun j hj => by rw [rep_false] at hj; cases hj), hKb _ _ _ _ _ _ K'.out (below_drewN (Below.refl _ _) 1), (fun e => by rw [rep_false] at e; cases e), (fun e => by rw [rep_false] at e; cases e)⟩
      case hs =>
        refine ⟨?_, ?_, ?_, ?_, ?_, ?_, ?_, ?_, ?_, ?_, ?_, trivial⟩
        · intro listed a w' hs hI h0 hd K2 hK
          obtain ⟨xs, rfl, hC, hKK, hBx, hLs⟩ := hI
          have hK2 := Lib.hid hK
          have hC2 := Lib.hid hC
          have hbr0 := hKr _ _ _ _ _ hKK
          have y0 := (blk_facts hbr0).1 0
          have y1 := (blk_facts hbr0).1 1
          have y2 := (blk_facts hbr0).1 2
          have y3 := (blk_facts hbr0).1 3
          have y4 := (blk_facts hbr0).1 4
          have y5 := (blk_facts hbr0).1 5
          have y6 := (blk_facts hbr0).1 6
          have y7 := (blk_facts hbr0).1 7
          clear hd hK hC h0
          go_simp
          exact hK2.out _ _ ⟨updV xs 0 (.agg #[.string key, .int .i64 metres, .int .i64 stroke, .int .i64 course, .int .i64 legs, .int .i64 sex, .int .i64 young, .int .i64 old]), by simp [updV], cond_set hC2.out (fun _ _ h => h) (rfl), hKK, box_keep hBx (fun _ h => h) (by decide) (by decide), ls_keep hLs (by decide)⟩
        · intro listed a w' hs hI h0 hd K2 hK
          obtain ⟨xs, rfl, hC, hKK, hBx, hLs⟩ := hI
          have hK2 := Lib.hid hK
          have hC2 := Lib.hid hC
          clear hd hK hC h0
          go_simp
          exact hK2.out _ _ ⟨updV xs 1 (.slice A n c), by simp [updV], cond_set hC2.out (fun _ _ h => h) (rfl), hKK, box_keep hBx (fun _ h => h) (by decide) (by decide), ls_keep hLs (by decide)⟩
        · intro listed a w' hs hI h0 hd K2 hK
          obtain ⟨xs, rfl, hC, hKK, hBx, hLs⟩ := hI
          have hK2 := Lib.hid hK
          have hC2 := Lib.hid hC
          have hbr0 := hKr _ _ _ _ _ hKK
          have y0 := (blk_facts hbr0).1 0
          have y1 := (blk_facts hbr0).1 1
          have y2 := (blk_facts hbr0).1 2
          have y3 := (blk_facts hbr0).1 3
          have y4 := (blk_facts hbr0).1 4
          have y5 := (blk_facts hbr0).1 5
          have y6 := (blk_facts hbr0).1 6
          have y7 := (blk_facts hbr0).1 7
          clear hd hK hC h0
          go_simp
          exact hK2.out _ _ ⟨updV xs 2 (.agg #[.string key, .int .i64 metres, .int .i64 stroke, .int .i64 course, .int .i64 legs, .int .i64 sex, .int .i64 young, .int .i64 old]), by simp [updV], cond_set hC2.out (fun _ _ h => h) (rfl), hKK, box_keep hBx (fun _ h => h) (by decide) (by decide), ls_keep hLs (by decide)⟩
        · intro listed a w' hs hI h0 hd K2 hK
          obtain ⟨xs, rfl, hC, hKK, hBx, hLs⟩ := hI
          have e2 : xs 2 = .agg #[.string key, .int .i64 metres, .int .i64 stroke, .int .i64 course, .int .i64 legs, .int .i64 sex, .int .i64 young, .int .i64 old] := hC 2 (hd ⟨2, .data⟩ (by simp) rfl)
          have hK2 := Lib.hid hK
          have hC2 := Lib.hid hC
          clear hd hK hC h0
          go_simp
          refine (hLo.out _).mono ?_; rintro e w14 ⟨rfl, B14⟩
          exact hK2.out _ _ ⟨updV xs 3 (.int .i64 M), by simp [updV, e2], cond_set hC2.out (C13.below B14 (fun _ _ h => GG.below h B14)) (rfl), hKb _ _ _ _ _ _ hKK B14, box_keep hBx (fun _ h => Box13.below B14 (fun _ _ h => GG.below h B14) h) (by decide) (by decide), ls_keep hLs (by decide)⟩
        · intro listed a w' hs hI h0 hd K2 hK
          obtain ⟨xs, rfl, hC, hKK, hBx, hLs⟩ := hI
          have e0 : xs 0 = .agg #[.string key, .int .i64 metres, .int .i64 stroke, .int .i64 course, .int .i64 legs, .int .i64 sex, .int .i64 young, .int .i64 old] := hC 0 (hd ⟨0, .data⟩ (by simp) rfl)
          have e1 : xs 1 = .slice A n c := hC 1 (hd ⟨1, .data⟩ (by simp) rfl)
          have e3 : xs 3 = .int .i64 M := hC 3 (hd ⟨3, .data⟩ (by simp) rfl)
          have hK2 := Lib.hid hK
          have hC2 := Lib.hid hC
          clear hd hK hC h0
          go_simp
          refine (hGa'.out _ (hKF _ _ _ _ _ hKK)).mono ?_; rintro e w14 ⟨A6, c6, g, rfl, hG, hP, hS, B14⟩
          exact hK2.out _ _ ⟨updV xs 4 (.tuple #[.slice A6 n c6, .int .i64 0]), by simp [updV, e0, e1, e3], cond_set hC2.out (C13.below B14 (fun _ _ h => GG.below h B14)) (⟨A6, c6, g, rfl, hG, hP, hS⟩), hKb _ _ _ _ _ _ hKK B14, box_keep hBx (fun _ h => Box13.below B14 (fun _ _ h => GG.below h B14) h) (by decide) (by decide), ls_keep hLs (by decide)⟩
        · intro listed a w' hs hI h0 hd K2 hK
          obtain ⟨xs, rfl, hC, hKK, hBx, hLs⟩ := hI
          obtain ⟨A6, c6, g, e4, hg⟩ : ∃ A6 c6 g, xs 4 = .tuple #[.slice A6 n c6, .int .i64 0] ∧ GG n M l w' A6 g := hC 4 (hd ⟨4, .data⟩ (by simp) rfl)
          have hK2 := Lib.hid hK
          have hC2 := Lib.hid hC
          clear hd hK hC h0
          go_simp
          exact hK2.out _ _ ⟨updV xs 5 (.tuple #[.slice A6 n c6, .int .i64 0]), by simp [updV, e4], cond_set hC2.out (fun _ _ h => h) (⟨A6, c6, g, rfl, hg⟩), hKK, box_keep hBx (fun _ h => h) (by decide) (by decide), ls_keep hLs (by decide)⟩
        · intro listed a w' hs hI h0 hd K2 hK
          obtain ⟨xs, rfl, hC, hKK, hBx, hLs⟩ := hI
          obtain ⟨A6, c6, g, e5, hg⟩ : ∃ A6 c6 g, xs 5 = .tuple #[.slice A6 n c6, .int .i64 0] ∧ GG n M l w' A6 g := hC 5 (hd ⟨5, .data⟩ (by simp) rfl)
          have hK2 := Lib.hid hK
          have hC2 := Lib.hid hC
          clear hd hK hC h0
          go_simp
          exact hK2.out _ _ ⟨updV xs 6 (.slice A6 n c6), by simp [updV, e5], cond_set hC2.out (fun _ _ h => h) (⟨A6, c6, g, rfl, hg⟩), hKK, box_keep hBx (fun _ h => h) (by decide) (by decide), ls_keep hLs (by decide)⟩
        · intro listed a w' hs hI h0 hd K2 hK
          obtain ⟨xs, rfl, hC, hKK, hBx, hLs⟩ := hI
          obtain ⟨A6, c6, g, e5, hg⟩ : ∃ A6 c6 g, xs 5 = .tuple #[.slice A6 n c6, .int .i64 0] ∧ GG n M l w' A6 g := hC 5 (hd ⟨5, .data⟩ (by simp) rfl)
          have hK2 := Lib.hid hK
          have hC2 := Lib.hid hC
          clear hd hK hC h0
          go_simp
          exact hK2.out _ _ ⟨updV xs 7 (.int .i64 0), by simp [updV, e5], cond_set hC2.out (fun _ _ h => h) (rfl), hKK, box_keep hBx (fun _ h => h) (by decide) (by decide), ls_keep hLs (by decide)⟩
        · intro listed a w' hs hI h0 hd K2 hK
          obtain ⟨xs, rfl, hC, hKK, hBx, hLs⟩ := hI
          have hK2 := Lib.hid hK
          have hC2 := Lib.hid hC
          have hff := getD_ff h0
          have hlt8 := hKlt _ _ _ _ _ hKK
          clear hd hK hC h0
          go_simp
          exact hK2.out _ _ ⟨updV xs 8 (.pointer (some ⟨w'.heap.size, 0, none⟩)), by simp [updV], cond_set hC2.out (C13.below (below_new w' _) (fun _ _ h => GG.below h (below_new w' _))) (⟨w'.heap.size, _, rfl, hlt8, heap_alloc_new w' _⟩), hKb _ _ _ _ _ _ hKK (below_new w' _), (fun e => by rw [getD_set_other _ (by decide)] at e; have h9 := hLs e; rw [hff] at h9; cases h9), ls_keep hLs (by decide)⟩
        · intro listed a w' hs hI h0 hd K2 hK
          obtain ⟨xs, rfl, hC, hKK, hBx, hLs⟩ := hI
          obtain ⟨A6, c6, g, e6, hg⟩ : ∃ A6 c6 g, xs 6 = .slice A6 n c6 ∧ GG n M l w' A6 g := hC 6 (hd ⟨6, .data⟩ (by simp) rfl)
          obtain ⟨b6, u, e8, hlt6, hb6⟩ : ∃ b6 u, xs 8 = .pointer (some ⟨b6, 0, none⟩) ∧ w.heap.size < b6 ∧ w'.heap[b6]? = some (.cells #[u] 32 (0, 0)) := hC 8 (hd ⟨8, .data⟩ (by simp) rfl)
          have hK2 := Lib.hid hK
          have hC2 := Lib.hid hC
          have h8l : listed.getD 8 false = true := hd ⟨8, .data⟩ (by simp) rfl
          have y0 := (blk_facts hb6).1 0
          have f0 := (blk_facts hb6).2 0
          clear hd hK hC
          go_simp
          have hKp : Keep 32 w' (w'.setCell ⟨b6, 0, none⟩ (.slice A6 n c6)) := Keep.of_grown hb6 (grown_setCell (grown_refl w' _) (.inl rfl) _)
          have hst := blk_set hb6 0 (.slice A6 n c6)
          exact hK2.out _ _ ⟨updV xs 9 (undef), by simp [updV, e6, e8], cond_set hC2.out (C13.store hb6 (fun _ _ h => GG.keep h hKp)) (trivial), hKset.out _ _ _ _ _ _ _ hKK hb6 hlt6 _, (fun _ => ⟨b6, A6, c6, g, by simp [updV, e8], hst, GG.keep hg hKp⟩), (fun _ => getD_up h8l)⟩
        · intro listed a w' hs hI h0 hd K2 hK
          obtain ⟨xs, rfl, hC, hKK, hBx, hLs⟩ := hI
          have e7 : xs 7 = .int .i64 0 := hC 7 (hd ⟨7, .data⟩ (by simp) rfl)
          have hK2 := Lib.hid hK
          have hC2 := Lib.hid hC
          clear hd hK hC h0
          go_simp
          exact hK2.out _ _ ⟨updV xs 10 (.int .i64 0), by simp [updV, e7], cond_set hC2.out (fun _ _ h => h) (rfl), hKK, box_keep hBx (fun _ h => h) (by decide) (by decide), ls_keep hLs (by decide)⟩
      case he =>
        intro listed a w' hs hI hr
        obtain ⟨xs, rfl, hC, hKK, hBx, hLs⟩ := hI
        have hal := all_listed hs hr ⟨rfl, rfl, rfl, rfl, rfl, rfl, rfl, rfl, rfl, rfl, rfl, trivial⟩
        obtain ⟨b6, A6, c6, g, e8, hb6, hg⟩ := hBx (hal 9 (by simp))
        have e10 : xs 10 = .int .i64 0 := hC 10 (hal 10 (by simp))
        clear hC hs hr hal hLs
        go_wp2
        go_meet
        case rel => exact ⟨b6, A6, c6, g, e8, e10, hb6, hg.1, hg.2.1, hg.2.2, hKK⟩
      --R6 end
    case rest =>
    clear K hGa' hLo hKset hKlt
    rename World => w16
    obtain ⟨b6, A6, c6, g, rfl, rfl, hbx, hG16, hP, hS, K⟩ := hcut
    have zb := (blk_facts hbx).1
    have lbx := lt_of_heap hbx
    obtain ⟨bg, og, g0, hA6, lbg, hg0, cg0, cg1, cg2⟩ := hG16.atN (k := 0) (by omega)
    simp only [Nat.zero_mul, Nat.add_zero] at cg0 cg1 cg2
    subst hA6
    have hIW := Lib.hid (indexWho_c A n c l g0.who b6 bg og n c6 w16 (hKF _ _ _ _ _ K) (by omega) (by rw [zb 0]; rfl) (by omega) cg0 lbg lbx)
    obtain ⟨j, x0, hj1, hj2, hj3⟩ := firstW_some g0.who l 0 (hgw.out g g0 hP hg0)
    have hx0m := List.mem_of_getElem? hj2
    have he0 := hAE'.out x0 hx0m
    obtain ⟨hbz, hmem⟩ := hGA'.out g g0 j x0 he0 hP hS hg0 hj2 hj3
    have hj1' : firstW g0.who l 0 = (j : Int) := by rw [show (0 : Int) = ((0 : Nat) : Int) from rfl, hj1]; simp
    rw [hj1'] at hIW
    have hjn : j < n := by have := lt_of_at hj2; rw [hll'.out] at this; exact this
    have hgb' := Lib.hid (hgb.out g hP)
    have hmem' := Lib.hid hmem
    have hal := Lib.hid (hAL.out l x0.sp he0)
    have he0' := Lib.hid he0
    clear hmem hgb hAE' hGA' hgw hj1 hj1' hj3 hP hS hAL he0
    rw [hbz] at cg2
    have hz2 := Lib.hid cg2
    clear cg0 cg1 hg0 hbz
    have y0 := zb 0
    have hn0 : (0 : Int) < (n : Int) := by omega
    have hn0' : 0 < n := by omega
    go_wp2_with fail
    refine hIW.out.mono ?_; rintro e w17 ⟨rfl, B17⟩
    replace hbx := blk_below hbx B17
    replace K := hKb _ _ _ _ _ _ K B17
    replace hG16 := hG16.below B17
    have c2 := (B17.cell (p := ⟨bg, og + 2, none⟩) lbg).trans hz2.out
    have zb := (blk_facts hbx).1
    have y0 := zb 0
    obtain ⟨bs, os, x0', hAs, lbs, hxj, cs0, cs1, hIs⟩ := (hKF _ _ _ _ _ K).at2 hjn
    obtain rfl : x0 = x0' := by rw [hj2] at hxj; exact Option.some.inj hxj
    subst hAs
    have hjnn : (0 : Int) ≤ (j : Int) := by omega
    have hjnI : (j : Int) < (n : Int) := by omega
    obtain ⟨who, xA, xn, xc, xs⟩ := x0
    dsimp only at *
    have hb13 := hKr _ _ _ _ _ K
    have zk := (blk_facts hb13).1
    have z0 := zk 0
    have z1 := zk 1
    have z2 := zk 2
    have z3 := zk 3
    have z4 := zk 4
    have z5 := zk 5
    have z6 := zk 6
    have z7 := zk 7
    have lb13 := lt_of_heap hb13
    have hRS := hKF _ _ _ _ _ K
    have hTB := hTb.out _ (hKB _ _ _ _ _ K)
    have K' := Lib.hid K
    clear K zk zb B17 hIW hz2 hxj hj2
    go_wp2_with fail
    go_region_held3 (fun w' => (w'.cell? ⟨b4, 0, none⟩ = some (.string key) ∧ w'.cell? ⟨b4, 1, none⟩ = some (.int .i64 metres) ∧ w'.cell? ⟨b4, 2, none⟩ = some (.int .i64 stroke) ∧ w'.cell? ⟨b4, 3, none⟩ = some (.int .i64 course) ∧ w'.cell? ⟨b4, 4, none⟩ = some (.int .i64 legs) ∧ w'.cell? ⟨b4, 5, none⟩ = some (.int .i64 sex) ∧ w'.cell? ⟨b4, 6, none⟩ = some (.int .i64 young) ∧ w'.cell? ⟨b4, 7, none⟩ = some (.int .i64 old)) ∧ w'.cell? ⟨bs, os + j * 2 + 1, none⟩ = some (.slice xA xn xc)) (first | go_keep | exact ⟨⟨(blk_facts hb14).1 0, (blk_facts hb14).1 1, (blk_facts hb14).1 2, (blk_facts hb14).1 3, (blk_facts hb14).1 4, (blk_facts hb14).1 5, (blk_facts hb14).1 6, (blk_facts hb14).1 7⟩, (B14.cell (p := ⟨bs, os + j * 2 + 1, none⟩) lbs).trans cs1⟩)
      (first
        | (go_at_call 49; with_reducible refine (hAh.out _ _ _ _ _ _ _ _ _ hRS.drew hIs.drew hTB.drew he0'.out).mono ?_; rintro e w14 ⟨A9, n9, c9, rfl, hP9, B14⟩; have hb14 := blk_below (w := World.drew _) hb13 B14; have lb14 := lt_of_heap hb14))
    have K1 := hKb _ _ _ _ _ _ (hKb _ _ _ _ _ _ K'.out (below_drewN (Below.refl _ _) 1)) B14
    have hG17 := (hG16.drewN 1).below B14
    have hbx14 := blk_below (w := World.drewN _ 1) hbx B14
    have hn9 := hP9.len
    rw [hal.out, hll'.out] at hn9
    subst hn9
    have zb := (blk_facts hbx14).1
    have y0 := zb 0
    clear hb13 hb14 lb13 lb14 hRS hTB B14 K' z0 z1 z2 z3 z4 z5 z6 z7 hbx hG16 hIs cs0 cs1 c2 zb hal hll' he0' hAh
    go_wp2_with fail
    generalize AL l xs = L at *
    go_loopw [75] (fun i wr => ∃ q : Nat, q ≤ n ∧ i = .int .i64 q ∧ KK (some ⟨bs, os, none⟩) n l zs k3 wr ∧ RGp wr (some ⟨bg, og, none⟩) n g ∧ RPr wr A9 n L) (fun i _ => n - (intOf i).toNat)
    case atStart => exact ⟨0, Nat.zero_le _, rfl, K1, hG17, hP9⟩
    case round =>
      clear K1 hG17 hP9 hbx14 y0
      obtain ⟨q, hq, rfl, K, hG, hP⟩ := hrel
      by_cases hlt : q < n
      · obtain ⟨b', off', y, hA, hbl, hy, c0, c1, c2⟩ := hG.atN hlt
        obtain ⟨rfl, rfl⟩ : bg = b' ∧ og = off' := by
          injection hA with e
          injection e with e1 e2
          exact ⟨e1, e2⟩
        have hym := List.mem_of_getElem? hy
        have hbd := hgb'.out y hym
        have hin := hmem'.out y hym
        have hCn := Lib.hid (fun W h => show Calls Tryd.prog 50 #[.slice A9 n c9, .agg #[.string y.who, .string (itoaS (-y.behind))]] W fun e w' => e = .returned (.bool true) ∧ Below W.heap.size W w' from by have h9 := containsPr_c A9 n c9 L ⟨y.who, itoaS (-y.behind)⟩ W h (by omega); rwa [decide_eq_true hin] at h9)
        obtain ⟨who', le, bh⟩ := y
        dsimp only at *
        have hneg : IntKind.i64.wrap (-bh) = -bh := IntWalk.i64_in _ (by omega)
        have hx5 := heap_alloc_new wr (.cells #[.string who', .int .i64 le, .int .i64 bh] 41)
        have z0 := (blk_facts hx5).1 0
        have z1 := (blk_facts hx5).1 1
        have z2 := (blk_facts hx5).1 2
        have lx5 := lt_of_heap hx5
        have K5 := hKb _ _ _ _ _ _ K (below_new wr (.cells #[.string who', .int .i64 le, .int .i64 bh] 41))
        have hG5 := hG.alloc (.cells #[.string who', .int .i64 le, .int .i64 bh] 41)
        have hP5 := hP.alloc (.cells #[.string who', .int .i64 le, .int .i64 bh] 41)
        have hT5 := hTb.out _ (hKB _ _ _ _ _ K5)
        have K5' := Lib.hid K5
        clear K hG hP hy hym hin K5
        go_wp2_with fail
        generalize hW : wr.alloc (.cells #[.string who', .int .i64 le, .int .i64 bh] 41) = w5 at *
        generalize wr.heap.size = b7 at *
        clear hW c0 c1 c2
        go_region_held3 (fun w' => w'.cell? ⟨b7, 0, none⟩ = some (.string who') ∧ w'.cell? ⟨b7, 2, none⟩ = some (.int .i64 bh)) (first | go_keep | exact ⟨(blk_facts hx6).1 0, (blk_facts hx6).1 2⟩ | exact ⟨(blk_facts hx7).1 0, (blk_facts hx7).1 2⟩)
          (first
            | (go_at_call 51; with_reducible refine (itoa_c (-bh) _ hT5.drew (by omega) (by omega)).mono ?_; rintro e w6 ⟨rfl, B6⟩; have hx6 := blk_below (w := World.drew _) hx5 B6; have lx6 := lt_of_heap hx6; have hP6 := RN.below (w := World.drew _) hP5.drew B6)
            | (go_at_call 50; with_reducible refine (hCn.out _ hP6).mono ?_; rintro e w7 ⟨rfl, B7⟩; have hx7 := blk_below hx6 B7; have lx7 := lt_of_heap hx7))
        have K7 := hKb _ _ _ _ _ _ (hKb _ _ _ _ _ _ (hKb _ _ _ _ _ _ K5'.out (below_drewN (Below.refl _ _) 1)) B6) B7
        have hG7 := ((hG5.drewN 1).below B6).below B7
        have hP7 := hP6.below B7
        clear hx5 hx6 hx7 lx5 lx6 lx7 hP6 hP5 hG5 K5' B6 B7 z0 z1 z2 hT5
        go_wp2
        go_roundw
        case rel => exact ⟨q + 1, by omega, by go_num, K7, hG7, hP7⟩
        case measure => simp [intOf]; omega
      · obtain rfl : q = n := by omega
        go_wp2_with fail
        refine (ready_c _).mono ?_; rintro e w18 ⟨rfl, B18⟩
        have hBB := hKB _ _ _ _ _ (hKb _ _ _ _ _ _ K B18)
        go_wp2
        go_ret
        exact ⟨rfl, hBB⟩
end Go.Proofs.YtcdoidhookghaaaDoor
