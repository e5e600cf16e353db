/- The two halves of a list: the maker. Printed by wip/genhalf.py. -/
import Derived.Test.YtjafcnblgeibpaaDoorP52
import Derived.Test.YtjafcnblgeibpaaDoorTwo
import Derived.Test.YtjafcnblgeibpaaDoorPadF
import Derived.Test.YtjafcnblgeibpaaDoorDraws
namespace Go.Proofs.YtjafcnblgeibpaaDoor
open Go.RowKit Go.Shelf Go.Lib Go.Sort
set_option linter.unusedVariables false

theorem halfA_snoc {α : Type} (x : α) (v : Int) : ∀ l : List (α × Int), hfA (l ++ [(x, v)]) = hfA l ++ (if v = 1 then [] else [x])
  | [] => by simp [hfA]
  | (y, u) :: r => by
    have ih := halfA_snoc x v r
    simp only [List.cons_append, hfA, ih]
    split <;> simp
theorem halfB_snoc {α : Type} (x : α) (v : Int) : ∀ l : List (α × Int), hfB (l ++ [(x, v)]) = hfB l ++ (if v = 0 then [] else [x])
  | [] => by simp [hfB]
  | (y, u) :: r => by
    have ih := halfB_snoc x v r
    simp only [List.cons_append, hfB, ih]
    split <;> simp
theorem ks_snoc {α : Type} {ks : List (α × Int)} {l : List α} {j : Nat} {x : α} (v : Int) (h : ks.map Prod.fst = l.take j) (hx : l[j]? = some x) : (ks ++ [(x, v)]).map Prod.fst = l.take (j + 1) := by
  rw [List.map_append, h, List.take_add_one, hx]; rfl
/-- two rows of the call's own, of one type -/
structure HK {α : Type} (enc : α → List Value) (sz : Nat) (T : TypeId) (w : World) (g : Nat) (zs : List Int) (u1 u2 : Value) (l1 l2 : List α) (kk : Nat) (wx : World) : Prop where
  o1 : wx.ownsRow w.heap.size T sz u1 l1.length (l1.flatMap enc)
  o2 : wx.ownsRow w.heap.size T sz u2 l2.length (l2.flatMap enc)
  dis : Dis u1 u2
  st : St wx g zs kk
  gr : w.grownBy wx (some g)
  gl : g < w.heap.size
section
variable {α : Type} {enc : α → List Value} {sz : Nat} {T : TypeId} {w wx w' : World} {g : Nat} {zs : List Int} {u1 u2 v' : Value} {l1 l2 : List α} {x : α} {kk k1 : Nat}
theorem HK.start (h : St w g zs kk) : HK enc sz T w g zs (.slice none 0 0) (.slice none 0 0) [] [] kk w := ⟨World.ownsRow_nil _ _ _ _, World.ownsRow_nil _ _ _ _, fun i h => by simp [Value.ownBlock] at h, h, grown_refl _ _, h.lt⟩
theorem HK.flip (h : HK enc sz T w g zs u1 u2 l1 l2 kk wx) : HK enc sz T w g zs u2 u1 l2 l1 kk wx := ⟨h.o2, h.o1, h.dis.symm, h.st, h.gr, h.gl⟩
theorem HK.below (h : HK enc sz T w g zs u1 u2 l1 l2 kk wx) (B : Below wx.heap.size wx w') : HK enc sz T w g zs u1 u2 l1 l2 kk w' := ⟨own_below h.o1 B, own_below h.o2 B, h.dis, h.st.below B, grown_trans h.gr (grown_of_below B), h.gl⟩
theorem HK.alloc (h : HK enc sz T w g zs u1 u2 l1 l2 kk wx) (o : Obj) : HK enc sz T w g zs u1 u2 l1 l2 kk (wx.alloc o) := h.below (below_new wx o)
theorem HK.stream (h : HK enc sz T w g zs u1 u2 l1 l2 kk wx) (s : St w' g zs k1) (hg : wx.grownBy w' (some g)) : HK enc sz T w g zs u1 u2 l1 l2 k1 w' := ⟨own_keep h.o1 h.gl hg, own_keep h.o2 h.gl hg, h.dis, s, grown_trans h.gr hg, h.gl⟩
theorem HK.app1 (h : HK enc sz T w g zs u1 u2 l1 l2 kk wx) (ho : w'.ownsRow w.heap.size T sz v' (l1.length + 1) (l1.flatMap enc ++ enc x)) (hg : wx.grownBy w' u1.ownBlock) (hat : v'.ownBlock = u1.ownBlock ∨ ∃ q, v'.ownBlock = some q ∧ wx.heap.size ≤ q) : HK enc sz T w g zs v' u2 (l1 ++ [x]) l2 kk w' := by
  have hb : ∀ i, u1.ownBlock = some i → w.heap.size ≤ i := own_row_lt h.o1
  have hgl := h.gl
  refine ⟨by rw [List.length_append, List.flatMap_append, List.flatMap_singleton]; exact ho, h.o2.kept hg h.dis.ne, ?_, h.st.grown hg (fun i hi => by have := hb i hi; omega), grown_own h.gr hg (fun i hi => hb i hi), hgl⟩
  intro i h1 h2
  rcases hat with e | ⟨q, e, hq⟩
  · exact h.dis i (e ▸ h1) h2
  · rw [e] at h1
    injection h1 with h1
    have := (h.o2.lt i h2).2
    omega
theorem HK.app2 (h : HK enc sz T w g zs u1 u2 l1 l2 kk wx) (ho : w'.ownsRow w.heap.size T sz v' (l2.length + 1) (l2.flatMap enc ++ enc x)) (hg : wx.grownBy w' u2.ownBlock) (hat : v'.ownBlock = u2.ownBlock ∨ ∃ q, v'.ownBlock = some q ∧ wx.heap.size ≤ q) : HK enc sz T w g zs u1 v' l1 (l2 ++ [x]) kk w' := (h.flip.app1 ho hg hat).flip
theorem HK.lt1 (h : HK enc sz T w g zs u1 u2 l1 l2 kk wx) : ∀ i, u1.ownBlock = some i → i < wx.heap.size := fun i hi => (h.o1.lt i hi).2
theorem HK.lt2 (h : HK enc sz T w g zs u1 u2 l1 l2 kk wx) : ∀ i, u2.ownBlock = some i → i < wx.heap.size := fun i hi => (h.o2.lt i hi).2
end

set_option maxHeartbeats 3200000 in
set_option maxRecDepth 100000 in
theorem halfSignals_c (A : Option Addr) (n c : Nat) (l : List Sg) (g : Nat) (zs : List Int) (k : Nat) (w : World) (h : RSg w A n l) (hs : St w g zs k) (hn : n ≤ 1000) (hk : k + n ≤ 1099511627776) :
    Calls Tryd.prog 8 #[.pointer (some ⟨g, 0, none⟩), .slice A n c] w fun e w' => ∃ (ks : List (Sg × Int)) (A1 : Option Addr) (c1 : Nat) (A2 : Option Addr) (c2 : Nat), e = .returned (.tuple #[.slice A1 (hfA ks).length c1, .slice A2 (hfB ks).length c2]) ∧ ks.map Prod.fst = l ∧ RSg w' A1 (hfA ks).length (hfA ks) ∧ RSg w' A2 (hfB ks).length (hfB ks) ∧ CapOk A1 (hfA ks).length c1 ∧ CapOk A2 (hfB ks).length c2 ∧ St w' g zs (k + n) ∧ w.grownBy w' (some g) ∧ (∀ i j, (Value.slice A1 (hfA ks).length c1).ownBlock = some i → (Value.slice A2 (hfB ks).length c2).ownBlock = some j → i ≠ j) ∧ (∀ i, (Value.slice A1 (hfA ks).length c1).ownBlock = some i → w.heap.size ≤ i) ∧ (∀ i, (Value.slice A2 (hfB ks).length c2).ownBlock = some i → w.heap.size ≤ i) ∧ w'.ownsRow w.heap.size 32 6 (.slice A1 (hfA ks).length c1) (hfA ks).length ((hfA ks).flatMap sgE) ∧ w'.ownsRow w.heap.size 32 6 (.slice A2 (hfB ks).length c2) (hfB ks).length ((hfB ks).flatMap sgE) := by
  have hlen := Lib.hid h.len
  have hR := Lib.hid (fun W (hg : w.grownBy W (some g)) => h.keep (T := 25) (by decide) (hs.keep hg))
  have hlA := Lib.hid (fun (ks : List (Sg × Int)) => (halfA_sub ks).length_le)
  have hlB := Lib.hid (fun (ks : List (Sg × Int)) => (halfB_sub ks).length_le)
  have K0 : HK sgE 6 32 w g zs (.slice none 0 0) (.slice none 0 0) [] [] k w := HK.start hs
  clear hs h
  go_enter Tryd.func8, Tryd.ntmps8
  go_wp2_with fail
  go_loopw [4, 5, 11] (fun a b i wr => ∃ (j : Nat) (ks : List (Sg × Int)), j ≤ n ∧ i = .int .i64 j ∧ Hid (ks.map Prod.fst = l.take j) ∧ HK sgE 6 32 w g zs a b (hfA ks) (hfB ks) (k + j) wr) (fun _ _ i _ => n - (intOf i).toNat)
  case atStart => exact ⟨0, [], Nat.zero_le _, rfl, Lib.hid rfl, K0⟩
  case round =>
    clear K0
    rename World => wr
    rename Value => ub
    rename Value => ua
    obtain ⟨j, ks, hj, rfl, hks, K⟩ := hrel
    by_cases hlt : j < n
    · have hlti : (j : Int) < n := by omega
      obtain ⟨b, off, x, rfl, hbl, hx, c0, c1, c2, c3, c4, c5⟩ := RSg_at6 (hR.out _ K.gr) hlt
      have hks2 := Lib.hid (fun v => ks_snoc v hks.out hx)
      have hla : (hfA ks).length ≤ 1000 := by
        have h1 := hlA.out ks
        rw [hks.out, List.length_take] at h1; omega
      have hlb : (hfB ks).length ≤ 1000 := by
        have h1 := hlB.out ks
        rw [hks.out, List.length_take] at h1; omega
      clear hks hx
      obtain ⟨dev, no, kind, tm, lane, time⟩ := x
      dsimp only at *
      have hn0 := heap_alloc_new wr (.cells #[.string dev, .int .i64 no, .int .i64 kind, .int .i64 tm, .int .i64 lane, .int .i64 time] 32)
      have hz0 : (wr.alloc (.cells #[.string dev, .int .i64 no, .int .i64 kind, .int .i64 tm, .int .i64 lane, .int .i64 time] 32)).heap.size = wr.heap.size + 1 := by simp
      have hU1 := K.lt1
      have hU2 := K.lt2
      have hgl := K.gl
      have hgz := K.gr.size
      have K1 := K.alloc (.cells #[.string dev, .int .i64 no, .int .i64 kind, .int .i64 tm, .int .i64 lane, .int .i64 time] 32)
      clear K
      go_wp2_with fail
      refine (nextE_c g zs (k + j) 3 _ K1.st (by omega) (by decide) (by decide)).mono ?_; rintro e w6 ⟨v, rfl, v0, v1, s6, g6⟩
      have K6 := K1.stream s6 g6
      have hb6 := blk_grown hn0 g6 (fun e => by injection e; omega)
      have hz6 := g6.size
      rw [hz0] at hz6
      have hw6 : w.heap.size ≤ w6.heap.size := K6.gr.size
      clear K1 s6 g6 hn0 hz0 c0 c1 c2 c3 c4 c5
      have x0 := (blk_facts hb6).1 0
      have x1 := (blk_facts hb6).1 1
      have x2 := (blk_facts hb6).1 2
      have x3 := (blk_facts hb6).1 3
      have x4 := (blk_facts hb6).1 4
      have x5 := (blk_facts hb6).1 5
      have hk1 := hks2.out v
      have hA1 := halfA_snoc (⟨dev, no, kind, tm, lane, time⟩ : Sg) v ks
      have hB1 := halfB_snoc (⟨dev, no, kind, tm, lane, time⟩ : Sg) v ks
      clear hks2
      have h3 : v = 0 ∨ v = 1 ∨ v = 2 := by omega
      generalize hk2 : ks ++ [((⟨dev, no, kind, tm, lane, time⟩ : Sg), v)] = ks2 at *
      have hk1' := Lib.hid hk1
      have hA1' := Lib.hid hA1
      have hB1' := Lib.hid hB1
      clear hk1 hA1 hB1 hk2 v0 v1
      rcases h3 with rfl | rfl | rfl
      · go_wp2_with (at_builtin; refine wpList_appAt rfl (.tmp 19) (.tmp 21) 26 rfl Tryd.underlying26 info_signal rfl (by omega) (by omega) K6.o1 rfl rfl (by first | rfl | (simp; done)) rfl (by simp [Value.oneCell']) (by omega) hw6 ?_; intro v7 w7 hown7 hg7 hat7; have K7 := K6.app1 (x := ⟨dev, no, kind, tm, lane, time⟩) hown7 hg7 hat7)
        go_roundw
        case rel =>
          refine ⟨j + 1, ks2, by omega, by go_num, Lib.hid hk1'.out, ?_⟩
          rw [hA1'.out, hB1'.out]
          simpa [Nat.add_assoc] using K7
        case measure => simp [intOf]; omega
      · go_wp2_with (at_builtin; refine wpList_appAt rfl (.tmp 25) (.tmp 27) 26 rfl Tryd.underlying26 info_signal rfl (by omega) (by omega) K6.o2 rfl rfl (by first | rfl | (simp; done)) rfl (by simp [Value.oneCell']) (by omega) hw6 ?_; intro v7 w7 hown7 hg7 hat7; have K7 := K6.app2 (x := ⟨dev, no, kind, tm, lane, time⟩) hown7 hg7 hat7)
        go_roundw
        case rel =>
          refine ⟨j + 1, ks2, by omega, by go_num, Lib.hid hk1'.out, ?_⟩
          rw [hA1'.out, hB1'.out]
          simpa [Nat.add_assoc] using K7
        case measure => simp [intOf]; omega
      · go_wp2_with (first | ((at_builtin; refine wpList_appAt rfl (.tmp 25) (.tmp 27) 26 rfl Tryd.underlying26 info_signal rfl (by omega) (by omega) K7.o2 rfl rfl (by first | rfl | (simp; done)) rfl (by simp [Value.oneCell']) (by omega) hw7 ?_; intro v8 w8 hown8 hg8 hat8; have K8 := K7.app2 (x := ⟨dev, no, kind, tm, lane, time⟩) hown8 hg8 hat8)) | ((at_builtin; refine wpList_appAt rfl (.tmp 19) (.tmp 21) 26 rfl Tryd.underlying26 info_signal rfl (by omega) (by omega) K6.o1 rfl rfl (by first | rfl | (simp; done)) rfl (by simp [Value.oneCell']) (by omega) hw6 ?_; intro v7 w7 hown7 hg7 hat7; have K7 := K6.app1 (x := ⟨dev, no, kind, tm, lane, time⟩) hown7 hg7 hat7; have hb7 := blk_grown hb6 hg7 (fun e => by have := hU1 _ e.symm; omega); have hw7 : w.heap.size ≤ w7.heap.size := K7.gr.size; have y0 := (blk_facts hb7).1 0; have y1 := (blk_facts hb7).1 1; have y2 := (blk_facts hb7).1 2; have y3 := (blk_facts hb7).1 3; have y4 := (blk_facts hb7).1 4; have y5 := (blk_facts hb7).1 5)))
        go_roundw
        case rel =>
          refine ⟨j + 1, ks2, by omega, by go_num, Lib.hid hk1'.out, ?_⟩
          rw [hA1'.out, hB1'.out]
          simpa [Nat.add_assoc] using K8
        case measure => simp [intOf]; omega
    · obtain rfl : j = n := by omega
      obtain ⟨A1, c1, rfl⟩ := own_shape K.o1
      obtain ⟨A2, c2, rfl⟩ := own_shape K.o2
      go_wp2
      go_ret2
      have hk9 : ks.map Prod.fst = l := by
        rw [hks.out, List.take_of_length_le (by rw [hlen.out]; exact Nat.le_refl _)]
      have l1 := hlA.out ks
      have l2 := hlB.out ks
      rw [hk9, hlen.out] at l1 l2
      exact ⟨ks, A1, c1, A2, c2, rfl, hk9, RN.of_own sgE_len K.o1 rfl (by omega), RN.of_own sgE_len K.o2 rfl (by omega), capOk_own K.o1, capOk_own K.o2, K.st, K.gr, fun i q hi hq e => K.dis i hi (e ▸ hq), own_row_lt K.o1, own_row_lt K.o2, K.o1, K.o2⟩
end Go.Proofs.YtjafcnblgeibpaaDoor
