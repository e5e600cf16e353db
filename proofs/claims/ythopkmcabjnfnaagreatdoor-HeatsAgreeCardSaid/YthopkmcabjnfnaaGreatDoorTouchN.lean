/- (*Stream).TouchOf: some touch. -/
import Derived.Test.YthopkmcabjnfnaaGreatDoorTouchM
import Derived.Deep.DeepCutAuto
import Derived.IntWalk
import Derived.Test.YthopkmcabjnfnaaGreatDoorRows2
namespace Go.Proofs.YthopkmcabjnfnaaGreatDoor
open Go.RowKit
set_option linter.unusedVariables false

--DEFS a
def C5 (g b : Nat) (bs : Int) (u : Value) (n : Nat) (j : Nat) (w : World) (v : Value) : Prop :=
  match j with
  | 0 | 9 => v = .pointer (some ⟨b, 2, none⟩)
  | 1 => v = u
  | 2 => v = .int .i64 bs
  | 3 => v = .pointer (some ⟨g, 0, none⟩)
  | 4 => ∃ (z : Nat) (l : List Int), v = .slice (some ⟨z, 0, none⟩) 5 5 ∧ u.ownBlock ≠ some z ∧ l.length = 5 ∧ w.heap[z]? = some (.cells (ints l).toArray 3 (0, 0))
  | 5 | 6 => ∃ x : Int, v = .int .i64 x
  | 7 => ∃ (z : Nat) (l : List Int), v = .slice (some ⟨z, 0, none⟩) 1 1 ∧ u.ownBlock ≠ some z ∧ l.length = 1 ∧ w.heap[z]? = some (.cells (ints l).toArray 3 (0, 0))
  | 8 => ∃ l', w.ownsRow (b + 1) 3 1 v (n + 1) (ints l')
  | _ => True
theorem C5.mono {g b : Nat} {bs : Int} {u : Value} {n : Nat} {w w1 : World} (hR : ∀ (z : Nat) (cs : Array Value), u.ownBlock ≠ some z → w.heap[z]? = some (.cells cs 3 (0, 0)) → w1.heap[z]? = some (.cells cs 3 (0, 0))) (hO : ∀ (v : Value) (l : List Int), w.ownsRow (b + 1) 3 1 v (n + 1) (ints l) → w1.ownsRow (b + 1) 3 1 v (n + 1) (ints l)) (j : Nat) (v : Value) (h : C5 g b bs u n j w v) : C5 g b bs u n j w1 v := by
  unfold C5 at h ⊢
  split at h <;> first | exact h | (obtain ⟨z, l, h1, h2, h3, h4⟩ := h; exact ⟨z, l, h1, h2, h3, hR _ _ h2 h4⟩) | (obtain ⟨l, h1⟩ := h; exact ⟨l, hO _ _ h1⟩)
theorem C5.mono2 {g b : Nat} {bs : Int} {u : Value} {n : Nat} {w w1 : World} (hR : ∀ (z : Nat) (cs : Array Value), u.ownBlock ≠ some z → w.heap[z]? = some (.cells cs 3 (0, 0)) → w1.heap[z]? = some (.cells cs 3 (0, 0))) (j : Nat) (v : Value) (hj : j ≠ 8) (h : C5 g b bs u n j w v) : C5 g b bs u n j w1 v := by
  unfold C5 at h ⊢
  split at h <;> first | exact h | (obtain ⟨z, l, h1, h2, h3, h4⟩ := h; exact ⟨z, l, h1, h2, h3, hR _ _ h2 h4⟩) | exact absurd rfl hj
def C12 (g b : Nat) (bs : Int) (u : Value) (n : Nat) (j : Nat) (w : World) (v : Value) : Prop :=
  match j with
  | 0 | 4 => v = .pointer (some ⟨g, 0, none⟩)
  | 2 | 11 => v = .pointer (some ⟨b, 2, none⟩)
  | 9 => v = .pointer (some ⟨b, 0, none⟩)
  | 3 => v = u
  | 1 | 6 => ∃ x : Int, v = .int .i64 x
  | 5 => ∃ (z : Nat) (l : List Int), v = .slice (some ⟨z, 0, none⟩) 3 3 ∧ u.ownBlock ≠ some z ∧ l.length = 3 ∧ w.heap[z]? = some (.cells (ints l).toArray 3 (0, 0))
  | 7 => ∃ (z : Nat) (l : List Int), v = .slice (some ⟨z, 0, none⟩) 1 1 ∧ u.ownBlock ≠ some z ∧ l.length = 1 ∧ w.heap[z]? = some (.cells (ints l).toArray 3 (0, 0))
  | 8 => ∃ l', w.ownsRow (b + 1) 3 1 v (n + 1) (ints l')
  | _ => True
theorem C12.mono {g b : Nat} {bs : Int} {u : Value} {n : Nat} {w w1 : World} (hR : ∀ (z : Nat) (cs : Array Value), u.ownBlock ≠ some z → w.heap[z]? = some (.cells cs 3 (0, 0)) → w1.heap[z]? = some (.cells cs 3 (0, 0))) (hO : ∀ (v : Value) (l : List Int), w.ownsRow (b + 1) 3 1 v (n + 1) (ints l) → w1.ownsRow (b + 1) 3 1 v (n + 1) (ints l)) (j : Nat) (v : Value) (h : C12 g b bs u n j w v) : C12 g b bs u n j w1 v := by
  unfold C12 at h ⊢
  split at h <;> first | exact h | (obtain ⟨z, l, h1, h2, h3, h4⟩ := h; exact ⟨z, l, h1, h2, h3, hR _ _ h2 h4⟩) | (obtain ⟨l, h1⟩ := h; exact ⟨l, hO _ _ h1⟩)
theorem C12.mono2 {g b : Nat} {bs : Int} {u : Value} {n : Nat} {w w1 : World} (hR : ∀ (z : Nat) (cs : Array Value), u.ownBlock ≠ some z → w.heap[z]? = some (.cells cs 3 (0, 0)) → w1.heap[z]? = some (.cells cs 3 (0, 0))) (j : Nat) (v : Value) (hj : j ≠ 8) (h : C12 g b bs u n j w v) : C12 g b bs u n j w1 v := by
  unfold C12 at h ⊢
  split at h <;> first | exact h | (obtain ⟨z, l, h1, h2, h3, h4⟩ := h; exact ⟨z, l, h1, h2, h3, hR _ _ h2 h4⟩) | exact absurd rfl hj
theorem TW.neb {w wx : World} {g r b : Nat} {zs : List Int} {u : Value} {n : Nat} {l : List Int} {K : Nat} {calls : List Nat} {ld ap sto : Nat} {listed : Array Bool} (h : TW w g r b zs u n l K calls ld ap sto listed wx) {z : Nat} {cs : Array Value} (hz : wx.heap[z]? = some (.cells cs 3 (0, 0))) : z ≠ b := by
  obtain ⟨p, q, t, h1, _, _⟩ := h.bx
  intro e
  subst e
  rw [hz] at h1
  injection h1 with h1
  injection h1 with _ h1
  exact absurd h1 (by decide)
--DEFS b
set_option maxHeartbeats 6400000 in
set_option maxRecDepth 100000 in
theorem touchOf_c (g : Nat) (zs : List Int) (k : Nat) (w : World) (h : St w g zs k) (hk : k + 100 ≤ 1099511627776) :
    Calls Tryz.prog 62 #[.pointer (some ⟨g, 0, none⟩)] w fun e w' => ∃ (x : Tc) (k' : Nat), e = .returned x.val ∧ RI 3 w' x.A x.n x.ws ∧ x.n ≤ 4 ∧ St w' g zs k' ∧ k' ≤ k + 60 ∧ w.grownBy w' (some g) := by
  have hglt := h.lt
  have s0 := h.alloc (.cells #[.int .i64 0, .int .i64 0, .slice none 0 0] 37)
  have r0 := heap_alloc_new w (.cells #[.int .i64 0, .int .i64 0, .slice none 0 0] 37)
  have g0 := grown_alloc (grown_refl w (some g)) (.cells #[.int .i64 0, .int .i64 0, .slice none 0 0] 37)
  go_enter Tryz.func62, Tryz.ntmps62
  go_wp2_with fail
  refine (pickB_c g zs _ [3000, 6000, 6012] 0 10000 3 _ _ _ _ s0 (by omega) (by first | rfl | (simp; done)) rfl rfl (by decide) (by decide) (by decide)).mono ?_; rintro e w1 ⟨bs, rfl, bs0, bs1, s1, g1⟩
  replace r0 := s0.keep g1 _ _ _ (0, 0) (by decide) r0
  replace g0 := grown_trans g0 g1
  clear s0 g1
  go_wp2_with fail
  refine (pickB_c g zs _ [0, 1, 29, 30, 31, 80, -40] (-40) 80 7 _ _ _ _ s1 (by omega) (by first | rfl | (simp; done)) rfl rfl (by decide) (by decide) (by decide)).mono ?_; rintro e w2 ⟨x0, rfl, x00, x01, s2, g2⟩
  replace r0 := s1.keep g2 _ _ _ (0, 0) (by decide) r0
  replace g0 := grown_trans g0 g2
  clear s1 g2
  have e1 : IntKind.i64.wrap (bs + x0) = bs + x0 := IntWalk.i64_in _ (by omega)
  go_wp2_with fail
  refine (pickB_c g zs _ [0, 5, 8, 40] 0 40 4 _ _ _ _ s2 (by omega) (by first | rfl | (simp; done)) rfl rfl (by decide) (by decide) (by decide)).mono ?_; rintro e w3 ⟨x1, rfl, x10, x11, s3, g3⟩
  replace r0 := s2.keep g3 _ _ _ (0, 0) (by decide) r0
  replace g0 := grown_trans g0 g3
  clear s2 g3
  have e2 : IntKind.i64.wrap (bs + x1) = bs + x1 := IntWalk.i64_in _ (by omega)
  have hD : D4 w g w.heap.size w3.heap.size zs (.slice none 0 0) 0 [] (k + 3) (bs + x0) (bs + x1) (w3.alloc (.cells #[.int .i64 (bs + x0), .int .i64 (bs + x1), .slice none 0 0] 37)) :=
    ⟨World.ownsRow_nil _ _ _ _, heap_alloc_new w3 _, blk_alloc r0 _, s3.alloc _, grown_alloc g0 _, hglt, lt_of_heap r0, Nat.le_refl _⟩
  clear r0 s3 g0
  generalize hb : w3.heap.size = b at *
  generalize hr : w.heap.size = r at *
  go_wp2_with fail
  refine (nextE_c g zs _ 4 _ hD.st (by omega) (by decide) (by decide)).mono ?_; rintro e w4 ⟨v, rfl, v0, v1, s4, g4⟩
  have hD4 := hD.stream s4 g4
  clear hD s4 g4
  obtain ⟨N, rfl⟩ : ∃ N : Nat, v = N := ⟨v.toNat, by omega⟩
  clear x00 x01 x10 x11 e1 e2
  generalize bs + x0 = p0 at *
  generalize bs + x1 = q0 at *
  go_wp2_with fail
  go_loopw [21] (fun i wr => ∃ (j k2 : Nat) (u : Value) (l : List Int) (p q : Int), j ≤ N ∧ i = .int .i64 j ∧ k2 ≤ k + 4 + 2 * j ∧ D4 w g r b zs u j l k2 p q wr) (fun i _ => N - (intOf i).toNat)
  case atStart => exact ⟨0, _, _, _, _, _, Nat.zero_le _, rfl, by omega, hD4⟩
  case round =>
    clear hD4
    obtain ⟨jj, k2, u, l, p, q, hj, rfl, hk2, hD⟩ := hrel
    by_cases hlt : jj < N
    · go_wp2_with fail
      --R5
      refine wp_region_inv (by kernel_rfl) (fun listed a w' => ∃ xs : Nat → Value, a = { tmps := #[Value.pointer (some { block := g, off := 0 }), undef, Value.pointer (some { block := r, off := 0 }), Value.int IntKind.i64 bs, Value.pointer (some { block := b, off := 0 }), Value.pointer (some { block := g, off := 0 }), Value.slice (some { block := r + 1, off := 0 }) 3 3, Value.int IntKind.i64 bs, Value.int IntKind.i64 bs, Value.pointer (some { block := g, off := 0 }), Value.slice (some { block := w1.heap.size, off := 0 }) 7 7, Value.int IntKind.i64 x0, Value.int IntKind.i64 p0, Value.int IntKind.i64 bs, Value.pointer (some { block := g, off := 0 }), Value.slice (some { block := w2.heap.size, off := 0 }) 4 4, Value.int IntKind.i64 x1, Value.int IntKind.i64 q0, Value.agg #[Value.int IntKind.i64 p0, Value.int IntKind.i64 q0, Value.slice none 0 0], Value.pointer (some { block := g, off := 0 }), Value.int IntKind.i64 ↑N, Value.int IntKind.i64 ↑jj, Value.bool true, xs 0, xs 1, xs 2, xs 3, xs 4, xs 5, xs 6, xs 7, xs 8, xs 9, u33, undef, undef, undef, undef, undef, undef, undef, undef, undef, undef, undef, undef, undef, undef, undef, undef, undef, undef, undef, undef], defers := [] } ∧ (∀ j, listed.getD j false = true → C5 g b bs u jj j w' (xs j)) ∧ TW w g r b zs u jj l (k2 + 2) [5] 1 8 10 listed w') ?h0 (AllOps.of ?hs) ?he
      case h0 => exact ⟨fun j => match j with | 0 => u23 | 1 => u24 | 2 => u25 | 3 => u26 | 4 => u27 | 5 => u28 | 6 => u29 | 7 => u30 | 8 => u31 | 9 => u32 | _ => undef, rfl, (fun j hj => by rw [rep_false] at hj; cases hj), TW.start hD (by simp)⟩
      case hs =>
        refine ⟨?_, ?_, ?_, ?_, ?_, ?_, ?_, ?_, ?_, ?_, ?_, trivial⟩
        · intro listed a w' hs hI h0 hd K' hK
          obtain ⟨xs, rfl, hC, hW⟩ := hI
          have hK2 := Lib.hid hK
          have hC2 := Lib.hid hC
          clear hd hK hC h0
          go_simp
          exact hK2.out _ _ ⟨updV xs 0 (.pointer (some ⟨b, 2, none⟩)), by simp [updV], cond_set hC2.out (fun _ _ h => h) rfl, hW.keep (by decide) (by decide) (by decide)⟩
        · intro listed a w' hs hI h0 hd K' hK
          obtain ⟨xs, rfl, hC, hW⟩ := hI
          have e0 : xs 0 = (.pointer (some ⟨b, 2, none⟩)) := hC 0 (hd ⟨0, .data⟩ (by simp) rfl)
          have hK2 := Lib.hid hK
          have hC2 := Lib.hid hC
          have c9 := hW.load h0
          clear hd hK hC h0
          go_simp
          exact hK2.out _ _ ⟨updV xs 1 (u), by simp [updV, e0], cond_set hC2.out (fun _ _ h => h) rfl, hW.keep (by decide) (by decide) (by decide)⟩
        · intro listed a w' hs hI h0 hd K' hK
          obtain ⟨xs, rfl, hC, hW⟩ := hI
          have hK2 := Lib.hid hK
          have hC2 := Lib.hid hC
          clear hd hK hC h0
          go_simp
          exact hK2.out _ _ ⟨updV xs 2 (.int .i64 bs), by simp [updV], cond_set hC2.out (fun _ _ h => h) rfl, hW.keep (by decide) (by decide) (by decide)⟩
        · intro listed a w' hs hI h0 hd K' hK
          obtain ⟨xs, rfl, hC, hW⟩ := hI
          have hK2 := Lib.hid hK
          have hC2 := Lib.hid hC
          clear hd hK hC h0
          go_simp
          exact hK2.out _ _ ⟨updV xs 3 (.pointer (some ⟨g, 0, none⟩)), by simp [updV], cond_set hC2.out (fun _ _ h => h) rfl, hW.keep (by decide) (by decide) (by decide)⟩
        · intro listed a w' hs hI h0 hd K' hK
          obtain ⟨xs, rfl, hC, hW⟩ := hI
          have hK2 := Lib.hid hK
          have hC2 := Lib.hid hC
          clear hd hK hC h0
          go_simp
          exact hK2.out _ _ ⟨updV xs 4 (.slice (some ⟨w'.heap.size, 0, none⟩) 5 5), by simp [updV], cond_set hC2.out (C5.mono (fun z cs _ h => blk_alloc h _) (fun v l h => h.alloc _)) ⟨w'.heap.size, [0, 3, 8, 9, 35], rfl, (fun e => by have := (hW.ua _ e).2; omega), rfl, heap_alloc_new w' _⟩, (hW.alloc _).keep (by decide) (by decide) (by decide)⟩
        · intro listed a w' hs hI h0 hd K' hK
          obtain ⟨xs, rfl, hC, hW⟩ := hI
          have e3 : xs 3 = (.pointer (some ⟨g, 0, none⟩)) := hC 3 (hd ⟨3, .data⟩ (by simp) rfl)
          obtain ⟨z4, l4, e4, ne4, hl4, hz4⟩ : ∃ (z : Nat) (l : List Int), xs 4 = .slice (some ⟨z, 0, none⟩) 5 5 ∧ u.ownBlock ≠ some z ∧ l.length = 5 ∧ w'.heap[z]? = some (.cells (ints l).toArray 3 (0, 0)) := hC 4 (hd ⟨4, .data⟩ (by simp) rfl)
          have hK2 := Lib.hid hK
          have hC2 := Lib.hid hC
          obtain ⟨k9, hk9, s9, hnx⟩ := hW.call h0 (by decide) (by decide) (by decide) (by decide)
          have hW9 := hW
          have r9 : RI 3 w' (some ⟨z4, 0, none⟩) 5 l4 := R1.of_lit hz4 rfl hl4 (by decide)
          clear h0
          clear hd hK hC
          go_simp
          refine (pickE_c g zs _ _ _ _ _ _ s9 (by omega) r9 (by decide)).mono ?_; rintro e w1 ⟨v, rfl, _, s10, g10⟩
          exact hK2.out _ _ ⟨updV xs 5 (.int .i64 v), by simp [updV, e3, e4], cond_set hC2.out (C5.mono (fun z cs _ h => s9.keep g10 z cs _ (0, 0) (by decide) h) (fun v l h => own_keep h (by have := hW9.hgr; have := hW9.hrb; omega) g10)) ⟨_, rfl⟩, hnx _ _ (by omega) s10 g10⟩
        · intro listed a w' hs hI h0 hd K' hK
          obtain ⟨xs, rfl, hC, hW⟩ := hI
          have e2 : xs 2 = (.int .i64 bs) := hC 2 (hd ⟨2, .data⟩ (by simp) rfl)
          obtain ⟨v5, e5⟩ : ∃ v : Int, xs 5 = .int .i64 v := hC 5 (hd ⟨5, .data⟩ (by simp) rfl)
          have hK2 := Lib.hid hK
          have hC2 := Lib.hid hC
          clear hd hK hC h0
          go_simp
          exact hK2.out _ _ ⟨updV xs 6 (.int .i64 (IntKind.i64.wrap (bs + v5))), by simp [updV, e2, e5], cond_set hC2.out (fun _ _ h => h) ⟨_, rfl⟩, hW.keep (by decide) (by decide) (by decide)⟩
        · intro listed a w' hs hI h0 hd K' hK
          obtain ⟨xs, rfl, hC, hW⟩ := hI
          obtain ⟨v6, e6⟩ : ∃ v : Int, xs 6 = .int .i64 v := hC 6 (hd ⟨6, .data⟩ (by simp) rfl)
          have hK2 := Lib.hid hK
          have hC2 := Lib.hid hC
          clear hd hK hC h0
          go_simp
          exact hK2.out _ _ ⟨updV xs 7 (.slice (some ⟨w'.heap.size, 0, none⟩) 1 1), by simp [updV, e6], cond_set hC2.out (C5.mono (fun z cs _ h => blk_alloc h _) (fun v l h => h.alloc _)) ⟨w'.heap.size, [v6], rfl, (fun e => by have := (hW.ua _ e).2; omega), rfl, heap_alloc_new w' _⟩, (hW.alloc _).keep (by decide) (by decide) (by decide)⟩
        · intro listed a w' hs hI h0 hd K' hK
          obtain ⟨xs, rfl, hC, hW⟩ := hI
          have e1 : xs 1 = u := hC 1 (hd ⟨1, .data⟩ (by simp) rfl)
          obtain ⟨z7, l7, e7, ne7, hl7, hz7⟩ : ∃ (z : Nat) (l : List Int), xs 7 = .slice (some ⟨z, 0, none⟩) 1 1 ∧ u.ownBlock ≠ some z ∧ l.length = 1 ∧ w'.heap[z]? = some (.cells (ints l).toArray 3 (0, 0)) := hC 7 (hd ⟨7, .data⟩ (by simp) rfl)
          obtain ⟨x9, rfl⟩ : ∃ x, l7 = [x] := List.length_eq_one_iff.1 hl7
          have how := hW.ow (getD_tf h0).1
          have hld : listed.getD 1 false = true := hd ⟨1, .data⟩ (by simp) rfl
          obtain ⟨i0, hi0, hz0, hz1, hz2⟩ := info_parts info_int
          refine step_append_lies _ (by rfl) _ _ _ (by rfl) (b + 1) 3 i0 _ 1 8 Tryz.underlying22 hi0 hz0 hz1 hz2 rfl (by omega) u (jj) (ints l) (by show xs 1 = u; exact e1) how ⟨z7, 0, none⟩ 1 1 [.int .i64 x9] (by show xs 7 = _; exact e7) (by rfl) (World.news_of_block (fr := (0, 0)) hz7) (by simp [Value.oneCell']) (by omega) (by unfold maxLen; omega) (by omega) hW.sz _ rfl ?_
          intro gg cap w7 hown7 hgrow hat hlt7
          exact hK _ _ ⟨updV xs 8 (.slice (some ⟨gg, 0, none⟩) (jj + 1) cap), by first | rfl | simp [updV, Act.put], cond_set2 hC (C5.mono2 (fun z cs hne h => blk_grown h hgrow (fun e => hne e.symm))) ⟨l ++ [x9], by rw [ints_app]; exact hown7⟩, hW.app h0 (by decide) (by decide) hld hgrow⟩
        · intro listed a w' hs hI h0 hd K' hK
          obtain ⟨xs, rfl, hC, hW⟩ := hI
          have hK2 := Lib.hid hK
          have hC2 := Lib.hid hC
          clear hd hK hC h0
          go_simp
          exact hK2.out _ _ ⟨updV xs 9 (.pointer (some ⟨b, 2, none⟩)), by simp [updV], cond_set hC2.out (fun _ _ h => h) rfl, hW.keep (by decide) (by decide) (by decide)⟩
        · intro listed a w' hs hI h0 hd K' hK
          obtain ⟨xs, rfl, hC, hW⟩ := hI
          obtain ⟨l8, h8⟩ : ∃ l', w'.ownsRow (b + 1) 3 1 (xs 8) (jj + 1) (ints l') := hC 8 (hd ⟨8, .data⟩ (by simp) rfl)
          have e9 : xs 9 = (.pointer (some ⟨b, 2, none⟩)) := hC 9 (hd ⟨9, .data⟩ (by simp) rfl)
          have hK2 := Lib.hid hK
          have hC2 := Lib.hid hC
          obtain ⟨f9, p9, q9, t9, c90, c91, c92⟩ := hW.free
          have f92 := f9 2
          obtain ⟨A8, c8, e8⟩ := own_shape h8
          rw [e8] at h8
          have hap : listed.getD 8 false = true := hd ⟨8, .data⟩ (by simp) rfl
          have hset := Lib.hid (hW.set2 h0 (by decide) (by decide) hap h8)
          clear hd hK hC h0
          go_simp
          exact hK2.out _ _ ⟨updV xs 10 (undef), by simp [updV, e9, e8], cond_set hC2.out (C5.mono (fun z cs _ h => blk_other h (p := ⟨b, 2, none⟩) (hW.neb h) _) (fun v l h => h.kept (row := some b) (grown_setCell (grown_refl _ _) (p := ⟨b, 2, none⟩) (.inl rfl) _) (.inr (own_above h (Nat.le_refl _))))) trivial, hset.out⟩
      case he =>
        intro listed a w' hs hI hr
        obtain ⟨xs, rfl, hC, hW⟩ := hI
        have hfin := all_listed hs hr ⟨rfl, rfl, rfl, rfl, rfl, rfl, rfl, rfl, rfl, rfl, rfl, trivial⟩ 10 (by simp)
        clear hC hs hr
        obtain ⟨p9, q9, t9, l9, k9, hk9, hD9⟩ := hW.fin hfin
        clear hW hfin
        go_wp2
        go_roundw
        case rel => exact ⟨jj + 1, k9, _, _, _, _, by omega, by go_num, by omega, hD9⟩
        case measure => simp [intOf]; omega
      --R5 end
    · obtain rfl : jj = N := by omega
      go_wp2_with fail
      refine (flipE_c g zs _ _ _ hD.st (by omega) (by omega) (by omega)).mono ?_; rintro e w5 ⟨fl, rfl, s5, g5⟩
      have hD5 := hD.stream s5 g5
      clear hD s5 g5
      go_upto_if 35 with (fail)
      go_cut [] (fun wx => ∃ p q, D4 w g r b zs u jj l (k2 + 1) p q wx)
      case first =>
        have z := (blk_facts (show w5.heap[b]? = some (.cells #[.int .i64 p, .int .i64 q, u] 37 (0, 0)) from hD5.bx)).1
        have f := (blk_facts (show w5.heap[b]? = some (.cells #[.int .i64 p, .int .i64 q, u] 37 (0, 0)) from hD5.bx)).2
        cases fl
        · go_wp2
          go_meet
          case rel => exact ⟨_, _, hD5⟩
        · have hD6 := Lib.hid (hD5.set 0 (.int .i64 0) (p' := 0) (q' := q) rfl)
          clear hD5
          go_wp2
          go_meet
          case rel => exact ⟨_, _, hD6.out⟩
      case rest =>
        clear hD5
        rename World => wx
        obtain ⟨p, q, hD⟩ := hcut
        go_wp2_with fail
        refine (flipE_c g zs _ _ _ hD.st (by omega) (by omega) (by omega)).mono ?_; rintro e w6 ⟨fl, rfl, s6, g6⟩
        have hD6 := hD.stream s6 g6
        clear hD s6 g6
        go_upto_if 38 with (fail)
        go_cut [] (fun wx => ∃ p q, D4 w g r b zs u jj l (k2 + 1 + 1) p q wx)
        case first =>
          have z := (blk_facts (show w6.heap[b]? = some (.cells #[.int .i64 p, .int .i64 q, u] 37 (0, 0)) from hD6.bx)).1
          have f := (blk_facts (show w6.heap[b]? = some (.cells #[.int .i64 p, .int .i64 q, u] 37 (0, 0)) from hD6.bx)).2
          cases fl
          · go_wp2
            go_meet
            case rel => exact ⟨_, _, hD6⟩
          · have hD7 := Lib.hid (hD6.set 1 (.int .i64 0) (p' := p) (q' := 0) rfl)
            clear hD6
            go_wp2
            go_meet
            case rel => exact ⟨_, _, hD7.out⟩
        case rest =>
          clear hD6
          rename World => wy
          obtain ⟨p, q, hD⟩ := hcut
          go_wp2_with fail
          refine (flipE_c g zs _ _ _ hD.st (by omega) (by omega) (by omega)).mono ?_; rintro e w7 ⟨fl, rfl, s7, g7⟩
          have hD7 := hD.stream s7 g7
          clear hD s7 g7
          go_upto_if 41 with (fail)
          go_cut [] (fun wx => ∃ (u : Value) (m k3 : Nat) (l : List Int) (p q : Int), m ≤ 4 ∧ k3 ≤ k2 + 20 ∧ D4 w g r b zs u m l k3 p q wx)
          case first =>
            cases fl
            · go_wp2
              go_meet
              case rel => exact ⟨_, _, _, _, _, _, by omega, by omega, hD7⟩
            · go_wp2_with fail
              --R12
              refine wp_region_inv (by kernel_rfl) (fun listed a w' => ∃ xs : Nat → Value, a = { tmps := #[Value.pointer (some { block := g, off := 0 }), undef, Value.pointer (some { block := r, off := 0 }), Value.int IntKind.i64 bs, Value.pointer (some { block := b, off := 0 }), u5, u6, u7, u8, u9, u10, u11, u12, u13, u14, u15, u16, u17, u18, u19, Value.int IntKind.i64 ↑jj, Value.int IntKind.i64 ↑jj, u22, u23, u24, u25, u26, u27, u28, u29, u30, u31, u32, u33, u34, u35, u36, u37, u38, u39, Value.pointer (some { block := g, off := 0 }), Value.bool true, xs 0, xs 1, xs 2, xs 3, xs 4, xs 5, xs 6, xs 7, xs 8, xs 9, xs 11, u53], defers := [] } ∧ (∀ j, listed.getD j false = true → C12 g b bs u jj j w' (xs j)) ∧ TW w g r b zs u jj l (k2 + 20) [1, 6] 3 8 12 listed w') ?h0 (AllOps.of ?hs) ?he
              case h0 => exact ⟨fun j => match j with | 0 => u42 | 1 => u43 | 2 => u44 | 3 => u45 | 4 => u46 | 5 => u47 | 6 => u48 | 7 => u49 | 8 => u50 | 9 => u51 | 11 => u52 | _ => undef, rfl, (fun j hj => by rw [rep_false] at hj; cases hj), TW.start hD7 (by first | (simp; done) | (simp; omega))⟩
              case hs =>
                refine ⟨?_, ?_, ?_, ?_, ?_, ?_, ?_, ?_, ?_, ?_, ?_, ?_, ?_, trivial⟩
                · intro listed a w' hs hI h0 hd K' hK
                  obtain ⟨xs, rfl, hC, hW⟩ := hI
                  have hK2 := Lib.hid hK
                  have hC2 := Lib.hid hC
                  clear hd hK hC h0
                  go_simp
                  exact hK2.out _ _ ⟨updV xs 0 (.pointer (some ⟨g, 0, none⟩)), by simp [updV], cond_set hC2.out (fun _ _ h => h) rfl, hW.keep (by decide) (by decide) (by decide)⟩
                · intro listed a w' hs hI h0 hd K' hK
                  obtain ⟨xs, rfl, hC, hW⟩ := hI
                  have e0 : xs 0 = (.pointer (some ⟨g, 0, none⟩)) := hC 0 (hd ⟨0, .data⟩ (by simp) rfl)
                  have hK2 := Lib.hid hK
                  have hC2 := Lib.hid hC
                  obtain ⟨k9, hk9, s9, hnx⟩ := hW.call h0 (by decide) (by decide) (by decide) (by decide)
                  have hW9 := hW
                  clear h0
                  clear hd hK hC
                  go_simp
                  refine (oddE_c g zs _ _ _ _ s9 (by omega) (by omega) (by omega) (by omega)).mono ?_; rintro e w1 ⟨v, rfl, _, _, s10, g10⟩
                  exact hK2.out _ _ ⟨updV xs 1 (.int .i64 v), by simp [updV, e0], cond_set hC2.out (C12.mono (fun z cs _ h => s9.keep g10 z cs _ (0, 0) (by decide) h) (fun v l h => own_keep h (by have := hW9.hgr; have := hW9.hrb; omega) g10)) ⟨_, rfl⟩, hnx _ _ (by omega) s10 g10⟩
                · intro listed a w' hs hI h0 hd K' hK
                  obtain ⟨xs, rfl, hC, hW⟩ := hI
                  have hK2 := Lib.hid hK
                  have hC2 := Lib.hid hC
                  clear hd hK hC h0
                  go_simp
                  exact hK2.out _ _ ⟨updV xs 2 (.pointer (some ⟨b, 2, none⟩)), by simp [updV], cond_set hC2.out (fun _ _ h => h) rfl, hW.keep (by decide) (by decide) (by decide)⟩
                · intro listed a w' hs hI h0 hd K' hK
                  obtain ⟨xs, rfl, hC, hW⟩ := hI
                  have e2 : xs 2 = (.pointer (some ⟨b, 2, none⟩)) := hC 2 (hd ⟨2, .data⟩ (by simp) rfl)
                  have hK2 := Lib.hid hK
                  have hC2 := Lib.hid hC
                  have c9 := hW.load h0
                  clear hd hK hC h0
                  go_simp
                  exact hK2.out _ _ ⟨updV xs 3 (u), by simp [updV, e2], cond_set hC2.out (fun _ _ h => h) rfl, hW.keep (by decide) (by decide) (by decide)⟩
                · intro listed a w' hs hI h0 hd K' hK
                  obtain ⟨xs, rfl, hC, hW⟩ := hI
                  have hK2 := Lib.hid hK
                  have hC2 := Lib.hid hC
                  clear hd hK hC h0
                  go_simp
                  exact hK2.out _ _ ⟨updV xs 4 (.pointer (some ⟨g, 0, none⟩)), by simp [updV], cond_set hC2.out (fun _ _ h => h) rfl, hW.keep (by decide) (by decide) (by decide)⟩
                · intro listed a w' hs hI h0 hd K' hK
                  obtain ⟨xs, rfl, hC, hW⟩ := hI
                  have hK2 := Lib.hid hK
                  have hC2 := Lib.hid hC
                  clear hd hK hC h0
                  go_simp
                  exact hK2.out _ _ ⟨updV xs 5 (.slice (some ⟨w'.heap.size, 0, none⟩) 3 3), by simp [updV], cond_set hC2.out (C12.mono (fun z cs _ h => blk_alloc h _) (fun v l h => h.alloc _)) ⟨w'.heap.size, [0, 1, 360001], rfl, (fun e => by have := (hW.ua _ e).2; omega), rfl, heap_alloc_new w' _⟩, (hW.alloc _).keep (by decide) (by decide) (by decide)⟩
                · intro listed a w' hs hI h0 hd K' hK
                  obtain ⟨xs, rfl, hC, hW⟩ := hI
                  have e4 : xs 4 = (.pointer (some ⟨g, 0, none⟩)) := hC 4 (hd ⟨4, .data⟩ (by simp) rfl)
                  obtain ⟨z5, l5, e5, ne5, hl5, hz5⟩ : ∃ (z : Nat) (l : List Int), xs 5 = .slice (some ⟨z, 0, none⟩) 3 3 ∧ u.ownBlock ≠ some z ∧ l.length = 3 ∧ w'.heap[z]? = some (.cells (ints l).toArray 3 (0, 0)) := hC 5 (hd ⟨5, .data⟩ (by simp) rfl)
                  have hK2 := Lib.hid hK
                  have hC2 := Lib.hid hC
                  obtain ⟨k9, hk9, s9, hnx⟩ := hW.call h0 (by decide) (by decide) (by decide) (by decide)
                  have hW9 := hW
                  have r9 : RI 3 w' (some ⟨z5, 0, none⟩) 3 l5 := R1.of_lit hz5 rfl hl5 (by decide)
                  clear h0
                  clear hd hK hC
                  go_simp
                  refine (pickE_c g zs _ _ _ _ _ _ s9 (by omega) r9 (by decide)).mono ?_; rintro e w1 ⟨v, rfl, _, s10, g10⟩
                  exact hK2.out _ _ ⟨updV xs 6 (.int .i64 v), by simp [updV, e4, e5], cond_set hC2.out (C12.mono (fun z cs _ h => s9.keep g10 z cs _ (0, 0) (by decide) h) (fun v l h => own_keep h (by have := hW9.hgr; have := hW9.hrb; omega) g10)) ⟨_, rfl⟩, hnx _ _ (by omega) s10 g10⟩
                · intro listed a w' hs hI h0 hd K' hK
                  obtain ⟨xs, rfl, hC, hW⟩ := hI
                  obtain ⟨v6, e6⟩ : ∃ v : Int, xs 6 = .int .i64 v := hC 6 (hd ⟨6, .data⟩ (by simp) rfl)
                  have hK2 := Lib.hid hK
                  have hC2 := Lib.hid hC
                  clear hd hK hC h0
                  go_simp
                  exact hK2.out _ _ ⟨updV xs 7 (.slice (some ⟨w'.heap.size, 0, none⟩) 1 1), by simp [updV, e6], cond_set hC2.out (C12.mono (fun z cs _ h => blk_alloc h _) (fun v l h => h.alloc _)) ⟨w'.heap.size, [v6], rfl, (fun e => by have := (hW.ua _ e).2; omega), rfl, heap_alloc_new w' _⟩, (hW.alloc _).keep (by decide) (by decide) (by decide)⟩
                · intro listed a w' hs hI h0 hd K' hK
                  obtain ⟨xs, rfl, hC, hW⟩ := hI
                  have e3 : xs 3 = u := hC 3 (hd ⟨3, .data⟩ (by simp) rfl)
                  obtain ⟨z7, l7, e7, ne7, hl7, hz7⟩ : ∃ (z : Nat) (l : List Int), xs 7 = .slice (some ⟨z, 0, none⟩) 1 1 ∧ u.ownBlock ≠ some z ∧ l.length = 1 ∧ w'.heap[z]? = some (.cells (ints l).toArray 3 (0, 0)) := hC 7 (hd ⟨7, .data⟩ (by simp) rfl)
                  obtain ⟨x9, rfl⟩ : ∃ x, l7 = [x] := List.length_eq_one_iff.1 hl7
                  have how := hW.ow (getD_tf h0).1
                  have hld : listed.getD 3 false = true := hd ⟨3, .data⟩ (by simp) rfl
                  obtain ⟨i0, hi0, hz0, hz1, hz2⟩ := info_parts info_int
                  refine step_append_lies _ (by rfl) _ _ _ (by rfl) (b + 1) 3 i0 _ 1 8 Tryz.underlying22 hi0 hz0 hz1 hz2 rfl (by omega) u (jj) (ints l) (by show xs 3 = u; exact e3) how ⟨z7, 0, none⟩ 1 1 [.int .i64 x9] (by show xs 7 = _; exact e7) (by rfl) (World.news_of_block (fr := (0, 0)) hz7) (by simp [Value.oneCell']) (by omega) (by unfold maxLen; omega) (by omega) hW.sz _ rfl ?_
                  intro gg cap w7 hown7 hgrow hat hlt7
                  exact hK _ _ ⟨updV xs 8 (.slice (some ⟨gg, 0, none⟩) (jj + 1) cap), by first | rfl | simp [updV, Act.put], cond_set2 hC (C12.mono2 (fun z cs hne h => blk_grown h hgrow (fun e => hne e.symm))) ⟨l ++ [x9], by rw [ints_app]; exact hown7⟩, hW.app h0 (by decide) (by decide) hld hgrow⟩
                · intro listed a w' hs hI h0 hd K' hK
                  obtain ⟨xs, rfl, hC, hW⟩ := hI
                  have hK2 := Lib.hid hK
                  have hC2 := Lib.hid hC
                  clear hd hK hC h0
                  go_simp
                  exact hK2.out _ _ ⟨updV xs 9 (.pointer (some ⟨b, 0, none⟩)), by simp [updV], cond_set hC2.out (fun _ _ h => h) rfl, hW.keep (by decide) (by decide) (by decide)⟩
                · intro listed a w' hs hI h0 hd K' hK
                  obtain ⟨xs, rfl, hC, hW⟩ := hI
                  obtain ⟨v1, e1⟩ : ∃ v : Int, xs 1 = .int .i64 v := hC 1 (hd ⟨1, .data⟩ (by simp) rfl)
                  have e9 : xs 9 = (.pointer (some ⟨b, 0, none⟩)) := hC 9 (hd ⟨9, .data⟩ (by simp) rfl)
                  have hK2 := Lib.hid hK
                  have hC2 := Lib.hid hC
                  obtain ⟨f9, p9, q9, t9, c90, c91, c92⟩ := hW.free
                  have f90 := f9 0
                  clear hd hK hC h0
                  go_simp
                  exact hK2.out _ _ ⟨updV xs 10 (undef), by simp [updV, e1, e9], cond_set hC2.out (C12.mono (fun z cs _ h => blk_other h (p := ⟨b, 0, none⟩) (hW.neb h) _) (fun v l h => h.kept (row := some b) (grown_setCell (grown_refl _ _) (p := ⟨b, 0, none⟩) (.inl rfl) _) (.inr (own_above h (Nat.le_refl _))))) trivial, hW.set0 (by decide) (by decide) (by decide) _⟩
                · intro listed a w' hs hI h0 hd K' hK
                  obtain ⟨xs, rfl, hC, hW⟩ := hI
                  have hK2 := Lib.hid hK
                  have hC2 := Lib.hid hC
                  clear hd hK hC h0
                  go_simp
                  exact hK2.out _ _ ⟨updV xs 11 (.pointer (some ⟨b, 2, none⟩)), by simp [updV], cond_set hC2.out (fun _ _ h => h) rfl, hW.keep (by decide) (by decide) (by decide)⟩
                · intro listed a w' hs hI h0 hd K' hK
                  obtain ⟨xs, rfl, hC, hW⟩ := hI
                  obtain ⟨l8, h8⟩ : ∃ l', w'.ownsRow (b + 1) 3 1 (xs 8) (jj + 1) (ints l') := hC 8 (hd ⟨8, .data⟩ (by simp) rfl)
                  have e11 : xs 11 = (.pointer (some ⟨b, 2, none⟩)) := hC 11 (hd ⟨11, .data⟩ (by simp) rfl)
                  have hK2 := Lib.hid hK
                  have hC2 := Lib.hid hC
                  obtain ⟨f9, p9, q9, t9, c90, c91, c92⟩ := hW.free
                  have f92 := f9 2
                  obtain ⟨A8, c8, e8⟩ := own_shape h8
                  rw [e8] at h8
                  have hap : listed.getD 8 false = true := hd ⟨8, .data⟩ (by simp) rfl
                  have hset := Lib.hid (hW.set2 h0 (by decide) (by decide) hap h8)
                  clear hd hK hC h0
                  go_simp
                  exact hK2.out _ _ ⟨updV xs 12 (undef), by simp [updV, e11, e8], cond_set hC2.out (C12.mono (fun z cs _ h => blk_other h (p := ⟨b, 2, none⟩) (hW.neb h) _) (fun v l h => h.kept (row := some b) (grown_setCell (grown_refl _ _) (p := ⟨b, 2, none⟩) (.inl rfl) _) (.inr (own_above h (Nat.le_refl _))))) trivial, hset.out⟩
              case he =>
                intro listed a w' hs hI hr
                obtain ⟨xs, rfl, hC, hW⟩ := hI
                have hfin := all_listed hs hr ⟨rfl, rfl, rfl, rfl, rfl, rfl, rfl, rfl, rfl, rfl, rfl, rfl, rfl, trivial⟩ 12 (by simp)
                clear hC hs hr
                obtain ⟨p9, q9, t9, l9, k9, hk9, hD9⟩ := hW.fin hfin
                clear hW hfin
                go_wp2
                go_meet
                case rel => exact ⟨_, _, _, _, _, _, by omega, by omega, hD9⟩
              --R12 end
          case rest =>
            clear hD7
            rename World => wz
            obtain ⟨u, m, k3, l, p, q, hm, hk3, hD⟩ := hcut
            obtain ⟨A, c, rfl⟩ := own_shape hD.o
            have z := (blk_facts (show wz.heap[b]? = some (.cells #[.int .i64 p, .int .i64 q, .slice A m c] 37 (0, 0)) from hD.bx)).1
            have zr := (blk_facts (show wz.heap[r]? = some (.cells #[.int .i64 0, .int .i64 0, .slice none 0 0] 37 (0, 0)) from hD.rs)).1
            have fr := (blk_facts (show wz.heap[r]? = some (.cells #[.int .i64 0, .int .i64 0, .slice none 0 0] 37 (0, 0)) from hD.rs)).2
            have hG := Lib.hid (grown_setCell (grown_setCell (grown_setCell (grown_refl wz (some r)) (p := ⟨r, 0, none⟩) (.inl rfl) (.int .i64 p)) (p := ⟨r, 1, none⟩) (.inl rfl) (.int .i64 q)) (p := ⟨r, 2, none⟩) (.inl rfl) (.slice A m c))
            have hrb := hD.hrb
            have hgr := hD.hgr
            have hwr := hD.hwr
            go_wp2
            refine bodyPost_ret (v := .agg #[.int .i64 p, .int .i64 q, .slice A m c]) (by simp [results, Tryz.results62, go_sem, zr]) rfl ⟨⟨p, q, A, m, c, l⟩, k3, rfl, ?_, hm, ?_, by omega, ?_⟩
            · exact R1.of_own (hD.o.kept hG.out (.inr (own_above hD.o (by omega)))) (by show m ≤ 140737488355328; omega)
            · exact hD.st.grown hG.out (fun i hi => by injection hi with hi; omega)
            · exact grown_own hD.gr hG.out (fun i hi => by injection hi with hi; omega)
end Go.Proofs.YthopkmcabjnfnaaGreatDoor
