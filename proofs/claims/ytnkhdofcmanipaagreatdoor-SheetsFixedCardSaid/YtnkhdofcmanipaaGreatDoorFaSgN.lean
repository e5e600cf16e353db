import Derived.Test.YtnkhdofcmanipaaGreatDoorFaMkReg
import Derived.Test.YtnkhdofcmanipaaGreatDoorFaSigD
import Derived.Test.YtnkhdofcmanipaaGreatDoorFaSortS
/- The stream's signals: the closure put. Printed by wip/gensigm.py. -/
namespace Go.Proofs.YtnkhdofcmanipaaGreatDoor
open Go.RowKit Go.Shelf Go.Lib Go.Sort
open Go.Maps (Keyed string_keyed)
open Go.WideMaps (keyOf_string_mk)
set_option linter.unusedVariables false

theorem sgK : EncK sgE [0, 1, 1, 1, 1, 1] := by
  refine ⟨fun _ => rfl, fun x c hc => ?_, fun x c v hc hv => ?_⟩
  · match c, hc with
    | 0, _ => exact ⟨_, rfl, _, rfl⟩
    | 1, _ => exact ⟨_, rfl, _, rfl⟩
    | 2, _ => exact ⟨_, rfl, _, rfl⟩
    | 3, _ => exact ⟨_, rfl, _, rfl⟩
    | 4, _ => exact ⟨_, rfl, _, rfl⟩
    | 5, _ => exact ⟨_, rfl, _, rfl⟩
  · match c, hc, hv with
    | 0, _, ⟨y, h⟩ => subst h; exact ⟨⟨y, x.no, x.kind, x.tm, x.lane, x.time⟩, rfl⟩
    | 1, _, ⟨y, h⟩ => subst h; exact ⟨⟨x.dev, y, x.kind, x.tm, x.lane, x.time⟩, rfl⟩
    | 2, _, ⟨y, h⟩ => subst h; exact ⟨⟨x.dev, x.no, y, x.tm, x.lane, x.time⟩, rfl⟩
    | 3, _, ⟨y, h⟩ => subst h; exact ⟨⟨x.dev, x.no, x.kind, y, x.lane, x.time⟩, rfl⟩
    | 4, _, ⟨y, h⟩ => subst h; exact ⟨⟨x.dev, x.no, x.kind, x.tm, y, x.time⟩, rfl⟩
    | 5, _, ⟨y, h⟩ => subst h; exact ⟨⟨x.dev, x.no, x.kind, x.tm, x.lane, y⟩, rfl⟩
theorem mi_ne {w : World} {b n : Nat} {D : DataW Unit} (h : MI w b n D) {z : Nat} {cs : Array Value} {e : TypeId} (hz : w.heap[z]? = some (.cells cs e (0, 0))) : z ≠ b := by
  obtain ⟨es, clock, hb, _⟩ := h
  intro e2; subst e2
  rw [hz] at hb; cases hb
/-- where the captured variables lie -/
structure SO (w : World) (g p1 p2 pm p3 base : Nat) : Prop where
  g0 : g < w.heap.size
  o1 : w.heap.size ≤ p1
  o2 : p1 < p2
  o3 : p2 < pm
  o4 : pm < p3
  o5 : p3 < base
  o6 : base ≤ p3 + 1
/-- signals under way -/
structure SK (w : World) (g : Nat) (zs : Zs) (p1 p2 pm p3 base : Nat) (u : Value) (acc : List Sg) (kk q : Nat) (wr : World) : Prop where
  st : St wr g zs kk
  b1 : wr.heap[p1]? = some (.cells #[.pointer (some ⟨g, 0, none⟩)] 23 (0, 0))
  b2 : wr.heap[p2]? = some (.cells #[u] 78 (0, 0))
  b3 : wr.heap[p3]? = some (.cells #[.map (some pm)] 106 (0, 0))
  mp : ∃ D, MI wr pm q D
  own : wr.ownsRow base 89 6 u acc.length (acc.flatMap sgE)
  gr : w.grownBy wr (some g)
section
variable {w wr w' : World} {g : Nat} {zs : Zs} {p1 p2 pm p3 base : Nat} {u : Value} {acc : List Sg} {kk q : Nat}
theorem SK.grown (hO : SO w g p1 p2 pm p3 base) (h : SK w g zs p1 p2 pm p3 base u acc kk q wr) {k1 : Nat} (s : St w' g zs k1) (hg : wr.grownBy w' (some g)) : SK w g zs p1 p2 pm p3 base u acc k1 q w' := by
  obtain ⟨g0, o1, o2, o3, o4, o5, o6⟩ := hO
  obtain ⟨D, hm⟩ := h.mp
  exact ⟨s, blk_grown h.b1 hg (fun e => by injection e; omega), blk_grown h.b2 hg (fun e => by injection e; omega), blk_grown h.b3 hg (fun e => by injection e; omega), ⟨D, hm.kept hg (fun e => by injection e; omega)⟩, own_keep h.own (by omega) hg, grown_trans h.gr hg⟩
theorem SK.below (h : SK w g zs p1 p2 pm p3 base u acc kk q wr) (hB : Below wr.heap.size wr w') : SK w g zs p1 p2 pm p3 base u acc kk q w' := by
  obtain ⟨D, hm⟩ := h.mp
  exact ⟨h.st.below hB, blk_below h.b1 hB, blk_below h.b2 hB, blk_below h.b3 hB, ⟨D, hm.kept (row := none) (grown_of_below hB) (by simp)⟩, own_below h.own hB, grown_trans h.gr (grown_of_below hB)⟩
theorem SK.alloc (h : SK w g zs p1 p2 pm p3 base u acc kk q wr) (o : Obj) : SK w g zs p1 p2 pm p3 base u acc kk q (wr.alloc o) := h.below (below_new wr o)
theorem SK.drew (h : SK w g zs p1 p2 pm p3 base u acc kk q wr) : SK w g zs p1 p2 pm p3 base u acc kk q wr.drew := h.below (below_drewN (Below.refl _ _) 1)
/-- a block of the call's own, above the others, is written -/
theorem SK.other (hO : SO w g p1 p2 pm p3 base) (h : SK w g zs p1 p2 pm p3 base u acc kk q wr) {z : Nat} {cs : Array Value} {e : TypeId} (hz : wr.heap[z]? = some (.cells cs e (0, 0))) (hb : p3 < z) (hn : u.ownBlock = none ∨ u.ownBlock ≠ some z) (hg : wr.grownBy w' (some z)) : SK w g zs p1 p2 pm p3 base u acc kk q w' := by
  obtain ⟨g0, o1, o2, o3, o4, o5, o6⟩ := hO
  obtain ⟨D, hm⟩ := h.mp
  exact ⟨h.st.grown hg (fun i e => by injection e; omega), blk_grown h.b1 hg (fun e => by injection e; omega), blk_grown h.b2 hg (fun e => by injection e; omega), blk_grown h.b3 hg (fun e => by injection e; omega), ⟨D, hm.kept hg (fun e => by injection e; omega)⟩, h.own.kept hg hn, grown_own h.gr hg (fun i e => by injection e; omega)⟩
theorem SK.mput (hO : SO w g p1 p2 pm p3 base) (h : SK w g zs p1 p2 pm p3 base u acc kk q wr) {q2 : Nat} {D : DataW Unit} (hm : MI w' pm q2 D) (hg : wr.grownBy w' (some pm)) : SK w g zs p1 p2 pm p3 base u acc kk q2 w' := by
  obtain ⟨g0, o1, o2, o3, o4, o5, o6⟩ := hO
  exact ⟨h.st.grown hg (fun i e => by injection e; omega), blk_grown h.b1 hg (fun e => by injection e; omega), blk_grown h.b2 hg (fun e => by injection e; omega), blk_grown h.b3 hg (fun e => by injection e; omega), ⟨D, hm⟩, h.own.kept hg (by
    cases hv : u.ownBlock with
    | none => exact .inl rfl
    | some b => exact .inr (fun e => by have := own_row_lt h.own b hv; injection e; omega)), grown_own h.gr hg (fun i e => by injection e; omega)⟩
theorem SK.mapq (h : SK w g zs p1 p2 pm p3 base u acc kk q wr) {q2 : Nat} (hq : q ≤ q2) : SK w g zs p1 p2 pm p3 base u acc kk q2 wr := by
  obtain ⟨D, hm⟩ := h.mp
  exact ⟨h.st, h.b1, h.b2, h.b3, ⟨D, hm.mono hq⟩, h.own, h.gr⟩
theorem SK.app (hO : SO w g p1 p2 pm p3 base) (h : SK w g zs p1 p2 pm p3 base u acc kk q wr) {v' : Value} {x : Sg} (ho : w'.ownsRow base 89 6 v' (acc.length + 1) (acc.flatMap sgE ++ sgE x)) (hg : wr.grownBy w' u.ownBlock) : SK w g zs p1 p2 pm p3 base v' (acc ++ [x]) kk q (w'.setCell ⟨p2, 0, none⟩ v') := by
  obtain ⟨g0, o1, o2, o3, o4, o5, o6⟩ := hO
  obtain ⟨D, hm⟩ := h.mp
  have hu : ∀ i, u.ownBlock = some i → base ≤ i := own_row_lt h.own
  have h1 := blk_grown h.b1 hg (fun e => by have := hu _ e.symm; omega)
  have h2 := blk_grown h.b2 hg (fun e => by have := hu _ e.symm; omega)
  have h3 := blk_grown h.b3 hg (fun e => by have := hu _ e.symm; omega)
  have hg2 : w'.grownBy (w'.setCell ⟨p2, 0, none⟩ v') (some p2) := grown_setCell (grown_refl w' _) (p := ⟨p2, 0, none⟩) (.inl rfl) v'
  have ho2 : w'.ownsRow base 89 6 v' (acc ++ [x]).length ((acc ++ [x]).flatMap sgE) := by rw [← flat_snoc, List.length_append]; exact ho
  refine ⟨(h.st.grown hg (fun i e => by have := hu i e; omega)).setAt (b := p2) (o := 0) (by omega) v', blk_grown h1 hg2 (fun e => by injection e; omega), ?_, blk_grown h3 hg2 (fun e => by injection e; omega), ⟨D, (hm.kept hg (fun e => by have := hu _ e.symm; omega)).kept hg2 (fun e => by injection e; omega)⟩, ho2.kept hg2 (by
    cases hv : v'.ownBlock with
    | none => exact .inl rfl
    | some b => exact .inr (fun e => by have := own_row_lt ho2 b hv; injection e; omega)), grown_own (grown_own h.gr hg (fun i e => by have := hu i e; omega)) hg2 (fun i e => by injection e; omega)⟩
  rw [blk_set h2]; rfl
end
set_option maxHeartbeats 3200000 in
set_option maxRecDepth 100000 in
theorem sigPut_c (w : World) (g : Nat) (zs : Zs) (p1 p2 pm p3 base : Nat) (hO : SO w g p1 p2 pm p3 base) (u : Value) (acc : List Sg) (kk q : Nat) (x : Sg) (hx : x.dev.size ≤ 100) (wr : World) (h : SK w g zs p1 p2 pm p3 base u acc kk q wr) (hk : kk + 10 ≤ 1099511627776) (hq : q ≤ 1000) (hn : acc.length ≤ 1000) :
    Calls Tryz.prog 72 #[x.val, .pointer (some ⟨p3, 0, none⟩), .pointer (some ⟨p1, 0, none⟩), .pointer (some ⟨p2, 0, none⟩)] wr fun e w' => e = .returned (.tuple #[]) ∧ ∃ (u' : Value) (y : Sg) (kk' : Nat), SK w g zs p1 p2 pm p3 base u' (acc ++ [y]) kk' (q + 1) w' ∧ kk' ≤ kk + 2 ∧ y.kind = x.kind := by
  obtain ⟨dev, no, kd, tm, ln, time⟩ := x
  dsimp only [Sg.val] at *
  have hO' := hO
  obtain ⟨g0, o1, o2, o3, o4, o5, o6⟩ := hO'
  have hz3 := lt_of_heap h.b3
  have hsz := hx
  go_enter Tryz.func72, Tryz.ntmps72
  go_wp2_with fail
  have hz0 := heap_alloc_new wr (.cells #[.string dev, .int .i64 no, .int .i64 kd, .int .i64 tm, .int .i64 ln, .int .i64 time] 89)
  have K0 := h.alloc (.cells #[.string dev, .int .i64 no, .int .i64 kd, .int .i64 tm, .int .i64 ln, .int .i64 time] 89)
  have hlu : u.ownBlock = none ∨ u.ownBlock ≠ some wr.heap.size := by
    cases hv : u.ownBlock with
    | none => exact .inl rfl
    | some b => exact .inr (fun e => by have := (h.own.lt b hv).2; injection e; omega)
  generalize wr.alloc (.cells #[.string dev, .int .i64 no, .int .i64 kd, .int .i64 tm, .int .i64 ln, .int .i64 time] 89) = w1 at *
  generalize hzz : wr.heap.size = z at *
  clear h hx
  have hXa : ∀ kk q (w2 : World) (o : Obj), (fun kk q w' => SK w g zs p1 p2 pm p3 base u acc kk q w' ∧ w'.heap[z]? = some (.cells #[.string dev, .int .i64 no, .int .i64 kd, .int .i64 tm, .int .i64 ln, .int .i64 time] 89 (0, 0))) kk q w2 → (fun kk q w' => SK w g zs p1 p2 pm p3 base u acc kk q w' ∧ w'.heap[z]? = some (.cells #[.string dev, .int .i64 no, .int .i64 kd, .int .i64 tm, .int .i64 ln, .int .i64 time] 89 (0, 0))) kk q (w2.alloc o) := fun kk q w2 o ⟨h1, h2⟩ => ⟨h1.alloc o, blk_alloc h2 o⟩
  have hXt : ∀ kk q (w2 : World), (fun kk q w' => SK w g zs p1 p2 pm p3 base u acc kk q w' ∧ w'.heap[z]? = some (.cells #[.string dev, .int .i64 no, .int .i64 kd, .int .i64 tm, .int .i64 ln, .int .i64 time] 89 (0, 0))) kk q w2 → St w2 g zs kk := fun kk q w2 h => h.1.st
  have hXs : ∀ kk q (w2 w3 : World) k1, (fun kk q w' => SK w g zs p1 p2 pm p3 base u acc kk q w' ∧ w'.heap[z]? = some (.cells #[.string dev, .int .i64 no, .int .i64 kd, .int .i64 tm, .int .i64 ln, .int .i64 time] 89 (0, 0))) kk q w2 → St w3 g zs k1 → w2.grownBy w3 (some g) → (fun kk q w' => SK w g zs p1 p2 pm p3 base u acc kk q w' ∧ w'.heap[z]? = some (.cells #[.string dev, .int .i64 no, .int .i64 kd, .int .i64 tm, .int .i64 ln, .int .i64 time] 89 (0, 0))) k1 q w3 := fun kk q w2 w3 k1 ⟨h1, h2⟩ s hg => ⟨h1.grown hO s hg, blk_grown h2 hg (fun e => by injection e; omega)⟩
  refine wp_region_inv (by kernel_rfl) (fun listed a w' => ∃ xs : Nat → Value, a = { tmps := #[.agg #[.string dev, .int .i64 no, .int .i64 kd, .int .i64 tm, .int .i64 ln, .int .i64 time], .pointer (some ⟨p3, 0, none⟩), .pointer (some ⟨p1, 0, none⟩), .pointer (some ⟨p2, 0, none⟩), .pointer (some ⟨z, 0, none⟩), xs 0, xs 1, xs 2, xs 3, xs 4, xs 5, xs 6, xs 7, undef, undef, undef, undef, undef, undef, undef, undef, undef], defers := [] } ∧ (∀ j, listed.getD j false = true → CT 3 9 89 sgE [.val (.map (some pm)), .val (.pointer (some ⟨z, 0, none⟩)), .val (.string dev), .num, .val (.pointer (some ⟨g, 0, none⟩)), .intsB 4 1 2, .int 1 2, .int (-9223372036854775808) 9223372036854775807, .any] j w' (xs j)) ∧ GW (fun kk q w' => SK w g zs p1 p2 pm p3 base u acc kk q w' ∧ w'.heap[z]? = some (.cells #[.string dev, .int .i64 no, .int .i64 kd, .int .i64 tm, .int .i64 ln, .int .i64 time] 89 (0, 0))) (kk + 2) [6] (q + 1) [8] listed w') ?h0 (AllOps.of ?hs) ?he
  case h0 => exact ⟨fun j => match j with | 0 => undef | 1 => undef | 2 => undef | 3 => undef | 4 => undef | 5 => undef | 6 => undef | 7 => undef | _ => undef, rfl, (fun j hj => by rw [rep_false] at hj; cases hj), GW.start ⟨K0.drew, hz0⟩ (Nat.le_refl _) (Nat.le_refl _)⟩
  case hs =>
    refine ⟨?_, ?_, ?_, ?_, ?_, ?_, ?_, ?_, ?_, trivial⟩
    · intro listed a w' hs hI h0 hd K' hK
      obtain ⟨xs, rfl, hC, hW⟩ := hI
      have hK2 := Lib.hid hK
      have hC2 := Lib.hid hC
      have hW9 := hW
      obtain ⟨kk9, q9, hX9, _, _⟩ := hW9
      have c9 := (blk_facts hX9.1.b3).1 0
      clear hd hK hC h0
      go_simp
      exact hK2.out _ _ ⟨updV xs 0 (.map (some pm)), by simp [updV], cond_set hC2.out (fun _ _ h => h) rfl, hW.keep (by decide) (by decide)⟩
    · intro listed a w' hs hI h0 hd K' hK
      obtain ⟨xs, rfl, hC, hW⟩ := hI
      have hK2 := Lib.hid hK
      have hC2 := Lib.hid hC
      clear hd hK hC h0
      go_simp
      exact hK2.out _ _ ⟨updV xs 1 (.pointer (some ⟨z, 0, none⟩)), by simp [updV], cond_set hC2.out (fun _ _ h => h) rfl, hW.keep (by decide) (by decide)⟩
    · intro listed a w' hs hI h0 hd K' hK
      obtain ⟨xs, rfl, hC, hW⟩ := hI
      have e1 : xs 1 = (.pointer (some ⟨z, 0, none⟩)) := hC 1 (hd ⟨1, .data⟩ (by simp) rfl)
      have hK2 := Lib.hid hK
      have hC2 := Lib.hid hC
      have hW9 := hW
      obtain ⟨kk9, q9, hX9, _, _⟩ := hW9
      have c9 := (blk_facts hX9.2).1 0
      clear hd hK hC h0
      go_simp
      exact hK2.out _ _ ⟨updV xs 2 (.string dev), by simp [updV, e1], cond_set hC2.out (fun _ _ h => h) rfl, hW.keep (by decide) (by decide)⟩
    · intro listed a w' hs hI h0 hd K' hK
      obtain ⟨xs, rfl, hC, hW⟩ := hI
      have e0 : xs 0 = (.map (some pm)) := hC 0 (hd ⟨0, .data⟩ (by simp) rfl)
      have e2 : xs 2 = (.string dev) := hC 2 (hd ⟨2, .data⟩ (by simp) rfl)
      have hK2 := Lib.hid hK
      have hC2 := Lib.hid hC
      have hW9 := hW
      obtain ⟨kk9, q9, hX9, _, _⟩ := hW9
      obtain ⟨D9, hD9⟩ := hX9.1.mp
      obtain ⟨x9, hrun9, _⟩ := mi_lookup hD9 dev (by unfold maxLen; omega)
      clear hd hK hC h0
      go_simp
      exact hK2.out _ _ ⟨updV xs 3 (.int .i64 x9), by simp [updV, e0, e2], cond_set hC2.out (fun _ _ h => h) ⟨_, rfl⟩, hW.keep (by decide) (by decide)⟩
    · intro listed a w' hs hI h0 hd K' hK
      obtain ⟨xs, rfl, hC, hW⟩ := hI
      have hK2 := Lib.hid hK
      have hC2 := Lib.hid hC
      have hW9 := hW
      obtain ⟨kk9, q9, hX9, _, _⟩ := hW9
      have c9 := (blk_facts hX9.1.b1).1 0
      clear hd hK hC h0
      go_simp
      exact hK2.out _ _ ⟨updV xs 4 (.pointer (some ⟨g, 0, none⟩)), by simp [updV], cond_set hC2.out (fun _ _ h => h) rfl, hW.keep (by decide) (by decide)⟩
    · intro listed a w' hs hI h0 hd K' hK
      obtain ⟨xs, rfl, hC, hW⟩ := hI
      have hK2 := Lib.hid hK
      have hC2 := Lib.hid hC
      clear hd hK hC h0
      go_simp
      exact hK2.out _ _ ⟨updV xs 5 (.slice (some ⟨w'.heap.size, 0, none⟩) 4 4), by simp [updV], cond_set hC2.out (fun j v h => Sat.alloc _ _ _ h) ⟨w'.heap.size, [1, 1, 1, 2], rfl, rfl, (fun x hx => by simp at hx; omega), heap_alloc_new w' _⟩, ((GW.alloc hXa hW _).keep (by decide) (by decide))⟩
    · intro listed a w' hs hI h0 hd K' hK
      obtain ⟨xs, rfl, hC, hW⟩ := hI
      have e4 : xs 4 = (.pointer (some ⟨g, 0, none⟩)) := hC 4 (hd ⟨4, .data⟩ (by simp) rfl)
      obtain ⟨z5, l5, e5, hl5, hb5, hz5⟩ : ∃ (z : Nat) (l : List Int), xs 5 = .slice (some ⟨z, 0, none⟩) 4 4 ∧ l.length = 4 ∧ (∀ x ∈ l, 1 ≤ x ∧ x ≤ 2) ∧ w'.heap[z]? = some (.cells (ints l).toArray 3 (0, 0)) := hC 5 (hd ⟨5, .data⟩ (by simp) rfl)
      have hK2 := Lib.hid hK
      have hC2 := Lib.hid hC
      obtain ⟨k9, s9, hk9, hnx⟩ := GW.call hXt hXs hW h0 (by decide) (by decide) (by decide)
      have r9 : RI 3 w' (some ⟨z5, 0, none⟩) 4 l5 := R1.of_lit hz5 rfl hl5 (by decide)
      clear h0
      clear hd hK hC
      go_simp
      refine (pickE_c g zs _ _ _ _ _ _ s9 (by omega) r9 (by decide)).mono ?_; rintro e w1 ⟨v, rfl, hv9, s10, g10⟩
      exact hK2.out _ _ ⟨updV xs 6 (.int .i64 v), by simp [updV, e4, e5], cond_set hC2.out (fun j v h => Sat.stream (s9.keep g10) (by decide) (by decide) (by decide) _ _ h) ⟨v, rfl, hb5 v hv9⟩, hnx _ _ (by omega) s10 g10⟩
    · intro listed a w' hs hI h0 hd K' hK
      obtain ⟨xs, rfl, hC, hW⟩ := hI
      obtain ⟨v3, e3⟩ : ∃ v : Int, xs 3 = .int .i64 v := hC 3 (hd ⟨3, .data⟩ (by simp) rfl)
      obtain ⟨v6, e6, a6, b6⟩ : ∃ v : Int, xs 6 = .int .i64 v ∧ 1 ≤ v ∧ v ≤ 2 := hC 6 (hd ⟨6, .data⟩ (by simp) rfl)
      have hK2 := Lib.hid hK
      have hC2 := Lib.hid hC
      clear hd hK hC h0
      go_simp
      exact hK2.out _ _ ⟨updV xs 7 (.int .i64 (IntKind.i64.wrap (v3 + v6))), by simp [updV, e3, e6], cond_set hC2.out (fun _ _ h => h) ⟨_, rfl, (wrap_bd _).1, (wrap_bd _).2⟩, hW.keep (by decide) (by decide)⟩
    · intro listed a w' hs hI h0 hd K' hK
      obtain ⟨xs, rfl, hC, hW⟩ := hI
      have e0 : xs 0 = (.map (some pm)) := hC 0 (hd ⟨0, .data⟩ (by simp) rfl)
      have e2 : xs 2 = (.string dev) := hC 2 (hd ⟨2, .data⟩ (by simp) rfl)
      obtain ⟨v7, e7, a7, b7⟩ : ∃ v : Int, xs 7 = .int .i64 v ∧ (-9223372036854775808) ≤ v ∧ v ≤ 9223372036854775807 := hC 7 (hd ⟨7, .data⟩ (by simp) rfl)
      have hK2 := Lib.hid hK
      have hC2 := Lib.hid hC
      obtain ⟨k9, q9, hX9, hQ9, hnx⟩ := hW.up h0 (by decide) (by decide) (by decide)
      obtain ⟨D9, hD9⟩ := hX9.1.mp
      obtain ⟨w9, hrun9, r1, r2⟩ := hD9.update (string_keyed Tryz.underlying9) Tryz.underlying106 (key := .string dev) (val := .int .i64 v7) (by unfold maxLen; omega) (keyOf_string_mk Tryz.underlying9 (by unfold maxLen; omega)) (plainElem_int Tryz.underlying3 (by simp [Lit.wf, IntKind.min, IntKind.max, IntKind.signed, IntKind.bits]; omega))
      clear h0
      clear hd hK hC
      go_simp
      exact hK2.out _ _ ⟨updV xs 8 (undef), by simp [updV, e0, e2, e7], cond_set hC2.out (fun j v h => Sat.blocks (fun z cs e _ hz => blk_grown hz r2 (fun e => mi_ne hD9 hz (by injection e))) _ _ h) trivial, hnx _ ⟨hX9.1.mput hO r1 r2, blk_grown hX9.2 r2 (fun e => mi_ne hD9 hX9.2 (by injection e))⟩⟩
  case he =>
    intro listed a w' hs hI hr
    obtain ⟨xs, rfl, hC, hW⟩ := hI
    clear hC hs hr
    obtain ⟨k9, q9, ⟨K9, hz9⟩, hk9, hq9⟩ := hW
    obtain ⟨D9, hD9⟩ := K9.mp
    obtain ⟨nv, hrun, _⟩ := mi_lookup hD9 dev (by unfold maxLen; omega)
    have c3 := (blk_facts K9.b3).1 0
    have c2 := (blk_facts K9.b2).1 0
    have z0 := (blk_facts hz9).1 0
    have fz := (blk_facts hz9).2 1
    have z1 := (blk_facts hz9).1 1
    have hzn := blk_set hz9 1 (.int .i64 nv)
    have Kn := K9.other hO hz9 hz3 hlu (w' := w'.setCell ⟨z, 1, none⟩ (.int .i64 nv)) (grown_setCell (grown_refl w' _) (p := ⟨z, 1, none⟩) (.inl rfl) _)
    have n2 := (blk_facts Kn.b2).1 0
    have y0 := (blk_facts hzn).1 0
    have y1 := (blk_facts hzn).1 1
    have y2 := (blk_facts hzn).1 2
    have y3 := (blk_facts hzn).1 3
    have y4 := (blk_facts hzn).1 4
    have y5 := (blk_facts hzn).1 5
    have how := Lib.hid Kn.own
    have hb0 : base ≤ (w'.setCell ⟨z, 1, none⟩ (.int .i64 nv)).heap.size := by
      have := lt_of_heap hzn
      omega
    clear hzn
    go_wp2_with (at_builtin; refine wpList_app rfl (.tmp 18) (.tmp 20) 78 rfl Tryz.underlying78 info_signal rfl (by omega) (by omega) how.out rfl rfl (by first | rfl | (simp; done)) (by rfl) (by simp [Value.oneCell']) (by omega) hb0 ?_; intro v7 w7 hown7 hg7; obtain ⟨A7, c7, rfl⟩ := own_shape hown7; have h72 := blk_grown Kn.b2 hg7 (fun e => by have := own_row_lt Kn.own _ e.symm; omega); have d2 := (blk_facts h72).1 0; have e2 := (blk_facts h72).2 0)
    have KF := Kn.app hO (x := ⟨dev, nv, kd, tm, ln, time⟩) hown7 hg7
    go_end0
    exact ⟨rfl, _, _, _, KF.mapq (by omega), by omega, rfl⟩

end Go.Proofs.YtnkhdofcmanipaaGreatDoor

/- The stream's signals. Printed by wip/gensgn.py. -/
namespace Go.Proofs.YtnkhdofcmanipaaGreatDoor
open Go.RowKit Go.Shelf Go.Lib Go.Sort
open Go.Maps (Keyed string_keyed)
open Go.WideMaps (keyOf_string_mk)
set_option linter.unusedVariables false

/-- a signal of a device with a short name -/
abbrev SgS : Type := { x : Sg // x.dev.size ≤ 100 }
def sgS (x : SgS) : List Value := [.string x.1.dev, .int .i64 x.1.no, .int .i64 x.1.kind, .int .i64 x.1.tm, .int .i64 x.1.lane, .int .i64 x.1.time]
theorem sgSK : EncK sgS [3, 1, 1, 1, 1, 1] := by
  refine ⟨fun _ => rfl, fun x c hc => ?_, fun x c v hc hv => ?_⟩
  · match c, hc with
    | 0, _ => exact ⟨_, rfl, _, rfl, x.2⟩
    | 1, _ => exact ⟨_, rfl, _, rfl⟩
    | 2, _ => exact ⟨_, rfl, _, rfl⟩
    | 3, _ => exact ⟨_, rfl, _, rfl⟩
    | 4, _ => exact ⟨_, rfl, _, rfl⟩
    | 5, _ => exact ⟨_, rfl, _, rfl⟩
  · match c, hc, hv with
    | 0, _, ⟨y, h, hy⟩ => subst h; exact ⟨⟨⟨y, x.1.no, x.1.kind, x.1.tm, x.1.lane, x.1.time⟩, hy⟩, rfl⟩
    | 1, _, ⟨y, h⟩ => subst h; exact ⟨⟨⟨x.1.dev, y, x.1.kind, x.1.tm, x.1.lane, x.1.time⟩, x.2⟩, rfl⟩
    | 2, _, ⟨y, h⟩ => subst h; exact ⟨⟨⟨x.1.dev, x.1.no, y, x.1.tm, x.1.lane, x.1.time⟩, x.2⟩, rfl⟩
    | 3, _, ⟨y, h⟩ => subst h; exact ⟨⟨⟨x.1.dev, x.1.no, x.1.kind, y, x.1.lane, x.1.time⟩, x.2⟩, rfl⟩
    | 4, _, ⟨y, h⟩ => subst h; exact ⟨⟨⟨x.1.dev, x.1.no, x.1.kind, x.1.tm, y, x.1.time⟩, x.2⟩, rfl⟩
    | 5, _, ⟨y, h⟩ => subst h; exact ⟨⟨⟨x.1.dev, x.1.no, x.1.kind, x.1.tm, x.1.lane, y⟩, x.2⟩, rfl⟩
theorem sgDev_c (x y : Sg) (W : World) : Calls Tryz.prog 74 (#[.agg (sgE x).toArray, .agg (sgE y).toArray] ++ #[]) W fun e w' => e = .returned (.int .i64 (cmpB x.dev y.dev)) ∧ Below W.heap.size W w' ∧ W.drawn ≤ w'.drawn := by
  have hS := Lib.hid (fun W => show Calls Tryz.prog 75 #[.string x.dev, .string y.dev] W fun e w' => e = .returned (.int .i64 (cmpB x.dev y.dev)) ∧ W = w' from (Tryz.strings_Compare x.dev y.dev W).mono fun _ _ ⟨h1, h2⟩ => ⟨h1, h2.symm⟩)
  obtain ⟨a, b, c, d, f, t⟩ := x
  obtain ⟨a', b', c', d', f', t'⟩ := y
  dsimp only [sgE] at *
  generalize cmpB a a' = u at *
  have hb0 := heap_alloc_new W (.cells #[.string a, .int .i64 b, .int .i64 c, .int .i64 d, .int .i64 f, .int .i64 t] 89)
  have hb1 := blk_alloc hb0 (.cells #[.string a', .int .i64 b', .int .i64 c', .int .i64 d', .int .i64 f', .int .i64 t'] 89)
  have hb2 := heap_alloc_new (W.alloc (.cells #[.string a, .int .i64 b, .int .i64 c, .int .i64 d, .int .i64 f, .int .i64 t] 89)) (.cells #[.string a', .int .i64 b', .int .i64 c', .int .i64 d', .int .i64 f', .int .i64 t'] 89)
  rw [alloc_sizeS] at hb2
  have hBB := below_box (below_box (Below.refl ((W.alloc (.cells #[.string a, .int .i64 b, .int .i64 c, .int .i64 d, .int .i64 f, .int .i64 t] 89)).alloc (.cells #[.string a', .int .i64 b', .int .i64 c', .int .i64 d', .int .i64 f', .int .i64 t'] 89)).heap.size _))
  have hD : ((W.alloc (.cells #[.string a, .int .i64 b, .int .i64 c, .int .i64 d, .int .i64 f, .int .i64 t] 89)).alloc (.cells #[.string a', .int .i64 b', .int .i64 c', .int .i64 d', .int .i64 f', .int .i64 t'] 89)).drawn = W.drawn := rfl
  have z0 := (blk_facts hb1).1 0
  have y0 := (blk_facts hb2).1 0
  go_enter Tryz.func74, Tryz.ntmps74
  go_wp2_with (go_at_call 75; refine (hS.out _).mono ?_; rintro e w' ⟨rfl, rfl⟩)
  go_ret
  exact ⟨rfl, hBB, by rw [hD]; exact Nat.le_refl _⟩
theorem sgDf_iff (x y : Sg) : ltOf (fun x y : Sg => cmpB x.dev y.dev) x y = true ↔ cmpB x.dev y.dev < 0 := by
  have e : ltOf (fun x y : Sg => cmpB x.dev y.dev) x y = decide (cmpB x.dev y.dev < 0) := rfl
  rw [e, decide_eq_true_iff]
theorem sgDf_no (x y : Sg) : ltOf (fun x y : Sg => cmpB x.dev y.dev) x y = false ↔ ¬ cmpB x.dev y.dev < 0 := by
  rw [← sgDf_iff, Bool.not_eq_true]
theorem sgDfSWO : SWO (ltOf (fun x y : Sg => cmpB x.dev y.dev)) := by
  refine ⟨fun x => ?_, fun x y z => ?_, fun x y z => ?_⟩
  · rw [sgDf_no]
    have h := (@cmpB_zero x.dev x.dev).2 rfl
    omega
  · rw [sgDf_iff, sgDf_iff, sgDf_iff]
    exact fun h1 h2 => cmpB_trans h1 h2
  · rw [sgDf_no, sgDf_no, sgDf_no]
    intro h1 h2 h3
    by_cases e1 : x.dev = y.dev
    · rw [e1] at h3
      exact h2 h3
    · by_cases e2 : y.dev = z.dev
      · rw [← e2] at h3
        exact h1 h3
      · have a1 : cmpB x.dev y.dev ≠ 0 := fun h => e1 (cmpB_zero.1 h)
        have a2 : cmpB y.dev z.dev ≠ 0 := fun h => e2 (cmpB_zero.1 h)
        have b1 : cmpB y.dev x.dev < 0 := cmpB_neg.2 (by omega)
        have b2 : cmpB z.dev y.dev < 0 := cmpB_neg.2 (by omega)
        have b3 := cmpB_neg.1 (cmpB_trans b2 b1)
        omega
/-- there is a signal of a start -/
def HasS (l : List Sg) : Prop := ∃ x ∈ l, x.kind = 1
theorem HasS.app {l : List Sg} (h : HasS l) (y : Sg) : HasS (l ++ [y]) := by
  obtain ⟨x, hx, e⟩ := h
  exact ⟨x, List.mem_append_left _ hx, e⟩
theorem HasS.ins {l : List Sg} (h : HasS l) : HasS (insL (ltOf (fun x y : Sg => cmpB x.dev y.dev)) l) := by
  obtain ⟨x, hx, e⟩ := h
  exact ⟨x, ((insL_spec sgDfSWO l).1.symm.subset hx), e⟩
/-- MW1, and an element of the row is a start -/
def MW1k {α : Type} (w0 : World) (g : Nat) (zs : Zs) (TB : TypeId) (enc : α → List Value) (s base b n c : Nat) (K : Nat) (calls : List Nat) (listed : Array Bool) (w' : World) : Prop :=
  MW1 w0 g zs TB enc s base b n c K calls listed w' ∧ ∃ q0, q0 < n ∧ w'.cell? ⟨b, q0 * s + 2, none⟩ = some (.int .i64 1)
section
variable {α : Type} {w0 w' w1 : World} {g K i s base b n c : Nat} {zs : Zs} {calls : List Nat} {listed : Array Bool} {TB : TypeId} {enc : α → List Value} {ks : List Nat}
theorem flat6 (l : List Sg) (k : Nat) (x : Sg) (h : l[k]? = some x) : (l.flatMap sgE)[k * 6 + 2]? = some (.int .i64 x.kind) := (flat_atC sgE_len l k 2 x h (by decide)).trans rfl
theorem MW1k.start {k m : Nat} {l : List Sg} (hh : HasS l) (h : St w0 g zs k) (ho : w0.ownsRow base TB 6 (.slice (some ⟨b, 0, none⟩) n c) n (l.flatMap sgE)) (hl : l.length = n) (hK : k + 2 * calls.length ≤ K) : MW1k w0 g zs TB sgE 6 base b n c K calls (Array.replicate m false) w0.drew := by
  refine ⟨MW1.start h ho hl hK, ?_⟩
  obtain ⟨x, hx, e⟩ := hh
  obtain ⟨q, hq, rfl⟩ := List.getElem_of_mem hx
  have hq' : l[q]? = some l[q] := List.getElem?_eq_getElem hq
  refine ⟨q, by omega, ?_⟩
  have h2 : w0.cell? ⟨b, q * 6 + 2, none⟩ = some (.int .i64 1) := by
    rw [ho.cellAt _ (by omega), flat6 l q _ hq', e]
  exact h2
theorem MW1k.keep (h : MW1k w0 g zs TB enc s base b n c K calls listed w') (hi : i ∉ calls) : MW1k w0 g zs TB enc s base b n c K calls (listed.setIfInBounds i true) w' := ⟨h.1.keep hi, h.2⟩
theorem MW1k.alloc (h : MW1k w0 g zs TB enc s base b n c K calls listed w') (o : Obj) : MW1k w0 g zs TB enc s base b n c K calls listed (w'.alloc o) := by
  refine ⟨h.1.alloc o, ?_⟩
  obtain ⟨q, hq, hc⟩ := h.2
  exact ⟨q, hq, (World.cell?_of_block (Below.heap_alloc w' o b (World.block_lt_of_cell? w' _ hc))).trans hc⟩
theorem MW1k.call (hgb : g < base) (h : MW1k w0 g zs TB enc s base b n c K calls listed w') (h0 : listed.getD i true = false) (hi : i ∈ calls) (hn : calls.Nodup) : ∃ kk, St w' g zs kk ∧ kk + 2 ≤ K ∧ ∀ w1 k1, k1 ≤ kk + 2 → St w1 g zs k1 → w'.grownBy w1 (some g) → MW1k w0 g zs TB enc s base b n c K calls (listed.setIfInBounds i true) w1 := by
  obtain ⟨kk, a1, a2, a3⟩ := MW1.call hgb h.1 h0 hi hn
  obtain ⟨q, hq, hc⟩ := h.2
  have hb : base ≤ b := by
    obtain ⟨_, _, _, ho, _⟩ := h.1
    exact (ho.lt b rfl).1
  refine ⟨kk, a1, a2, fun w1 k1 b1 b2 b3 => ⟨a3 w1 k1 b1 b2 b3, q, hq, ?_⟩⟩
  exact (World.cell?_of_block (b3.block b (World.block_lt_of_cell? w' _ hc) (fun e => by injection e; omega))).trans hc
theorem MW1k.cell (h : MW1k w0 g zs TB enc s base b n c K calls listed w') {p : Addr} {v : Value} (hc : w0.cell? p = some v) (hne : p.block ≠ g) (hnb : p.block ≠ b) : w'.cell? p = some v := h.1.cell hc hne hnb
theorem MW1k.blk (h : MW1k w0 g zs TB enc s base b n c K calls listed w') : ∃ cs, w'.heap[b]? = some (.cells cs TB (0, 0)) := h.1.blk
theorem MW1k.load (hE : EncK enc ks) (hs : ks.length = s) (h : MW1k w0 g zs TB enc s base b n c K calls listed w') {q d : Nat} (hq : q < n) (hd : d < s) : ∃ v, w'.cell? ⟨b, q * s + d, none⟩ = some v ∧ okK (ks.getD d 9) v ∧ w'.frozen? ⟨b, q * s + d, none⟩ = false := MW1.load hE hs h.1 hq hd
theorem MW1k.store (hE : EncK enc ks) (hs : ks.length = s) (hgb : g < base) (h : MW1k w0 g zs TB enc s base b n c K calls listed w') {q d : Nat} (hq : q < n) (hd : d < s) {v : Value} (hv : okK (ks.getD d 9) v) (h6 : s = 6 := by rfl) (hd2 : d ≠ 2 := by decide) : MW1k w0 g zs TB enc s base b n c K calls listed (w'.setCell ⟨b, q * s + d, none⟩ v) := by
  refine ⟨MW1.store hE hs hgb h.1 hq hd hv, ?_⟩
  obtain ⟨q0, hq0, hc⟩ := h.2
  refine ⟨q0, hq0, ?_⟩
  subst h6
  exact (World.cell?_setCell_other w' _ _ v (by intro e; injection e with e1 e2 e3; omega)).trans hc
theorem MW1k.out {w : World} {g K base b n c : Nat} {zs : Zs} {calls : List Nat} {listed : Array Bool} {TB : TypeId} (h : MW1k w0 g zs TB sgE 6 base b n c K calls listed w') (hgr : w.grownBy w0 (some g)) (hb : w.heap.size ≤ base) : ∃ (kk : Nat) (l : List Sg), St w' g zs kk ∧ w'.ownsRow base TB 6 (.slice (some ⟨b, 0, none⟩) n c) n (l.flatMap sgE) ∧ l.length = n ∧ w.grownBy w' (some g) ∧ kk ≤ K ∧ HasS l := by
  obtain ⟨kk, l, a1, a2, a3, a4, a5⟩ := h.1.out hgr hb
  obtain ⟨q0, hq0, hc⟩ := h.2
  refine ⟨kk, l, a1, a2, a3, a4, a5, ?_⟩
  obtain ⟨x, hx⟩ := at_of_lt (l := l) (k := q0) (by omega)
  rw [a2.cellAt _ (by omega), flat6 l q0 x hx] at hc
  refine ⟨x, List.mem_of_getElem? hx, ?_⟩
  injection hc with hc
  injection hc
end
def sgDf (x y : Sg) : Int := cmpB x.dev y.dev
theorem sgSortM_c (l : List Sg) (w : World) (base n : Nat) (u : Value) (hown : w.ownsRow base 89 6 u n (l.flatMap sgE)) (hn : n ≤ 19) :
    Calls Tryz.prog 73 #[u, .func (.func 74) #[] #[]] w fun e w' => e = .returned (.tuple #[]) ∧ w'.ownsRow base 89 6 u n ((insL (ltOf sgDf) l).flatMap sgE) ∧ w.grownBy w' u.ownBlock := by
  obtain ⟨A, c, rfl⟩ := own_shape hown
  have hlen := own_len sgE_len (by decide) hown
  rcases Nat.eq_zero_or_pos n with h0 | hp
  · subst h0
    have hl : l = [] := List.eq_nil_of_length_eq_zero hlen
    subst hl
    refine (sgSort0_c A c _ w).mono ?_
    rintro e w' ⟨rfl, rfl⟩
    have h9 : insL (ltOf sgDf) ([] : List Sg) = [] := List.eq_nil_of_length_eq_zero (by rw [insL_len]; rfl)
    exact ⟨rfl, by rw [h9]; exact hown, grown_refl _ _⟩
  obtain ⟨gb, rfl, hgb⟩ := own_someN hown hp
  have eg : ∀ args w, (callFunc 74 args).run Tryz.prog w = .ok (.enter 74 args) w := enters_of Tryz.func74 (by kernel_rfl) rfl
  refine (sgSort_c sgE sgE_len (fun x v hv => by simp [sgE] at hv; rcases hv with rfl | rfl | rfl | rfl | rfl | rfl <;> rfl) sgDf _ _ eg base gb n c l w (fun m os dk hdk x y => ?_) hown hn).mono ?_
  · exact (sgDev_c x y _).mono fun _ _ ⟨he, hB, hD⟩ => ⟨he, grow_of hB hD⟩
  · rintro e w' ⟨rfl, ho, hg⟩
    exact ⟨rfl, ho, hg⟩
/-- what Signals hands back -/
def RetSg (w : World) (g : Nat) (zs : Zs) (k : Nat) (e : Ending) (w' : World) : Prop := ∃ (A : Option Addr) (n c : Nat) (l : List Sg) (k' : Nat), e = .returned (.slice A n c) ∧ w'.ownsRow w.heap.size 89 6 (.slice A n c) n (l.flatMap sgE) ∧ l.length = n ∧ 1 ≤ n ∧ n ≤ 18 ∧ St w' g zs k' ∧ k' ≤ k + 300 ∧ w.grownBy w' (some g)
/-- .. with a start among them -/
def RetSgH (w : World) (g : Nat) (zs : Zs) (k : Nat) (e : Ending) (w' : World) : Prop := ∃ (A : Option Addr) (n c : Nat) (l : List Sg) (k' : Nat), e = .returned (.slice A n c) ∧ w'.ownsRow w.heap.size 89 6 (.slice A n c) n (l.flatMap sgE) ∧ l.length = n ∧ 1 ≤ n ∧ n ≤ 18 ∧ St w' g zs k' ∧ k' ≤ k + 300 ∧ w.grownBy w' (some g) ∧ HasS l
set_option maxHeartbeats 6400000 in
set_option maxRecDepth 100000 in
theorem signalsH_c (g : Nat) (zs : Zs) (k : Nat) (w : World) (h : St w g zs k) (hk : k + 400 ≤ 1099511627776) :
    Calls Tryz.prog 34 #[.pointer (some ⟨g, 0, none⟩)] w (RetSgH w g zs k) := by
  have hmm := @run_makeMap Tryz.prog
  have hglt := h.lt
  have z1 : (w.alloc (.cells #[.pointer (some ⟨g, 0, none⟩)] 23)).heap.size = w.heap.size + 1 := by simp
  have z2 : ((w.alloc (.cells #[.pointer (some ⟨g, 0, none⟩)] 23)).alloc (.cells #[.slice none 0 0] 78)).heap.size = w.heap.size + 1 + 1 := by simp
  have z3 : (((w.alloc (.cells #[.pointer (some ⟨g, 0, none⟩)] 23)).alloc (.cells #[.slice none 0 0] 78)).alloc (.map #[] 0)).heap.size = w.heap.size + 1 + 1 + 1 := by simp
  have z4 : ((((w.alloc (.cells #[.pointer (some ⟨g, 0, none⟩)] 23)).alloc (.cells #[.slice none 0 0] 78)).alloc (.map #[] 0)).alloc (.cells #[.map (some (w.heap.size + 1 + 1))] 106)).heap.size = w.heap.size + 1 + 1 + 1 + 1 := by simp
  have K0 : SK w g zs w.heap.size (w.heap.size + 1) (w.heap.size + 1 + 1) (w.heap.size + 1 + 1 + 1) (w.heap.size + 1 + 1 + 1 + 1) (.slice none 0 0) [] k 0 ((((w.alloc (.cells #[.pointer (some ⟨g, 0, none⟩)] 23)).alloc (.cells #[.slice none 0 0] 78)).alloc (.map #[] 0)).alloc (.cells #[.map (some (w.heap.size + 1 + 1))] 106)) :=
    ⟨(((h.alloc _).alloc _).alloc _).alloc _, blk_alloc (blk_alloc (blk_alloc (heap_alloc_new w _) _) _) _, blk_alloc (blk_alloc (z1 ▸ heap_alloc_new (w.alloc (.cells #[.pointer (some ⟨g, 0, none⟩)] 23)) (.cells #[.slice none 0 0] 78)) _) _, z3 ▸ heap_alloc_new (((w.alloc (.cells #[.pointer (some ⟨g, 0, none⟩)] 23)).alloc (.cells #[.slice none 0 0] 78)).alloc (.map #[] 0)) (.cells #[.map (some (w.heap.size + 1 + 1))] 106), ⟨_, (z2 ▸ mi_new ((w.alloc (.cells #[.pointer (some ⟨g, 0, none⟩)] 23)).alloc (.cells #[.slice none 0 0] 78))).alloc _⟩, World.ownsRow_nil _ _ _ _, grown_alloc (grown_alloc (grown_alloc (grown_alloc (grown_refl w _) _) _) _) _⟩
  have hO : SO w g w.heap.size (w.heap.size + 1) (w.heap.size + 1 + 1) (w.heap.size + 1 + 1 + 1) (w.heap.size + 1 + 1 + 1 + 1) := ⟨hglt, Nat.le_refl _, by omega, by omega, by omega, by omega, by omega⟩
  clear z1 z2 z3
  go_enter Tryz.func34, Tryz.ntmps34
  go_wp2_with fail
  generalize ((((w.alloc (.cells #[.pointer (some ⟨g, 0, none⟩)] 23)).alloc (.cells #[.slice none 0 0] 78)).alloc (.map #[] 0)).alloc (.cells #[.map (some (w.heap.size + 1 + 1))] 106)) = w4 at *
  refine (pickB_c g zs _ [1, 1, 2] 1 2 3 3 _ #[.int .i64 1, .int .i64 1, .int .i64 2] w4 K0.st (by omega) z4 rfl rfl (by decide) (by decide) (by simp)).mono ?_; rintro e w5 ⟨v, rfl, v0, v1, s5, g5⟩
  have K5 := K0.grown hO s5 g5
  clear K0 s5 g5 z4 h
  generalize w.heap.size + 1 + 1 + 1 + 1 = bs at *
  generalize w.heap.size + 1 + 1 + 1 = p3 at *
  generalize w.heap.size + 1 + 1 = pm at *
  generalize w.heap.size + 1 = p2 at *
  have hO' := hO
  obtain ⟨g0, o1, o2, o3, o4, o5, o6⟩ := hO'
  generalize w.heap.size = p1 at K5 hO g0 o1 o2 o3 o4 o5 o6 ⊢
  clear hglt
  obtain ⟨m, rfl⟩ : ∃ m : Nat, v = m := ⟨v.toNat, by omega⟩
  go_wp2_with fail
  clear g0 o1
  generalize hfv : Value.func (Fn.func 72) #[] #[.pointer (some ⟨p3, 0, none⟩), .pointer (some ⟨p1, 0, none⟩), .pointer (some ⟨p2, 0, none⟩)] = fv
  subst hfv
  go_loopw [6, 15] (fun tv i wr => ∃ (jj kk q : Nat) (u : Value) (acc : List Sg), jj ≤ m ∧ i = .int .i64 jj ∧ tv = .int .i64 (1000 + 200000 * (jj : Int)) ∧ SK w g zs p1 p2 pm p3 bs u acc kk q wr ∧ (jj ≤ acc.length ∧ acc.length ≤ 9 * jj) ∧ kk ≤ k + 1 + 110 * jj ∧ q ≤ 9 * jj ∧ Hid (0 < jj → HasS acc)) (fun _ i _ => m - (intOf i).toNat)
  case atStart => exact ⟨0, k + 1, 0, _, [], by omega, rfl, rfl, K5, ⟨Nat.le_refl _, Nat.le_refl _⟩, by omega, by omega, Lib.hid (fun h => absurd h (Nat.lt_irrefl _))⟩
  case round =>
    clear K5
    rename World => wr
    obtain ⟨jj, kk, q, u, acc, hj, rfl, rfl, K, ⟨ha1, ha2⟩, hkk, hq, hha⟩ := hrel
    by_cases hlt : jj < m
    · have hlti : (jj : Int) < m := by omega
      go_wp2_with fail
      refine (sigPut_c w g zs p1 p2 pm p3 bs hO u acc kk q ⟨⟨#[100, 97]⟩, 0, 1, 1000 + 200000 * (jj : Int), 0, 0⟩ (by show ByteArray.size ⟨#[100, 97]⟩ ≤ 100; decide) _ K (by omega) (by omega) (by omega)).mono ?_; rintro e w6 ⟨rfl, u6, y6, k6, K6, hk6, hy6⟩
      have hh6 := Lib.hid (show HasS (acc ++ [y6]) from ⟨y6, List.mem_append_right _ (List.mem_singleton_self _), hy6⟩)
      clear hy6
      have hl6 : (acc ++ [y6]).length = acc.length + 1 := List.length_append
      generalize acc ++ [y6] = acc6 at *
      have c1 := (blk_facts K6.b1).1 0
      clear K
      go_wp2_with fail
      refine (rangeE_c g zs k6 0 8 _ K6.st (by omega) (by decide) (by decide) (by decide)).mono ?_; rintro e w7 ⟨v, rfl, v0, v1, s7, g7⟩
      obtain ⟨m2, rfl⟩ : ∃ m2 : Nat, v = m2 := ⟨v.toNat, by omega⟩
      have K7 := K6.grown hO s7 g7
      clear K6 s7 g7 c1
      go_wp2_with fail
      go_loopw [23] (fun i wr => ∃ (i2 k2 q2 : Nat) (u2 : Value) (acc2 : List Sg), i2 ≤ m2 ∧ i = .int .i64 i2 ∧ SK w g zs p1 p2 pm p3 bs u2 acc2 k2 q2 wr ∧ (acc6.length ≤ acc2.length ∧ acc2.length ≤ acc6.length + i2) ∧ k2 ≤ k6 + 1 + 13 * i2 ∧ q2 ≤ q + 1 + i2 ∧ Hid (HasS acc2)) (fun i _ => m2 - (intOf i).toNat)
      case atStart => exact ⟨0, _, _, _, acc6, by omega, rfl, K7, ⟨Nat.le_refl _, Nat.le_refl _⟩, by omega, by omega, hh6⟩
      case round =>
        clear K7
        rename World => wr
        obtain ⟨i2, k2, q2, u2, acc2, hi, rfl, K, ⟨hb1, hb2⟩, hk2, hq2, hh2⟩ := hrel
        by_cases hlt2 : i2 < m2
        · have hlti2 : (i2 : Int) < m2 := by omega
          have c1 := (blk_facts K.b1).1 0
          have hlz : wr.heap.size = wr.heap.size := rfl
          go_wp2_with fail
          refine (pickB_c g zs _ [2, 2, 2, 3, 4] 2 4 5 5 _ #[.int .i64 2, .int .i64 2, .int .i64 2, .int .i64 3, .int .i64 4] wr K.st (by omega) rfl rfl rfl (by decide) (by decide) (by simp)).mono ?_; rintro e w8 ⟨kv, rfl, kv0, kv1, s8, g8⟩
          have K8 := K.grown hO s8 g8
          have hz3 := lt_of_heap K8.b3
          have hU : ∀ b, u2.ownBlock = some b → b < w8.heap.size := fun b hb => (K8.own.lt b hb).2
          clear K s8 g8 c1 hlz
          go_wp2_with fail
          refine wp_region_inv (by kernel_rfl) (fun listed a w' => ∃ xs : Nat → Value, a = { tmps := #[.pointer (some ⟨g, 0, none⟩), .pointer (some ⟨p1, 0, none⟩), .slice none 0 0, .pointer (some ⟨p2, 0, none⟩), .pointer (some ⟨p3, 0, none⟩), .func (Fn.func 72) #[] #[.pointer (some ⟨p3, 0, none⟩), .pointer (some ⟨p1, 0, none⟩), .pointer (some ⟨p2, 0, none⟩)], .int .i64 (1000 + 200000 * (jj : Int)), .int .i64 kv, xs 15, undef, .map (some pm), .func (Fn.func 72) #[] #[.pointer (some ⟨p3, 0, none⟩), .pointer (some ⟨p1, 0, none⟩), .pointer (some ⟨p2, 0, none⟩)], .pointer (some ⟨g, 0, none⟩), .slice (some ⟨bs, 0, none⟩) 3 3, .int .i64 (m : Int), .int .i64 (jj : Int), .bool true, .func (Fn.func 72) #[] #[.pointer (some ⟨p3, 0, none⟩), .pointer (some ⟨p1, 0, none⟩), .pointer (some ⟨p2, 0, none⟩)], .int .i64 (1000 + 200000 * (jj : Int)), .agg #[.string { data := #[100, 97] }, .int .i64 0, .int .i64 1, .int .i64 (1000 + 200000 * (jj : Int)), .int .i64 0, .int .i64 0], .tuple #[], .pointer (some ⟨g, 0, none⟩), .int .i64 (m2 : Int), .int .i64 (i2 : Int), .bool true, .pointer (some ⟨g, 0, none⟩), .slice (some ⟨wr.heap.size, 0, none⟩) 5 5, .int .i64 kv, xs 0, xs 1, xs 2, xs 3, xs 4, xs 5, xs 6, xs 7, xs 8, xs 9, xs 10, xs 11, xs 12, xs 13, xs 14, u43, u44, u45, u46, u47, u48, u49, u50, u51, u52, u53, u54, u55, u56, u57, undef, undef, undef, undef, undef, undef, undef, undef, undef, undef, undef, undef, undef, undef, undef, undef, undef, undef, undef, undef, undef, undef, undef, undef, undef, undef, undef, undef, undef, undef, undef, undef, undef, undef, undef, undef, undef, undef, undef, undef, undef, undef, undef, undef, undef, undef, undef, undef, undef, undef, undef], defers := [] } ∧ (∀ j, listed.getD j false = true → CT 3 9 89 sgS [.val (.pointer (some ⟨g, 0, none⟩)), .strsS 2, .strS, .val (.int .i64 kv), .val (.int .i64 (1000 + 200000 * (jj : Int))), .val (.pointer (some ⟨g, 0, none⟩)), .val (.pointer (some ⟨g, 0, none⟩)), .int 0 129999, .intsB 9 0 129999, .int 0 129999, .int (-9223372036854775808) 9223372036854775807, .val (.pointer (some ⟨g, 0, none⟩)), .intsB 4 1 3, .int 1 3, .agg, .box w8.heap.size, .any] j w' (xs j)) ∧ MW0 w8 g zs (k2 + 1 + 8) [2, 7, 9, 13] listed w') ?h0 (AllOps.of ?hs) ?he
          case h0 => exact ⟨fun j => match j with | 0 => u28 | 1 => u29 | 2 => u30 | 3 => u31 | 4 => u32 | 5 => u33 | 6 => u34 | 7 => u35 | 8 => u36 | 9 => u37 | 10 => u38 | 11 => u39 | 12 => u40 | 13 => u41 | 14 => u42 | 15 => u8 | _ => undef, rfl, (fun j hj => by rw [rep_false] at hj; cases hj), MW0.start K8.st (Nat.le_refl _)⟩
          case hs =>
            refine ⟨?_, ?_, ?_, ?_, ?_, ?_, ?_, ?_, ?_, ?_, ?_, ?_, ?_, ?_, ?_, ?_, ?_, trivial⟩
            · intro listed a w' hs hI h0 hd K' hK
              obtain ⟨xs, rfl, hC, hW⟩ := hI
              have hK2 := Lib.hid hK
              have hC2 := Lib.hid hC
              have c9 := hW.cell (blk_cell K8.b1 0 rfl) (by have := hO.g0; have := hO.o1; show p1 ≠ g; omega)
              clear hd hK hC h0
              go_simp
              exact hK2.out _ _ ⟨updV xs 0 (.pointer (some ⟨g, 0, none⟩)), by simp [updV], cond_set hC2.out (fun _ _ h => h) rfl, hW.keep (by decide)⟩
            · intro listed a w' hs hI h0 hd K' hK
              obtain ⟨xs, rfl, hC, hW⟩ := hI
              have hK2 := Lib.hid hK
              have hC2 := Lib.hid hC
              clear hd hK hC h0
              go_simp
              exact hK2.out _ _ ⟨updV xs 1 (.slice (some ⟨w'.heap.size, 0, none⟩) 2 2), by simp [updV], cond_set hC2.out (fun j v h => Sat.alloc _ _ _ h) ⟨w'.heap.size, [⟨#[100, 97]⟩, ⟨#[100, 98]⟩], rfl, rfl, (fun x hx => by simp only [List.mem_cons, List.not_mem_nil, or_false] at hx; rcases hx with rfl | rfl <;> first | assumption | (simp; omega) | decide), heap_alloc_new w' _⟩, ((hW.alloc _).keep (by decide))⟩
            · intro listed a w' hs hI h0 hd K' hK
              obtain ⟨xs, rfl, hC, hW⟩ := hI
              have e0 : xs 0 = (.pointer (some ⟨g, 0, none⟩)) := hC 0 (hd ⟨0, .data⟩ (by simp) rfl)
              obtain ⟨z1, l1, e1, hl1, hb1, hz1⟩ : ∃ (z : Nat) (l : List ByteArray), xs 1 = .slice (some ⟨z, 0, none⟩) 2 2 ∧ l.length = 2 ∧ (∀ x ∈ l, x.size ≤ 100) ∧ w'.heap[z]? = some (.cells (l.map Value.string).toArray 9 (0, 0)) := hC 1 (hd ⟨1, .data⟩ (by simp) rfl)
              have hK2 := Lib.hid hK
              have hC2 := Lib.hid hC
              obtain ⟨k9, s9, hk9, hnx⟩ := hW.call h0 (by decide) (by decide)
              have r9 : RS 9 w' (some ⟨z1, 0, none⟩) 2 l1 := R1.of_lit hz1 rfl hl1 (by decide)
              clear h0
              clear hd hK hC
              go_simp
              refine (some_c g zs _ _ _ _ _ _ s9 (by omega) r9 (by decide)).mono ?_; rintro e w1 ⟨rfl, s10, g10⟩
              exact hK2.out _ _ ⟨updV xs 2 (.string (pickV zs k9 l1)), by simp [updV, e0, e1], cond_set hC2.out (fun j v h => Sat.stream (s9.keep g10) (by decide) (by decide) (by decide) _ _ h) ⟨_, rfl, hb1 _ (pickV_mem (by intro e0; subst e0; simp at hl1))⟩, hnx _ _ (by omega) s10 g10⟩
            · intro listed a w' hs hI h0 hd K' hK
              obtain ⟨xs, rfl, hC, hW⟩ := hI
              have hK2 := Lib.hid hK
              have hC2 := Lib.hid hC
              clear hd hK hC h0
              go_simp
              exact hK2.out _ _ ⟨updV xs 3 (.int .i64 kv), by simp [updV], cond_set hC2.out (fun _ _ h => h) rfl, hW.keep (by decide)⟩
            · intro listed a w' hs hI h0 hd K' hK
              obtain ⟨xs, rfl, hC, hW⟩ := hI
              have hK2 := Lib.hid hK
              have hC2 := Lib.hid hC
              clear hd hK hC h0
              go_simp
              exact hK2.out _ _ ⟨updV xs 4 (.int .i64 (1000 + 200000 * (jj : Int))), by simp [updV], cond_set hC2.out (fun _ _ h => h) rfl, hW.keep (by decide)⟩
            · intro listed a w' hs hI h0 hd K' hK
              obtain ⟨xs, rfl, hC, hW⟩ := hI
              have hK2 := Lib.hid hK
              have hC2 := Lib.hid hC
              have c9 := hW.cell (blk_cell K8.b1 0 rfl) (by have := hO.g0; have := hO.o1; show p1 ≠ g; omega)
              clear hd hK hC h0
              go_simp
              exact hK2.out _ _ ⟨updV xs 5 (.pointer (some ⟨g, 0, none⟩)), by simp [updV], cond_set hC2.out (fun _ _ h => h) rfl, hW.keep (by decide)⟩
            · intro listed a w' hs hI h0 hd K' hK
              obtain ⟨xs, rfl, hC, hW⟩ := hI
              have hK2 := Lib.hid hK
              have hC2 := Lib.hid hC
              have c9 := hW.cell (blk_cell K8.b1 0 rfl) (by have := hO.g0; have := hO.o1; show p1 ≠ g; omega)
              clear hd hK hC h0
              go_simp
              exact hK2.out _ _ ⟨updV xs 6 (.pointer (some ⟨g, 0, none⟩)), by simp [updV], cond_set hC2.out (fun _ _ h => h) rfl, hW.keep (by decide)⟩
            · intro listed a w' hs hI h0 hd K' hK
              obtain ⟨xs, rfl, hC, hW⟩ := hI
              have e6 : xs 6 = (.pointer (some ⟨g, 0, none⟩)) := hC 6 (hd ⟨6, .data⟩ (by simp) rfl)
              have hK2 := Lib.hid hK
              have hC2 := Lib.hid hC
              obtain ⟨k9, s9, hk9, hnx⟩ := hW.call h0 (by decide) (by decide)
              clear h0
              clear hd hK hC
              go_simp
              refine (nextE_c g zs _ _ _ s9 (by omega) (by omega) (by omega)).mono ?_; rintro e w1 ⟨v, rfl, v1, v2, s10, g10⟩
              exact hK2.out _ _ ⟨updV xs 7 (.int .i64 v), by simp [updV, e6], cond_set hC2.out (fun j v h => Sat.stream (s9.keep g10) (by decide) (by decide) (by decide) _ _ h) ⟨v, rfl, by omega, by omega⟩, hnx _ _ (by omega) s10 g10⟩
            · intro listed a w' hs hI h0 hd K' hK
              obtain ⟨xs, rfl, hC, hW⟩ := hI
              obtain ⟨v7, e7, a7, b7⟩ : ∃ v : Int, xs 7 = .int .i64 v ∧ 0 ≤ v ∧ v ≤ 129999 := hC 7 (hd ⟨7, .data⟩ (by simp) rfl)
              have hK2 := Lib.hid hK
              have hC2 := Lib.hid hC
              clear hd hK hC h0
              go_simp
              exact hK2.out _ _ ⟨updV xs 8 (.slice (some ⟨w'.heap.size, 0, none⟩) 9 9), by simp [updV, e7], cond_set hC2.out (fun j v h => Sat.alloc _ _ _ h) ⟨w'.heap.size, [9000, 16000, 30000, 31050, 32000, 61000, 61020, 90000, v7], rfl, rfl, (fun x hx => by simp at hx; omega), heap_alloc_new w' _⟩, ((hW.alloc _).keep (by decide))⟩
            · intro listed a w' hs hI h0 hd K' hK
              obtain ⟨xs, rfl, hC, hW⟩ := hI
              have e5 : xs 5 = (.pointer (some ⟨g, 0, none⟩)) := hC 5 (hd ⟨5, .data⟩ (by simp) rfl)
              obtain ⟨z8, l8, e8, hl8, hb8, hz8⟩ : ∃ (z : Nat) (l : List Int), xs 8 = .slice (some ⟨z, 0, none⟩) 9 9 ∧ l.length = 9 ∧ (∀ x ∈ l, 0 ≤ x ∧ x ≤ 129999) ∧ w'.heap[z]? = some (.cells (ints l).toArray 3 (0, 0)) := hC 8 (hd ⟨8, .data⟩ (by simp) rfl)
              have hK2 := Lib.hid hK
              have hC2 := Lib.hid hC
              obtain ⟨k9, s9, hk9, hnx⟩ := hW.call h0 (by decide) (by decide)
              have r9 : RI 3 w' (some ⟨z8, 0, none⟩) 9 l8 := R1.of_lit hz8 rfl hl8 (by decide)
              clear h0
              clear hd hK hC
              go_simp
              refine (pickE_c g zs _ _ _ _ _ _ s9 (by omega) r9 (by decide)).mono ?_; rintro e w1 ⟨v, rfl, hv9, s10, g10⟩
              exact hK2.out _ _ ⟨updV xs 9 (.int .i64 v), by simp [updV, e5, e8], cond_set hC2.out (fun j v h => Sat.stream (s9.keep g10) (by decide) (by decide) (by decide) _ _ h) ⟨v, rfl, hb8 v hv9⟩, hnx _ _ (by omega) s10 g10⟩
            · intro listed a w' hs hI h0 hd K' hK
              obtain ⟨xs, rfl, hC, hW⟩ := hI
              have e4 : xs 4 = (.int .i64 (1000 + 200000 * (jj : Int))) := hC 4 (hd ⟨4, .data⟩ (by simp) rfl)
              obtain ⟨v9, e9, a9, b9⟩ : ∃ v : Int, xs 9 = .int .i64 v ∧ 0 ≤ v ∧ v ≤ 129999 := hC 9 (hd ⟨9, .data⟩ (by simp) rfl)
              have hK2 := Lib.hid hK
              have hC2 := Lib.hid hC
              clear hd hK hC h0
              go_simp
              exact hK2.out _ _ ⟨updV xs 10 (.int .i64 (IntKind.i64.wrap ((1000 + 200000 * (jj : Int)) + v9))), by simp [updV, e4, e9], cond_set hC2.out (fun _ _ h => h) ⟨_, rfl, (wrap_bd _).1, (wrap_bd _).2⟩, hW.keep (by decide)⟩
            · intro listed a w' hs hI h0 hd K' hK
              obtain ⟨xs, rfl, hC, hW⟩ := hI
              have hK2 := Lib.hid hK
              have hC2 := Lib.hid hC
              have c9 := hW.cell (blk_cell K8.b1 0 rfl) (by have := hO.g0; have := hO.o1; show p1 ≠ g; omega)
              clear hd hK hC h0
              go_simp
              exact hK2.out _ _ ⟨updV xs 11 (.pointer (some ⟨g, 0, none⟩)), by simp [updV], cond_set hC2.out (fun _ _ h => h) rfl, hW.keep (by decide)⟩
            · intro listed a w' hs hI h0 hd K' hK
              obtain ⟨xs, rfl, hC, hW⟩ := hI
              have hK2 := Lib.hid hK
              have hC2 := Lib.hid hC
              clear hd hK hC h0
              go_simp
              exact hK2.out _ _ ⟨updV xs 12 (.slice (some ⟨w'.heap.size, 0, none⟩) 4 4), by simp [updV], cond_set hC2.out (fun j v h => Sat.alloc _ _ _ h) ⟨w'.heap.size, [1, 1, 2, 3], rfl, rfl, (fun x hx => by simp at hx; omega), heap_alloc_new w' _⟩, ((hW.alloc _).keep (by decide))⟩
            · intro listed a w' hs hI h0 hd K' hK
              obtain ⟨xs, rfl, hC, hW⟩ := hI
              have e11 : xs 11 = (.pointer (some ⟨g, 0, none⟩)) := hC 11 (hd ⟨11, .data⟩ (by simp) rfl)
              obtain ⟨z12, l12, e12, hl12, hb12, hz12⟩ : ∃ (z : Nat) (l : List Int), xs 12 = .slice (some ⟨z, 0, none⟩) 4 4 ∧ l.length = 4 ∧ (∀ x ∈ l, 1 ≤ x ∧ x ≤ 3) ∧ w'.heap[z]? = some (.cells (ints l).toArray 3 (0, 0)) := hC 12 (hd ⟨12, .data⟩ (by simp) rfl)
              have hK2 := Lib.hid hK
              have hC2 := Lib.hid hC
              obtain ⟨k9, s9, hk9, hnx⟩ := hW.call h0 (by decide) (by decide)
              have r9 : RI 3 w' (some ⟨z12, 0, none⟩) 4 l12 := R1.of_lit hz12 rfl hl12 (by decide)
              clear h0
              clear hd hK hC
              go_simp
              refine (pickE_c g zs _ _ _ _ _ _ s9 (by omega) r9 (by decide)).mono ?_; rintro e w1 ⟨v, rfl, hv9, s10, g10⟩
              exact hK2.out _ _ ⟨updV xs 13 (.int .i64 v), by simp [updV, e11, e12], cond_set hC2.out (fun j v h => Sat.stream (s9.keep g10) (by decide) (by decide) (by decide) _ _ h) ⟨v, rfl, hb12 v hv9⟩, hnx _ _ (by omega) s10 g10⟩
            · intro listed a w' hs hI h0 hd K' hK
              obtain ⟨xs, rfl, hC, hW⟩ := hI
              obtain ⟨v2, e2, sz2⟩ : ∃ v : ByteArray, xs 2 = .string v ∧ v.size ≤ 100 := hC 2 (hd ⟨2, .data⟩ (by simp) rfl)
              have e3 : xs 3 = (.int .i64 kv) := hC 3 (hd ⟨3, .data⟩ (by simp) rfl)
              obtain ⟨v10, e10, a10, b10⟩ : ∃ v : Int, xs 10 = .int .i64 v ∧ (-9223372036854775808) ≤ v ∧ v ≤ 9223372036854775807 := hC 10 (hd ⟨10, .data⟩ (by simp) rfl)
              obtain ⟨v13, e13, a13, b13⟩ : ∃ v : Int, xs 13 = .int .i64 v ∧ 1 ≤ v ∧ v ≤ 3 := hC 13 (hd ⟨13, .data⟩ (by simp) rfl)
              have hK2 := Lib.hid hK
              have hC2 := Lib.hid hC
              clear hd hK hC h0
              go_simp
              exact hK2.out _ _ ⟨updV xs 14 (.agg #[.string v2, .int .i64 0, .int .i64 kv, .int .i64 v10, .int .i64 v13, .int .i64 0]), by simp [updV, e2, e3, e10, e13], cond_set hC2.out (fun _ _ h => h) ⟨⟨⟨v2, 0, kv, v10, v13, 0⟩, sz2⟩, rfl⟩, hW.keep (by decide)⟩
            · intro listed a w' hs hI h0 hd K' hK
              obtain ⟨xs, rfl, hC, hW⟩ := hI
              have hK2 := Lib.hid hK
              have hC2 := Lib.hid hC
              have hsz9 := hW.size
              clear hd hK hC h0
              go_simp
              exact hK2.out _ _ ⟨updV xs 15 (.pointer (some ⟨w'.heap.size, 0, none⟩)), by simp [updV], cond_set hC2.out (fun j v h => Sat.alloc _ _ _ h) ⟨w'.heap.size, ⟨⟨⟨#[]⟩, 0, 0, 0, 0, 0⟩, by decide⟩, rfl, hsz9, heap_alloc_new w' _⟩, ((hW.alloc _).keep (by decide))⟩
            · intro listed a w' hs hI h0 hd K' hK
              obtain ⟨xs, rfl, hC, hW⟩ := hI
              obtain ⟨x14, e14⟩ : ∃ x : SgS, xs 14 = .agg (sgS x).toArray := hC 14 (hd ⟨14, .data⟩ (by simp) rfl)
              obtain ⟨z15, x15, e15, lo15, hz15⟩ : ∃ (z : Nat) (x : SgS), xs 15 = .pointer (some ⟨z, 0, none⟩) ∧ w8.heap.size ≤ z ∧ w'.heap[z]? = some (.cells (sgS x).toArray 89 (0, 0)) := hC 15 (hd ⟨15, .data⟩ (by simp) rfl)
              have hK2 := Lib.hid hK
              have hC2 := Lib.hid hC
              obtain ⟨⟨u0_, u1_, u2_, u3_, u4_, u5_⟩, hx_⟩ := x15
              replace hz15 : w'.heap[z15]? = some (.cells #[.string u0_, .int .i64 u1_, .int .i64 u2_, .int .i64 u3_, .int .i64 u4_, .int .i64 u5_] 89 (0, 0)) := hz15
              obtain ⟨⟨y0_, y1_, y2_, y3_, y4_, y5_⟩, hx_⟩ := x14
              replace e14 : xs 14 = .agg #[.string y0_, .int .i64 y1_, .int .i64 y2_, .int .i64 y3_, .int .i64 y4_, .int .i64 y5_] := e14
              have c0_ := (blk_facts hz15).1 0
              have c1_ := (blk_facts hz15).1 1
              have c2_ := (blk_facts hz15).1 2
              have c3_ := (blk_facts hz15).1 3
              have c4_ := (blk_facts hz15).1 4
              have c5_ := (blk_facts hz15).1 5
              have f0_ := (blk_facts hz15).2 0
              have f1_ := (blk_facts hz15).2 1
              have f2_ := (blk_facts hz15).2 2
              have f3_ := (blk_facts hz15).2 3
              have f4_ := (blk_facts hz15).2 4
              have f5_ := (blk_facts hz15).2 5
              clear hd hK hC h0
              go_simp
              have p0_ := hz15
              have p1_ := blk_set p0_ 0 (.string y0_)
              have p2_ := blk_set p1_ 1 (.int .i64 y1_)
              have p3_ := blk_set p2_ 2 (.int .i64 y2_)
              have p4_ := blk_set p3_ 3 (.int .i64 y3_)
              have p5_ := blk_set p4_ 4 (.int .i64 y4_)
              have p6_ := blk_set p5_ 5 (.int .i64 y5_)
              exact hK2.out _ _ ⟨updV xs 16 (undef), by simp [updV, e14, e15], cond_set hC2.out (fun j v h => Sat.set sgSK (o := 5) (u := .int .i64 y5_) p5_ (by decide) (by decide) (fun _ => ⟨_, rfl⟩) _ _ (Sat.set sgSK (o := 4) (u := .int .i64 y4_) p4_ (by decide) (by decide) (fun _ => ⟨_, rfl⟩) _ _ (Sat.set sgSK (o := 3) (u := .int .i64 y3_) p3_ (by decide) (by decide) (fun _ => ⟨_, rfl⟩) _ _ (Sat.set sgSK (o := 2) (u := .int .i64 y2_) p2_ (by decide) (by decide) (fun _ => ⟨_, rfl⟩) _ _ (Sat.set sgSK (o := 1) (u := .int .i64 y1_) p1_ (by decide) (by decide) (fun _ => ⟨_, rfl⟩) _ _ (Sat.set sgSK (o := 0) (u := .string y0_) p0_ (by decide) (by decide) (fun _ => ⟨_, rfl, by assumption⟩) _ _ (h))))))) trivial, ((((((hW.setNew lo15 K8.st.lt _).setNew lo15 K8.st.lt _).setNew lo15 K8.st.lt _).setNew lo15 K8.st.lt _).setNew lo15 K8.st.lt _).setNew lo15 K8.st.lt _).keep (by decide)⟩
          case he =>
            intro listed a w' hs hI hr
            obtain ⟨xs, rfl, hC, hW⟩ := hI
            have hB9 := hC 15 (all_listed hs hr ⟨rfl, rfl, rfl, rfl, rfl, rfl, rfl, rfl, rfl, rfl, rfl, rfl, rfl, rfl, rfl, rfl, rfl, trivial⟩ 15 (by simp))
            clear hC hs hr
            try dsimp only
            obtain ⟨bz, bx, be, blo, hbz⟩ : ∃ (z : Nat) (x : SgS), xs 15 = .pointer (some ⟨z, 0, none⟩) ∧ w8.heap.size ≤ z ∧ w'.heap[z]? = some (.cells (sgS x).toArray 89 (0, 0)) := hB9
            obtain ⟨k9, s9, g9, hk9⟩ := hW
            have K9 := K8.grown hO s9 g9
            clear K8 s9 g9
            have hz6 : p3 < bz := by omega
            have hlu : u2.ownBlock = none ∨ u2.ownBlock ≠ some bz := by
              cases hv : u2.ownBlock with
              | none => exact .inl rfl
              | some b => exact .inr (fun e => by have := (hU b hv); injection e; omega)
            obtain ⟨⟨b0, b1, b2, b3, b4, b5⟩, hb0⟩ := bx
            replace hbz : w'.heap[bz]? = some (.cells #[.string b0, .int .i64 b1, .int .i64 b2, .int .i64 b3, .int .i64 b4, .int .i64 b5] 89 (0, 0)) := hbz
            dsimp only at hb0
            have y0 := (blk_facts hbz).1 0
            have y1 := (blk_facts hbz).1 1
            have y2 := (blk_facts hbz).1 2
            have y3 := (blk_facts hbz).1 3
            have y4 := (blk_facts hbz).1 4
            have y5 := (blk_facts hbz).1 5
            have c1 := (blk_facts K9.b1).1 0
            by_cases h4 : kv = 4
            · subst h4
              have hlz : w'.heap.size = w'.heap.size := rfl
              go_wp2_with fail
              refine (pickB_c g zs _ [0, 20, 3000, 3110] 0 3110 4 4 _ #[.int .i64 0, .int .i64 20, .int .i64 3000, .int .i64 3110] w' K9.st (by omega) rfl rfl rfl (by decide) (by decide) (by simp)).mono ?_; rintro e w10 ⟨pv, rfl, pv0, pv1, s10, g10⟩
              have K10 := K9.grown hO s10 g10
              have hbz10 := blk_grown hbz g10 (fun e => by have := hO.g0; have := hO.o1; have := hO.o2; have := hO.o3; have := hO.o4; injection e; omega)
              have u1 : IntKind.i64.wrap (3000 + pv) = 3000 + pv := IntWalk.i64_in _ (by omega)
              have z0 := (blk_facts hbz10).1 0
              have z5 := (blk_facts hbz10).1 5
              have f0 := (blk_facts hbz10).2 0
              have f5 := (blk_facts hbz10).2 5
              have hbn := blk_set (blk_set hbz10 0 (.string ⟨#[100, 119]⟩)) 5 (.int .i64 (3000 + pv))
              have x0 := (blk_facts hbn).1 0
              have x1 := (blk_facts hbn).1 1
              have x2 := (blk_facts hbn).1 2
              have x3 := (blk_facts hbn).1 3
              have x4 := (blk_facts hbn).1 4
              have x5 := (blk_facts hbn).1 5
              have KN := K10.other hO hbz10 hz6 hlu (w' := (w10.setCell ⟨bz, 0, none⟩ (.string ⟨#[100, 119]⟩)).setCell ⟨bz, 5, none⟩ (.int .i64 (3000 + pv))) (grown_setCell (grown_setCell (grown_refl w10 _) (p := ⟨bz, 0, none⟩) (.inl rfl) _) (p := ⟨bz, 5, none⟩) (.inl rfl) _)
              clear hbz hbz10 hbn y0 y1 y2 y3 y4 y5 K9 K10 s10 g10 c1 hlz
              go_wp2_with fail
              refine (sigPut_c w g zs p1 p2 pm p3 bs hO u2 acc2 (k9 + 1) q2 ⟨⟨#[100, 119]⟩, b1, b2, b3, b4, 3000 + pv⟩ (by show ByteArray.size ⟨#[100, 119]⟩ ≤ 100; decide) _ KN (by omega) (by omega) (by omega)).mono ?_; rintro e w11 ⟨rfl, u11, y11, k11, K11, hk11, _⟩
              have hh11 := Lib.hid (hh2.out.app y11)
              have hl11 : (acc2 ++ [y11]).length = acc2.length + 1 := List.length_append
              generalize acc2 ++ [y11] = acc11 at *
              clear KN z0 z5 f0 f5 x0 x1 x2 x3 x4 x5 u1
              go_wp2
              go_roundw
              case rel => exact ⟨i2 + 1, k11, q2 + 1, u11, acc11, by omega, by go_num, K11, by omega, by omega, by omega, hh11⟩
              case measure => simp [intOf]; omega
            · have h4b : (kv == 4) = false := by simpa using h4
              clear h4
              go_wp2_with fail
              refine (sigPut_c w g zs p1 p2 pm p3 bs hO u2 acc2 k9 q2 ⟨b0, b1, b2, b3, b4, b5⟩ hb0 _ K9 (by omega) (by omega) (by omega)).mono ?_; rintro e w11 ⟨rfl, u11, y11, k11, K11, hk11, _⟩
              have hh11 := Lib.hid (hh2.out.app y11)
              have hl11 : (acc2 ++ [y11]).length = acc2.length + 1 := List.length_append
              generalize acc2 ++ [y11] = acc11 at *
              clear K9 y0 y1 y2 y3 y4 y5 c1 hbz
              go_wp2
              go_roundw
              case rel => exact ⟨i2 + 1, k11, q2 + 1, u11, acc11, by omega, by go_num, K11, by omega, by omega, by omega, hh11⟩
              case measure => simp [intOf]; omega
        · obtain rfl : i2 = m2 := by omega
          have u1 : IntKind.i64.wrap (1000 + 200000 * (jj : Int) + 200000) = 1000 + 200000 * (jj : Int) + 200000 := IntWalk.i64_in _ (by omega)
          go_wp2
          go_roundw
          case rel => exact ⟨jj + 1, k2, q2, u2, acc2, by omega, by go_num, by rw [show (1000 + 200000 * (jj : Int) + 200000) = 1000 + 200000 * ((jj + 1 : Nat) : Int) by omega], K, by omega, by omega, by omega, Lib.hid (fun _ => hh2.out)⟩
          case measure => simp [intOf]; omega
    · obtain rfl : jj = m := by omega
      have c2 := (blk_facts K.b2).1 0
      go_wp2_with fail
      refine (sgSortM_c acc _ bs acc.length u K.own (by omega)).mono ?_; rintro e w6 ⟨rfl, ho6, hg6⟩
      have hbb6 : ∀ i, u.ownBlock = some i → p3 < i := fun i hi => by have := own_row_lt K.own i hi; omega
      have c61 := blk_grown K.b1 hg6 (fun e => by have := hbb6 _ e.symm; omega)
      have c62 := blk_grown K.b2 hg6 (fun e => by have := hbb6 _ e.symm; omega)
      have s6 := K.st.grown hg6 (fun i e => by have := hbb6 i e; have := hO.g0; have := hO.o1; omega)
      have gr6 := grown_own K.gr hg6 (fun i e => by have := hbb6 i e; have := hO.o1; omega)
      have hl6 : (insL (ltOf sgDf) acc).length = acc.length := insL_len _ _
      have hh6 := Lib.hid (show HasS (insL (ltOf sgDf) acc) from (hha.out (by omega)).ins)
      clear hha
      generalize insL (ltOf sgDf) acc = l6 at *
      obtain ⟨A, c, rfl⟩ := own_shape ho6
      have hn1 : 1 ≤ acc.length := by omega
      have hn18 : acc.length ≤ 18 := by omega
      have c1 := (blk_facts c61).1 0
      generalize acc.length = n at *
      obtain ⟨b, rfl, hbb⟩ := own_someN ho6 hn1
      clear c2 hg6 K hbb6
      go_wp2_with fail
      refine (flipE_c g zs kk _ _ s6 (by omega) (by omega) (by omega)).mono ?_; rintro e w7 ⟨fl, rfl, s7, g7⟩
      have hgp : g < p1 := by have := hO.g0; have := hO.o1; omega
      have ho7 := own_keep ho6 (by omega) g7
      have c71 := blk_grown c61 g7 (fun e => by injection e; omega)
      have c72 := blk_grown c62 g7 (fun e => by injection e; omega)
      have gr7 := grown_trans gr6 g7
      clear s6 ho6 c61 c62 gr6 g7 c1
      cases fl
      · have c2 := (blk_facts c72).1 0
        go_wp2
        go_ret
        exact ⟨_, n, c, l6, _, rfl, own_mono ho7 (by have := hO.o1; omega), hl6, hn1, hn18, s7, by omega, gr7, hh6.out⟩
      · have hni : (1 : Int) ≤ (n : Int) := by omega
        go_wp2_with fail
        refine wp_region_inv (by kernel_rfl) (fun listed a w' => ∃ xs : Nat → Value, a = { tmps := #[.pointer (some ⟨g, 0, none⟩), .pointer (some ⟨p1, 0, none⟩), .slice none 0 0, .pointer (some ⟨p2, 0, none⟩), .pointer (some ⟨p3, 0, none⟩), .func (Fn.func 72) #[] #[.pointer (some ⟨p3, 0, none⟩), .pointer (some ⟨p1, 0, none⟩), .pointer (some ⟨p2, 0, none⟩)], .int .i64 (1000 + 200000 * (jj : Int)), u7, u8, xs 6, .map (some pm), .func (Fn.func 72) #[] #[.pointer (some ⟨p3, 0, none⟩), .pointer (some ⟨p1, 0, none⟩), .pointer (some ⟨p2, 0, none⟩)], .pointer (some ⟨g, 0, none⟩), .slice (some ⟨bs, 0, none⟩) 3 3, .int .i64 (jj : Int), .int .i64 (jj : Int), .bool false, u17, u18, u19, u20, u21, u22, u23, u24, u25, u26, u27, u28, u29, u30, u31, u32, u33, u34, u35, u36, u37, u38, u39, u40, u41, u42, u43, u44, u45, u46, u47, u48, u49, u50, u51, u52, u53, u54, u55, u56, u57, .slice (some ⟨b, 0, none⟩) n c, .tuple #[], .pointer (some ⟨g, 0, none⟩), .bool true, xs 0, xs 1, xs 2, xs 3, xs 4, xs 5, undef, undef, undef, undef, undef, undef, undef, undef, undef, undef, undef, undef, undef, undef, undef, undef, undef, undef, undef, undef, undef, undef, undef, undef, undef, undef, undef, undef, undef, undef, undef, undef, undef, undef, undef, undef, undef, undef, undef, undef, undef], defers := [] } ∧ (∀ j, listed.getD j false = true → CT 3 9 89 sgE [.val (.slice (some ⟨b, 0, none⟩) n c), .val (.pointer (some ⟨g, 0, none⟩)), .val (.slice (some ⟨b, 0, none⟩) n c), .val (.int .i64 (n : Int)), .int 0 ((n : Int) - 1), .ptr b n 6, .ptr b n 6] j w' (xs j)) ∧ MW0 w7 g zs (kk + 5) [4] listed w') ?h0 (AllOps.of ?hs) ?he
        case h0 => exact ⟨fun j => match j with | 0 => undef | 1 => undef | 2 => undef | 3 => undef | 4 => undef | 5 => undef | 6 => undef | _ => undef, rfl, (fun j hj => by rw [rep_false] at hj; cases hj), MW0.start s7 (by first | (simp; done) | (simp; omega))⟩
        case hs =>
          refine ⟨?_, ?_, ?_, ?_, ?_, ?_, ?_, trivial⟩
          · intro listed a w' hs hI h0 hd K' hK
            obtain ⟨xs, rfl, hC, hW⟩ := hI
            have hK2 := Lib.hid hK
            have hC2 := Lib.hid hC
            have c9 := hW.cell (blk_cell c72 0 rfl) (by show p2 ≠ g; omega)
            clear hd hK hC h0
            go_simp
            exact hK2.out _ _ ⟨updV xs 0 (.slice (some ⟨b, 0, none⟩) n c), by simp [updV], cond_set hC2.out (fun _ _ h => h) rfl, hW.keep (by decide)⟩
          · intro listed a w' hs hI h0 hd K' hK
            obtain ⟨xs, rfl, hC, hW⟩ := hI
            have hK2 := Lib.hid hK
            have hC2 := Lib.hid hC
            have c9 := hW.cell (blk_cell c71 0 rfl) (by show p1 ≠ g; omega)
            clear hd hK hC h0
            go_simp
            exact hK2.out _ _ ⟨updV xs 1 (.pointer (some ⟨g, 0, none⟩)), by simp [updV], cond_set hC2.out (fun _ _ h => h) rfl, hW.keep (by decide)⟩
          · intro listed a w' hs hI h0 hd K' hK
            obtain ⟨xs, rfl, hC, hW⟩ := hI
            have hK2 := Lib.hid hK
            have hC2 := Lib.hid hC
            have c9 := hW.cell (blk_cell c72 0 rfl) (by show p2 ≠ g; omega)
            clear hd hK hC h0
            go_simp
            exact hK2.out _ _ ⟨updV xs 2 (.slice (some ⟨b, 0, none⟩) n c), by simp [updV], cond_set hC2.out (fun _ _ h => h) rfl, hW.keep (by decide)⟩
          · intro listed a w' hs hI h0 hd K' hK
            obtain ⟨xs, rfl, hC, hW⟩ := hI
            have e2 : xs 2 = (.slice (some ⟨b, 0, none⟩) n c) := hC 2 (hd ⟨2, .data⟩ (by simp) rfl)
            have hK2 := Lib.hid hK
            have hC2 := Lib.hid hC
            clear hd hK hC h0
            go_simp
            exact hK2.out _ _ ⟨updV xs 3 (.int .i64 (n : Int)), by simp [updV, e2], cond_set hC2.out (fun _ _ h => h) rfl, hW.keep (by decide)⟩
          · intro listed a w' hs hI h0 hd K' hK
            obtain ⟨xs, rfl, hC, hW⟩ := hI
            have e1 : xs 1 = (.pointer (some ⟨g, 0, none⟩)) := hC 1 (hd ⟨1, .data⟩ (by simp) rfl)
            have e3 : xs 3 = (.int .i64 (n : Int)) := hC 3 (hd ⟨3, .data⟩ (by simp) rfl)
            have hK2 := Lib.hid hK
            have hC2 := Lib.hid hC
            obtain ⟨k9, s9, hk9, hnx⟩ := hW.call h0 (by decide) (by decide)
            clear h0
            clear hd hK hC
            go_simp
            refine (nextE_c g zs _ _ _ s9 (by omega) (by omega) (by omega)).mono ?_; rintro e w1 ⟨v, rfl, v1, v2, s10, g10⟩
            exact hK2.out _ _ ⟨updV xs 4 (.int .i64 v), by simp [updV, e1, e3], cond_set hC2.out (fun j v h => Sat.stream (s9.keep g10) (by decide) (by decide) (by decide) _ _ h) ⟨v, rfl, by omega, by omega⟩, hnx _ _ (by omega) s10 g10⟩
          · intro listed a w' hs hI h0 hd K' hK
            obtain ⟨xs, rfl, hC, hW⟩ := hI
            have e0 : xs 0 = (.slice (some ⟨b, 0, none⟩) n c) := hC 0 (hd ⟨0, .data⟩ (by simp) rfl)
            obtain ⟨v4, e4, a4, b4⟩ : ∃ v : Int, xs 4 = .int .i64 v ∧ 0 ≤ v ∧ v ≤ ((n : Int) - 1) := hC 4 (hd ⟨4, .data⟩ (by simp) rfl)
            have hK2 := Lib.hid hK
            have hC2 := Lib.hid hC
            obtain ⟨m4_, rfl⟩ : ∃ m : Nat, v4 = m := ⟨v4.toNat, by omega⟩
            have i8_ : (m4_ : Int) < n := by omega
            have i9_ : m4_ < n := by omega
            clear hd hK hC h0
            go_simp
            exact hK2.out _ _ ⟨updV xs 5 (.pointer (some ⟨b, m4_ * 6, none⟩)), by simp [updV, e0, e4], cond_set hC2.out (fun _ _ h => h) ⟨m4_, i9_, rfl⟩, hW.keep (by decide)⟩
          · intro listed a w' hs hI h0 hd K' hK
            obtain ⟨xs, rfl, hC, hW⟩ := hI
            obtain ⟨q5, hq5, e5⟩ : ∃ q : Nat, q < n ∧ xs 5 = .pointer (some ⟨b, q * 6, none⟩) := hC 5 (hd ⟨5, .data⟩ (by simp) rfl)
            have hK2 := Lib.hid hK
            have hC2 := Lib.hid hC
            clear hd hK hC h0
            go_simp
            exact hK2.out _ _ ⟨updV xs 6 (.pointer (some ⟨b, q5 * 6, none⟩)), by simp [updV, e5], cond_set hC2.out (fun _ _ h => h) ⟨q5, hq5, rfl⟩, hW.keep (by decide)⟩
        case he =>
          intro listed a w' hs hI hr
          obtain ⟨xs, rfl, hC, hW⟩ := hI
          obtain ⟨q, hq, e6⟩ : ∃ q : Nat, q < n ∧ xs 6 = .pointer (some ⟨b, q * 6, none⟩) := hC 6 (all_listed hs hr ⟨rfl, rfl, rfl, rfl, rfl, rfl, rfl, trivial⟩ 6 (by simp))
          clear hC hs hr
          obtain ⟨k9, s9, g9, hk9⟩ := hW
          have ho9 := own_keep ho7 (by omega) g9
          have c91 := blk_grown c71 g9 (fun e => by injection e; omega)
          have c92 := blk_grown c72 g9 (fun e => by injection e; omega)
          have gr9 := grown_trans gr7 g9
          clear s7 ho7 c71 c72 gr7 g9
          have hgb : g < bs := by omega
          have hp1b : p1 ≠ b := by omega
          rename World => w20
          rename Nat → Value => ys
          rw [e6]
          clear e6
          go_wp2_with fail
          refine wp_region_inv (by kernel_rfl) (fun listed a w' => ∃ xs : Nat → Value, a = { tmps := #[.pointer (some ⟨g, 0, none⟩), .pointer (some ⟨p1, 0, none⟩), .slice none 0 0, .pointer (some ⟨p2, 0, none⟩), .pointer (some ⟨p3, 0, none⟩), .func (Fn.func 72) #[] #[.pointer (some ⟨p3, 0, none⟩), .pointer (some ⟨p1, 0, none⟩), .pointer (some ⟨p2, 0, none⟩)], .int .i64 (1000 + 200000 * (jj : Int)), u7, u8, .pointer (some ⟨b, q * 6, none⟩), .map (some pm), .func (Fn.func 72) #[] #[.pointer (some ⟨p3, 0, none⟩), .pointer (some ⟨p1, 0, none⟩), .pointer (some ⟨p2, 0, none⟩)], .pointer (some ⟨g, 0, none⟩), .slice (some ⟨bs, 0, none⟩) 3 3, .int .i64 (jj : Int), .int .i64 (jj : Int), .bool false, u17, u18, u19, u20, u21, u22, u23, u24, u25, u26, u27, u28, u29, u30, u31, u32, u33, u34, u35, u36, u37, u38, u39, u40, u41, u42, u43, u44, u45, u46, u47, u48, u49, u50, u51, u52, u53, u54, u55, u56, u57, .slice (some ⟨b, 0, none⟩) n c, .tuple #[], .pointer (some ⟨g, 0, none⟩), .bool true, ys 0, ys 1, ys 2, ys 3, ys 4, ys 5, xs 0, xs 1, xs 2, xs 3, xs 4, xs 5, xs 6, xs 7, xs 8, xs 9, xs 10, xs 11, xs 12, xs 13, xs 14, xs 15, xs 16, xs 17, xs 18, xs 19, xs 20, xs 21, xs 22, xs 23, xs 24, xs 25, xs 26, xs 27, xs 28, xs 29, xs 30, xs 31, xs 32, xs 33, xs 35, xs 36, xs 38, xs 39, xs 41, xs 42, undef], defers := [] } ∧ (∀ j, listed.getD j false = true → CT 3 9 89 sgE [.val (.pointer (some ⟨b, q * 6, none⟩)), .val (.pointer (some ⟨b, q * 6, none⟩)), .val (.pointer (some ⟨b, q * 6, none⟩)), .val (.pointer (some ⟨b, q * 6, none⟩)), .val (.pointer (some ⟨g, 0, none⟩)), .val (.pointer (some ⟨b, q * 6, none⟩)), .val (.pointer (some ⟨b, q * 6, none⟩)), .val (.pointer (some ⟨b, q * 6, none⟩)), .str, .strs 3, .str, .val (.pointer (some ⟨g, 0, none⟩)), .val (.pointer (some ⟨b, q * 6, none⟩)), .val (.pointer (some ⟨b, q * 6, none⟩)), .val (.pointer (some ⟨b, q * 6 + 1, none⟩)), .num, .ints 3, .num, .val (.pointer (some ⟨g, 0, none⟩)), .val (.pointer (some ⟨b, q * 6, none⟩)), .val (.pointer (some ⟨b, q * 6, none⟩)), .val (.pointer (some ⟨b, q * 6 + 4, none⟩)), .num, .ints 3, .num, .val (.pointer (some ⟨g, 0, none⟩)), .val (.pointer (some ⟨b, q * 6, none⟩)), .val (.pointer (some ⟨b, q * 6, none⟩)), .val (.pointer (some ⟨b, q * 6 + 5, none⟩)), .num, .ints 3, .num, .val (.pointer (some ⟨b, q * 6, none⟩)), .val (.pointer (some ⟨b, q * 6, none⟩)), .any, .val (.pointer (some ⟨b, q * 6, none⟩)), .val (.pointer (some ⟨b, q * 6 + 1, none⟩)), .any, .val (.pointer (some ⟨b, q * 6, none⟩)), .val (.pointer (some ⟨b, q * 6 + 4, none⟩)), .any, .val (.pointer (some ⟨b, q * 6, none⟩)), .val (.pointer (some ⟨b, q * 6 + 5, none⟩)), .any] j w' (xs j)) ∧ MW1k w20 g zs 89 sgE 6 bs b n c (k9 + 10) [10, 17, 24, 31] listed w') ?h0 (AllOps.of ?hs) ?he
          case h0 => exact ⟨fun j => match j with | 0 => undef | 1 => undef | 2 => undef | 3 => undef | 4 => undef | 5 => undef | 6 => undef | 7 => undef | 8 => undef | 9 => undef | 10 => undef | 11 => undef | 12 => undef | 13 => undef | 14 => undef | 15 => undef | 16 => undef | 17 => undef | 18 => undef | 19 => undef | 20 => undef | 21 => undef | 22 => undef | 23 => undef | 24 => undef | 25 => undef | 26 => undef | 27 => undef | 28 => undef | 29 => undef | 30 => undef | 31 => undef | 32 => undef | 33 => undef | 35 => undef | 36 => undef | 38 => undef | 39 => undef | 41 => undef | 42 => undef | _ => undef, rfl, (fun j hj => by rw [rep_false] at hj; cases hj), MW1k.start hh6.out s9 ho9 hl6 (by first | (simp; done) | (simp; omega))⟩
          case hs =>
            refine ⟨?_, ?_, ?_, ?_, ?_, ?_, ?_, ?_, ?_, ?_, ?_, ?_, ?_, ?_, ?_, ?_, ?_, ?_, ?_, ?_, ?_, ?_, ?_, ?_, ?_, ?_, ?_, ?_, ?_, ?_, ?_, ?_, ?_, ?_, ?_, ?_, ?_, ?_, ?_, ?_, ?_, ?_, ?_, ?_, trivial⟩
            · intro listed a w' hs hI h0 hd K' hK
              obtain ⟨xs, rfl, hC, hW⟩ := hI
              have hK2 := Lib.hid hK
              have hC2 := Lib.hid hC
              clear hd hK hC h0
              go_simp
              exact hK2.out _ _ ⟨updV xs 0 (.pointer (some ⟨b, q * 6, none⟩)), by simp [updV], cond_set hC2.out (fun _ _ h => h) rfl, hW.keep (by decide)⟩
            · intro listed a w' hs hI h0 hd K' hK
              obtain ⟨xs, rfl, hC, hW⟩ := hI
              have hK2 := Lib.hid hK
              have hC2 := Lib.hid hC
              clear hd hK hC h0
              go_simp
              exact hK2.out _ _ ⟨updV xs 1 (.pointer (some ⟨b, q * 6, none⟩)), by simp [updV], cond_set hC2.out (fun _ _ h => h) rfl, hW.keep (by decide)⟩
            · intro listed a w' hs hI h0 hd K' hK
              obtain ⟨xs, rfl, hC, hW⟩ := hI
              have hK2 := Lib.hid hK
              have hC2 := Lib.hid hC
              clear hd hK hC h0
              go_simp
              exact hK2.out _ _ ⟨updV xs 2 (.pointer (some ⟨b, q * 6, none⟩)), by simp [updV], cond_set hC2.out (fun _ _ h => h) rfl, hW.keep (by decide)⟩
            · intro listed a w' hs hI h0 hd K' hK
              obtain ⟨xs, rfl, hC, hW⟩ := hI
              have hK2 := Lib.hid hK
              have hC2 := Lib.hid hC
              clear hd hK hC h0
              go_simp
              exact hK2.out _ _ ⟨updV xs 3 (.pointer (some ⟨b, q * 6, none⟩)), by simp [updV], cond_set hC2.out (fun _ _ h => h) rfl, hW.keep (by decide)⟩
            · intro listed a w' hs hI h0 hd K' hK
              obtain ⟨xs, rfl, hC, hW⟩ := hI
              have hK2 := Lib.hid hK
              have hC2 := Lib.hid hC
              have c9 := hW.cell (blk_cell c91 0 rfl) (by show p1 ≠ g; omega) hp1b
              clear hd hK hC h0
              go_simp
              exact hK2.out _ _ ⟨updV xs 4 (.pointer (some ⟨g, 0, none⟩)), by simp [updV], cond_set hC2.out (fun _ _ h => h) rfl, hW.keep (by decide)⟩
            · intro listed a w' hs hI h0 hd K' hK
              obtain ⟨xs, rfl, hC, hW⟩ := hI
              have hK2 := Lib.hid hK
              have hC2 := Lib.hid hC
              clear hd hK hC h0
              go_simp
              exact hK2.out _ _ ⟨updV xs 5 (.pointer (some ⟨b, q * 6, none⟩)), by simp [updV], cond_set hC2.out (fun _ _ h => h) rfl, hW.keep (by decide)⟩
            · intro listed a w' hs hI h0 hd K' hK
              obtain ⟨xs, rfl, hC, hW⟩ := hI
              have e5 : xs 5 = (.pointer (some ⟨b, q * 6, none⟩)) := hC 5 (hd ⟨5, .data⟩ (by simp) rfl)
              have hK2 := Lib.hid hK
              have hC2 := Lib.hid hC
              clear hd hK hC h0
              go_simp
              exact hK2.out _ _ ⟨updV xs 6 (.pointer (some ⟨b, q * 6, none⟩)), by simp [updV, e5], cond_set hC2.out (fun _ _ h => h) rfl, hW.keep (by decide)⟩
            · intro listed a w' hs hI h0 hd K' hK
              obtain ⟨xs, rfl, hC, hW⟩ := hI
              have e6 : xs 6 = (.pointer (some ⟨b, q * 6, none⟩)) := hC 6 (hd ⟨6, .data⟩ (by simp) rfl)
              have hK2 := Lib.hid hK
              have hC2 := Lib.hid hC
              clear hd hK hC h0
              go_simp
              exact hK2.out _ _ ⟨updV xs 7 (.pointer (some ⟨b, q * 6, none⟩)), by simp [updV, e6], cond_set hC2.out (fun _ _ h => h) rfl, hW.keep (by decide)⟩
            · intro listed a w' hs hI h0 hd K' hK
              obtain ⟨xs, rfl, hC, hW⟩ := hI
              have e7 : xs 7 = (.pointer (some ⟨b, q * 6, none⟩)) := hC 7 (hd ⟨7, .data⟩ (by simp) rfl)
              have hK2 := Lib.hid hK
              have hC2 := Lib.hid hC
              obtain ⟨u9, c9, ⟨x9, rfl⟩, f9⟩ := hW.load sgK (s := 6) rfl (q := q) (d := 0) hq (by decide)
              rw [Nat.add_zero] at c9
              clear hd hK hC h0
              go_simp
              exact hK2.out _ _ ⟨updV xs 8 (.string x9), by simp [updV, e7], cond_set hC2.out (fun _ _ h => h) ⟨_, rfl⟩, hW.keep (by decide)⟩
            · intro listed a w' hs hI h0 hd K' hK
              obtain ⟨xs, rfl, hC, hW⟩ := hI
              obtain ⟨v8, e8⟩ : ∃ v : ByteArray, xs 8 = .string v := hC 8 (hd ⟨8, .data⟩ (by simp) rfl)
              have hK2 := Lib.hid hK
              have hC2 := Lib.hid hC
              clear hd hK hC h0
              go_simp
              exact hK2.out _ _ ⟨updV xs 9 (.slice (some ⟨w'.heap.size, 0, none⟩) 3 3), by simp [updV, e8], cond_set hC2.out (fun j v h => Sat.alloc _ _ _ h) ⟨w'.heap.size, [v8, ⟨#[]⟩, ⟨#[100, 97]⟩], rfl, rfl, heap_alloc_new w' _⟩, ((hW.alloc _).keep (by decide))⟩
            · intro listed a w' hs hI h0 hd K' hK
              obtain ⟨xs, rfl, hC, hW⟩ := hI
              have e4 : xs 4 = (.pointer (some ⟨g, 0, none⟩)) := hC 4 (hd ⟨4, .data⟩ (by simp) rfl)
              obtain ⟨z9, l9, e9, hl9, hz9⟩ : ∃ (z : Nat) (l : List ByteArray), xs 9 = .slice (some ⟨z, 0, none⟩) 3 3 ∧ l.length = 3 ∧ w'.heap[z]? = some (.cells (l.map Value.string).toArray 9 (0, 0)) := hC 9 (hd ⟨9, .data⟩ (by simp) rfl)
              have hK2 := Lib.hid hK
              have hC2 := Lib.hid hC
              obtain ⟨k9, s9, hk9, hnx⟩ := MW1k.call hgb hW h0 (by decide) (by decide)
              have r9 : RS 9 w' (some ⟨z9, 0, none⟩) 3 l9 := R1.of_lit hz9 rfl hl9 (by decide)
              clear h0
              clear hd hK hC
              go_simp
              refine (some_c g zs _ _ _ _ _ _ s9 (by omega) r9 (by decide)).mono ?_; rintro e w1 ⟨rfl, s10, g10⟩
              exact hK2.out _ _ ⟨updV xs 10 (.string (pickV zs k9 l9)), by simp [updV, e4, e9], cond_set hC2.out (fun j v h => Sat.stream (s9.keep g10) (by decide) (by decide) (by decide) _ _ h) ⟨_, rfl⟩, hnx _ _ (by omega) s10 g10⟩
            · intro listed a w' hs hI h0 hd K' hK
              obtain ⟨xs, rfl, hC, hW⟩ := hI
              have hK2 := Lib.hid hK
              have hC2 := Lib.hid hC
              have c9 := hW.cell (blk_cell c91 0 rfl) (by show p1 ≠ g; omega) hp1b
              clear hd hK hC h0
              go_simp
              exact hK2.out _ _ ⟨updV xs 11 (.pointer (some ⟨g, 0, none⟩)), by simp [updV], cond_set hC2.out (fun _ _ h => h) rfl, hW.keep (by decide)⟩
            · intro listed a w' hs hI h0 hd K' hK
              obtain ⟨xs, rfl, hC, hW⟩ := hI
              have hK2 := Lib.hid hK
              have hC2 := Lib.hid hC
              clear hd hK hC h0
              go_simp
              exact hK2.out _ _ ⟨updV xs 12 (.pointer (some ⟨b, q * 6, none⟩)), by simp [updV], cond_set hC2.out (fun _ _ h => h) rfl, hW.keep (by decide)⟩
            · intro listed a w' hs hI h0 hd K' hK
              obtain ⟨xs, rfl, hC, hW⟩ := hI
              have e12 : xs 12 = (.pointer (some ⟨b, q * 6, none⟩)) := hC 12 (hd ⟨12, .data⟩ (by simp) rfl)
              have hK2 := Lib.hid hK
              have hC2 := Lib.hid hC
              clear hd hK hC h0
              go_simp
              exact hK2.out _ _ ⟨updV xs 13 (.pointer (some ⟨b, q * 6, none⟩)), by simp [updV, e12], cond_set hC2.out (fun _ _ h => h) rfl, hW.keep (by decide)⟩
            · intro listed a w' hs hI h0 hd K' hK
              obtain ⟨xs, rfl, hC, hW⟩ := hI
              have e13 : xs 13 = (.pointer (some ⟨b, q * 6, none⟩)) := hC 13 (hd ⟨13, .data⟩ (by simp) rfl)
              have hK2 := Lib.hid hK
              have hC2 := Lib.hid hC
              clear hd hK hC h0
              go_simp
              exact hK2.out _ _ ⟨updV xs 14 (.pointer (some ⟨b, q * 6 + 1, none⟩)), by simp [updV, e13], cond_set hC2.out (fun _ _ h => h) rfl, hW.keep (by decide)⟩
            · intro listed a w' hs hI h0 hd K' hK
              obtain ⟨xs, rfl, hC, hW⟩ := hI
              have e14 : xs 14 = (.pointer (some ⟨b, q * 6 + 1, none⟩)) := hC 14 (hd ⟨14, .data⟩ (by simp) rfl)
              have hK2 := Lib.hid hK
              have hC2 := Lib.hid hC
              obtain ⟨u9, c9, ⟨x9, rfl⟩, f9⟩ := hW.load sgK (s := 6) rfl (q := q) (d := 1) hq (by decide)
              clear hd hK hC h0
              go_simp
              exact hK2.out _ _ ⟨updV xs 15 (.int .i64 x9), by simp [updV, e14], cond_set hC2.out (fun _ _ h => h) ⟨_, rfl⟩, hW.keep (by decide)⟩
            · intro listed a w' hs hI h0 hd K' hK
              obtain ⟨xs, rfl, hC, hW⟩ := hI
              obtain ⟨v15, e15⟩ : ∃ v : Int, xs 15 = .int .i64 v := hC 15 (hd ⟨15, .data⟩ (by simp) rfl)
              have hK2 := Lib.hid hK
              have hC2 := Lib.hid hC
              clear hd hK hC h0
              go_simp
              exact hK2.out _ _ ⟨updV xs 16 (.slice (some ⟨w'.heap.size, 0, none⟩) 3 3), by simp [updV, e15], cond_set hC2.out (fun j v h => Sat.alloc _ _ _ h) ⟨w'.heap.size, [v15, 0, 1], rfl, rfl, heap_alloc_new w' _⟩, ((hW.alloc _).keep (by decide))⟩
            · intro listed a w' hs hI h0 hd K' hK
              obtain ⟨xs, rfl, hC, hW⟩ := hI
              have e11 : xs 11 = (.pointer (some ⟨g, 0, none⟩)) := hC 11 (hd ⟨11, .data⟩ (by simp) rfl)
              obtain ⟨z16, l16, e16, hl16, hz16⟩ : ∃ (z : Nat) (l : List Int), xs 16 = .slice (some ⟨z, 0, none⟩) 3 3 ∧ l.length = 3 ∧ w'.heap[z]? = some (.cells (ints l).toArray 3 (0, 0)) := hC 16 (hd ⟨16, .data⟩ (by simp) rfl)
              have hK2 := Lib.hid hK
              have hC2 := Lib.hid hC
              obtain ⟨k9, s9, hk9, hnx⟩ := MW1k.call hgb hW h0 (by decide) (by decide)
              have r9 : RI 3 w' (some ⟨z16, 0, none⟩) 3 l16 := R1.of_lit hz16 rfl hl16 (by decide)
              clear h0
              clear hd hK hC
              go_simp
              refine (pickE_c g zs _ _ _ _ _ _ s9 (by omega) r9 (by decide)).mono ?_; rintro e w1 ⟨v, rfl, hv9, s10, g10⟩
              exact hK2.out _ _ ⟨updV xs 17 (.int .i64 v), by simp [updV, e11, e16], cond_set hC2.out (fun j v h => Sat.stream (s9.keep g10) (by decide) (by decide) (by decide) _ _ h) ⟨_, rfl⟩, hnx _ _ (by omega) s10 g10⟩
            · intro listed a w' hs hI h0 hd K' hK
              obtain ⟨xs, rfl, hC, hW⟩ := hI
              have hK2 := Lib.hid hK
              have hC2 := Lib.hid hC
              have c9 := hW.cell (blk_cell c91 0 rfl) (by show p1 ≠ g; omega) hp1b
              clear hd hK hC h0
              go_simp
              exact hK2.out _ _ ⟨updV xs 18 (.pointer (some ⟨g, 0, none⟩)), by simp [updV], cond_set hC2.out (fun _ _ h => h) rfl, hW.keep (by decide)⟩
            · intro listed a w' hs hI h0 hd K' hK
              obtain ⟨xs, rfl, hC, hW⟩ := hI
              have hK2 := Lib.hid hK
              have hC2 := Lib.hid hC
              clear hd hK hC h0
              go_simp
              exact hK2.out _ _ ⟨updV xs 19 (.pointer (some ⟨b, q * 6, none⟩)), by simp [updV], cond_set hC2.out (fun _ _ h => h) rfl, hW.keep (by decide)⟩
            · intro listed a w' hs hI h0 hd K' hK
              obtain ⟨xs, rfl, hC, hW⟩ := hI
              have e19 : xs 19 = (.pointer (some ⟨b, q * 6, none⟩)) := hC 19 (hd ⟨19, .data⟩ (by simp) rfl)
              have hK2 := Lib.hid hK
              have hC2 := Lib.hid hC
              clear hd hK hC h0
              go_simp
              exact hK2.out _ _ ⟨updV xs 20 (.pointer (some ⟨b, q * 6, none⟩)), by simp [updV, e19], cond_set hC2.out (fun _ _ h => h) rfl, hW.keep (by decide)⟩
            · intro listed a w' hs hI h0 hd K' hK
              obtain ⟨xs, rfl, hC, hW⟩ := hI
              have e20 : xs 20 = (.pointer (some ⟨b, q * 6, none⟩)) := hC 20 (hd ⟨20, .data⟩ (by simp) rfl)
              have hK2 := Lib.hid hK
              have hC2 := Lib.hid hC
              clear hd hK hC h0
              go_simp
              exact hK2.out _ _ ⟨updV xs 21 (.pointer (some ⟨b, q * 6 + 4, none⟩)), by simp [updV, e20], cond_set hC2.out (fun _ _ h => h) rfl, hW.keep (by decide)⟩
            · intro listed a w' hs hI h0 hd K' hK
              obtain ⟨xs, rfl, hC, hW⟩ := hI
              have e21 : xs 21 = (.pointer (some ⟨b, q * 6 + 4, none⟩)) := hC 21 (hd ⟨21, .data⟩ (by simp) rfl)
              have hK2 := Lib.hid hK
              have hC2 := Lib.hid hC
              obtain ⟨u9, c9, ⟨x9, rfl⟩, f9⟩ := hW.load sgK (s := 6) rfl (q := q) (d := 4) hq (by decide)
              clear hd hK hC h0
              go_simp
              exact hK2.out _ _ ⟨updV xs 22 (.int .i64 x9), by simp [updV, e21], cond_set hC2.out (fun _ _ h => h) ⟨_, rfl⟩, hW.keep (by decide)⟩
            · intro listed a w' hs hI h0 hd K' hK
              obtain ⟨xs, rfl, hC, hW⟩ := hI
              obtain ⟨v22, e22⟩ : ∃ v : Int, xs 22 = .int .i64 v := hC 22 (hd ⟨22, .data⟩ (by simp) rfl)
              have hK2 := Lib.hid hK
              have hC2 := Lib.hid hC
              clear hd hK hC h0
              go_simp
              exact hK2.out _ _ ⟨updV xs 23 (.slice (some ⟨w'.heap.size, 0, none⟩) 3 3), by simp [updV, e22], cond_set hC2.out (fun j v h => Sat.alloc _ _ _ h) ⟨w'.heap.size, [v22, 0, 11], rfl, rfl, heap_alloc_new w' _⟩, ((hW.alloc _).keep (by decide))⟩
            · intro listed a w' hs hI h0 hd K' hK
              obtain ⟨xs, rfl, hC, hW⟩ := hI
              have e18 : xs 18 = (.pointer (some ⟨g, 0, none⟩)) := hC 18 (hd ⟨18, .data⟩ (by simp) rfl)
              obtain ⟨z23, l23, e23, hl23, hz23⟩ : ∃ (z : Nat) (l : List Int), xs 23 = .slice (some ⟨z, 0, none⟩) 3 3 ∧ l.length = 3 ∧ w'.heap[z]? = some (.cells (ints l).toArray 3 (0, 0)) := hC 23 (hd ⟨23, .data⟩ (by simp) rfl)
              have hK2 := Lib.hid hK
              have hC2 := Lib.hid hC
              obtain ⟨k9, s9, hk9, hnx⟩ := MW1k.call hgb hW h0 (by decide) (by decide)
              have r9 : RI 3 w' (some ⟨z23, 0, none⟩) 3 l23 := R1.of_lit hz23 rfl hl23 (by decide)
              clear h0
              clear hd hK hC
              go_simp
              refine (pickE_c g zs _ _ _ _ _ _ s9 (by omega) r9 (by decide)).mono ?_; rintro e w1 ⟨v, rfl, hv9, s10, g10⟩
              exact hK2.out _ _ ⟨updV xs 24 (.int .i64 v), by simp [updV, e18, e23], cond_set hC2.out (fun j v h => Sat.stream (s9.keep g10) (by decide) (by decide) (by decide) _ _ h) ⟨_, rfl⟩, hnx _ _ (by omega) s10 g10⟩
            · intro listed a w' hs hI h0 hd K' hK
              obtain ⟨xs, rfl, hC, hW⟩ := hI
              have hK2 := Lib.hid hK
              have hC2 := Lib.hid hC
              have c9 := hW.cell (blk_cell c91 0 rfl) (by show p1 ≠ g; omega) hp1b
              clear hd hK hC h0
              go_simp
              exact hK2.out _ _ ⟨updV xs 25 (.pointer (some ⟨g, 0, none⟩)), by simp [updV], cond_set hC2.out (fun _ _ h => h) rfl, hW.keep (by decide)⟩
            · intro listed a w' hs hI h0 hd K' hK
              obtain ⟨xs, rfl, hC, hW⟩ := hI
              have hK2 := Lib.hid hK
              have hC2 := Lib.hid hC
              clear hd hK hC h0
              go_simp
              exact hK2.out _ _ ⟨updV xs 26 (.pointer (some ⟨b, q * 6, none⟩)), by simp [updV], cond_set hC2.out (fun _ _ h => h) rfl, hW.keep (by decide)⟩
            · intro listed a w' hs hI h0 hd K' hK
              obtain ⟨xs, rfl, hC, hW⟩ := hI
              have e26 : xs 26 = (.pointer (some ⟨b, q * 6, none⟩)) := hC 26 (hd ⟨26, .data⟩ (by simp) rfl)
              have hK2 := Lib.hid hK
              have hC2 := Lib.hid hC
              clear hd hK hC h0
              go_simp
              exact hK2.out _ _ ⟨updV xs 27 (.pointer (some ⟨b, q * 6, none⟩)), by simp [updV, e26], cond_set hC2.out (fun _ _ h => h) rfl, hW.keep (by decide)⟩
            · intro listed a w' hs hI h0 hd K' hK
              obtain ⟨xs, rfl, hC, hW⟩ := hI
              have e27 : xs 27 = (.pointer (some ⟨b, q * 6, none⟩)) := hC 27 (hd ⟨27, .data⟩ (by simp) rfl)
              have hK2 := Lib.hid hK
              have hC2 := Lib.hid hC
              clear hd hK hC h0
              go_simp
              exact hK2.out _ _ ⟨updV xs 28 (.pointer (some ⟨b, q * 6 + 5, none⟩)), by simp [updV, e27], cond_set hC2.out (fun _ _ h => h) rfl, hW.keep (by decide)⟩
            · intro listed a w' hs hI h0 hd K' hK
              obtain ⟨xs, rfl, hC, hW⟩ := hI
              have e28 : xs 28 = (.pointer (some ⟨b, q * 6 + 5, none⟩)) := hC 28 (hd ⟨28, .data⟩ (by simp) rfl)
              have hK2 := Lib.hid hK
              have hC2 := Lib.hid hC
              obtain ⟨u9, c9, ⟨x9, rfl⟩, f9⟩ := hW.load sgK (s := 6) rfl (q := q) (d := 5) hq (by decide)
              clear hd hK hC h0
              go_simp
              exact hK2.out _ _ ⟨updV xs 29 (.int .i64 x9), by simp [updV, e28], cond_set hC2.out (fun _ _ h => h) ⟨_, rfl⟩, hW.keep (by decide)⟩
            · intro listed a w' hs hI h0 hd K' hK
              obtain ⟨xs, rfl, hC, hW⟩ := hI
              obtain ⟨v29, e29⟩ : ∃ v : Int, xs 29 = .int .i64 v := hC 29 (hd ⟨29, .data⟩ (by simp) rfl)
              have hK2 := Lib.hid hK
              have hC2 := Lib.hid hC
              clear hd hK hC h0
              go_simp
              exact hK2.out _ _ ⟨updV xs 30 (.slice (some ⟨w'.heap.size, 0, none⟩) 3 3), by simp [updV, e29], cond_set hC2.out (fun j v h => Sat.alloc _ _ _ h) ⟨w'.heap.size, [v29, 0, 1], rfl, rfl, heap_alloc_new w' _⟩, ((hW.alloc _).keep (by decide))⟩
            · intro listed a w' hs hI h0 hd K' hK
              obtain ⟨xs, rfl, hC, hW⟩ := hI
              have e25 : xs 25 = (.pointer (some ⟨g, 0, none⟩)) := hC 25 (hd ⟨25, .data⟩ (by simp) rfl)
              obtain ⟨z30, l30, e30, hl30, hz30⟩ : ∃ (z : Nat) (l : List Int), xs 30 = .slice (some ⟨z, 0, none⟩) 3 3 ∧ l.length = 3 ∧ w'.heap[z]? = some (.cells (ints l).toArray 3 (0, 0)) := hC 30 (hd ⟨30, .data⟩ (by simp) rfl)
              have hK2 := Lib.hid hK
              have hC2 := Lib.hid hC
              obtain ⟨k9, s9, hk9, hnx⟩ := MW1k.call hgb hW h0 (by decide) (by decide)
              have r9 : RI 3 w' (some ⟨z30, 0, none⟩) 3 l30 := R1.of_lit hz30 rfl hl30 (by decide)
              clear h0
              clear hd hK hC
              go_simp
              refine (pickE_c g zs _ _ _ _ _ _ s9 (by omega) r9 (by decide)).mono ?_; rintro e w1 ⟨v, rfl, hv9, s10, g10⟩
              exact hK2.out _ _ ⟨updV xs 31 (.int .i64 v), by simp [updV, e25, e30], cond_set hC2.out (fun j v h => Sat.stream (s9.keep g10) (by decide) (by decide) (by decide) _ _ h) ⟨_, rfl⟩, hnx _ _ (by omega) s10 g10⟩
            · intro listed a w' hs hI h0 hd K' hK
              obtain ⟨xs, rfl, hC, hW⟩ := hI
              have e0 : xs 0 = (.pointer (some ⟨b, q * 6, none⟩)) := hC 0 (hd ⟨0, .data⟩ (by simp) rfl)
              have hK2 := Lib.hid hK
              have hC2 := Lib.hid hC
              clear hd hK hC h0
              go_simp
              exact hK2.out _ _ ⟨updV xs 32 (.pointer (some ⟨b, q * 6, none⟩)), by simp [updV, e0], cond_set hC2.out (fun _ _ h => h) rfl, hW.keep (by decide)⟩
            · intro listed a w' hs hI h0 hd K' hK
              obtain ⟨xs, rfl, hC, hW⟩ := hI
              have e32 : xs 32 = (.pointer (some ⟨b, q * 6, none⟩)) := hC 32 (hd ⟨32, .data⟩ (by simp) rfl)
              have hK2 := Lib.hid hK
              have hC2 := Lib.hid hC
              clear hd hK hC h0
              go_simp
              exact hK2.out _ _ ⟨updV xs 33 (.pointer (some ⟨b, q * 6, none⟩)), by simp [updV, e32], cond_set hC2.out (fun _ _ h => h) rfl, hW.keep (by decide)⟩
            · intro listed a w' hs hI h0 hd K' hK
              obtain ⟨xs, rfl, hC, hW⟩ := hI
              obtain ⟨v10, e10⟩ : ∃ v : ByteArray, xs 10 = .string v := hC 10 (hd ⟨10, .data⟩ (by simp) rfl)
              have e33 : xs 33 = (.pointer (some ⟨b, q * 6, none⟩)) := hC 33 (hd ⟨33, .data⟩ (by simp) rfl)
              have hK2 := Lib.hid hK
              have hC2 := Lib.hid hC
              obtain ⟨u9, c9, _, f9⟩ := hW.load sgK (s := 6) rfl (q := q) (d := 0) hq (by decide)
              obtain ⟨cs9, hcs9⟩ := hW.blk
              have hS9 := Lib.hid (MW1k.store sgK (s := 6) rfl hgb hW (q := q) (d := 0) hq (by decide) (v := .string v10) ⟨_, rfl⟩)
              rw [Nat.add_zero] at c9 f9 hS9
              clear hd hK hC h0
              go_simp
              exact hK2.out _ _ ⟨updV xs 34 (undef), by simp [updV, e10, e33], cond_set hC2.out (fun j v h => Sat.set sgK hcs9 (by decide) (by decide) (okAt (q := q) (s := 6) (c := 0) rfl rfl ⟨_, rfl⟩) _ _ h) trivial, hS9.out.keep (by decide)⟩
            · intro listed a w' hs hI h0 hd K' hK
              obtain ⟨xs, rfl, hC, hW⟩ := hI
              have e1 : xs 1 = (.pointer (some ⟨b, q * 6, none⟩)) := hC 1 (hd ⟨1, .data⟩ (by simp) rfl)
              have hK2 := Lib.hid hK
              have hC2 := Lib.hid hC
              clear hd hK hC h0
              go_simp
              exact hK2.out _ _ ⟨updV xs 35 (.pointer (some ⟨b, q * 6, none⟩)), by simp [updV, e1], cond_set hC2.out (fun _ _ h => h) rfl, hW.keep (by decide)⟩
            · intro listed a w' hs hI h0 hd K' hK
              obtain ⟨xs, rfl, hC, hW⟩ := hI
              have e35 : xs 35 = (.pointer (some ⟨b, q * 6, none⟩)) := hC 35 (hd ⟨35, .data⟩ (by simp) rfl)
              have hK2 := Lib.hid hK
              have hC2 := Lib.hid hC
              clear hd hK hC h0
              go_simp
              exact hK2.out _ _ ⟨updV xs 36 (.pointer (some ⟨b, q * 6 + 1, none⟩)), by simp [updV, e35], cond_set hC2.out (fun _ _ h => h) rfl, hW.keep (by decide)⟩
            · intro listed a w' hs hI h0 hd K' hK
              obtain ⟨xs, rfl, hC, hW⟩ := hI
              obtain ⟨v17, e17⟩ : ∃ v : Int, xs 17 = .int .i64 v := hC 17 (hd ⟨17, .data⟩ (by simp) rfl)
              have e36 : xs 36 = (.pointer (some ⟨b, q * 6 + 1, none⟩)) := hC 36 (hd ⟨36, .data⟩ (by simp) rfl)
              have hK2 := Lib.hid hK
              have hC2 := Lib.hid hC
              obtain ⟨u9, c9, _, f9⟩ := hW.load sgK (s := 6) rfl (q := q) (d := 1) hq (by decide)
              obtain ⟨cs9, hcs9⟩ := hW.blk
              have hS9 := Lib.hid (MW1k.store sgK (s := 6) rfl hgb hW (q := q) (d := 1) hq (by decide) (v := .int .i64 v17) ⟨_, rfl⟩)
              clear hd hK hC h0
              go_simp
              exact hK2.out _ _ ⟨updV xs 37 (undef), by simp [updV, e17, e36], cond_set hC2.out (fun j v h => Sat.set sgK hcs9 (by decide) (by decide) (okAt (q := q) (s := 6) (c := 1) rfl rfl ⟨_, rfl⟩) _ _ h) trivial, hS9.out.keep (by decide)⟩
            · intro listed a w' hs hI h0 hd K' hK
              obtain ⟨xs, rfl, hC, hW⟩ := hI
              have e2 : xs 2 = (.pointer (some ⟨b, q * 6, none⟩)) := hC 2 (hd ⟨2, .data⟩ (by simp) rfl)
              have hK2 := Lib.hid hK
              have hC2 := Lib.hid hC
              clear hd hK hC h0
              go_simp
              exact hK2.out _ _ ⟨updV xs 38 (.pointer (some ⟨b, q * 6, none⟩)), by simp [updV, e2], cond_set hC2.out (fun _ _ h => h) rfl, hW.keep (by decide)⟩
            · intro listed a w' hs hI h0 hd K' hK
              obtain ⟨xs, rfl, hC, hW⟩ := hI
              have e38 : xs 38 = (.pointer (some ⟨b, q * 6, none⟩)) := hC 38 (hd ⟨38, .data⟩ (by simp) rfl)
              have hK2 := Lib.hid hK
              have hC2 := Lib.hid hC
              clear hd hK hC h0
              go_simp
              exact hK2.out _ _ ⟨updV xs 39 (.pointer (some ⟨b, q * 6 + 4, none⟩)), by simp [updV, e38], cond_set hC2.out (fun _ _ h => h) rfl, hW.keep (by decide)⟩
            · intro listed a w' hs hI h0 hd K' hK
              obtain ⟨xs, rfl, hC, hW⟩ := hI
              obtain ⟨v24, e24⟩ : ∃ v : Int, xs 24 = .int .i64 v := hC 24 (hd ⟨24, .data⟩ (by simp) rfl)
              have e39 : xs 39 = (.pointer (some ⟨b, q * 6 + 4, none⟩)) := hC 39 (hd ⟨39, .data⟩ (by simp) rfl)
              have hK2 := Lib.hid hK
              have hC2 := Lib.hid hC
              obtain ⟨u9, c9, _, f9⟩ := hW.load sgK (s := 6) rfl (q := q) (d := 4) hq (by decide)
              obtain ⟨cs9, hcs9⟩ := hW.blk
              have hS9 := Lib.hid (MW1k.store sgK (s := 6) rfl hgb hW (q := q) (d := 4) hq (by decide) (v := .int .i64 v24) ⟨_, rfl⟩)
              clear hd hK hC h0
              go_simp
              exact hK2.out _ _ ⟨updV xs 40 (undef), by simp [updV, e24, e39], cond_set hC2.out (fun j v h => Sat.set sgK hcs9 (by decide) (by decide) (okAt (q := q) (s := 6) (c := 4) rfl rfl ⟨_, rfl⟩) _ _ h) trivial, hS9.out.keep (by decide)⟩
            · intro listed a w' hs hI h0 hd K' hK
              obtain ⟨xs, rfl, hC, hW⟩ := hI
              have e3 : xs 3 = (.pointer (some ⟨b, q * 6, none⟩)) := hC 3 (hd ⟨3, .data⟩ (by simp) rfl)
              have hK2 := Lib.hid hK
              have hC2 := Lib.hid hC
              clear hd hK hC h0
              go_simp
              exact hK2.out _ _ ⟨updV xs 41 (.pointer (some ⟨b, q * 6, none⟩)), by simp [updV, e3], cond_set hC2.out (fun _ _ h => h) rfl, hW.keep (by decide)⟩
            · intro listed a w' hs hI h0 hd K' hK
              obtain ⟨xs, rfl, hC, hW⟩ := hI
              have e41 : xs 41 = (.pointer (some ⟨b, q * 6, none⟩)) := hC 41 (hd ⟨41, .data⟩ (by simp) rfl)
              have hK2 := Lib.hid hK
              have hC2 := Lib.hid hC
              clear hd hK hC h0
              go_simp
              exact hK2.out _ _ ⟨updV xs 42 (.pointer (some ⟨b, q * 6 + 5, none⟩)), by simp [updV, e41], cond_set hC2.out (fun _ _ h => h) rfl, hW.keep (by decide)⟩
            · intro listed a w' hs hI h0 hd K' hK
              obtain ⟨xs, rfl, hC, hW⟩ := hI
              obtain ⟨v31, e31⟩ : ∃ v : Int, xs 31 = .int .i64 v := hC 31 (hd ⟨31, .data⟩ (by simp) rfl)
              have e42 : xs 42 = (.pointer (some ⟨b, q * 6 + 5, none⟩)) := hC 42 (hd ⟨42, .data⟩ (by simp) rfl)
              have hK2 := Lib.hid hK
              have hC2 := Lib.hid hC
              obtain ⟨u9, c9, _, f9⟩ := hW.load sgK (s := 6) rfl (q := q) (d := 5) hq (by decide)
              obtain ⟨cs9, hcs9⟩ := hW.blk
              have hS9 := Lib.hid (MW1k.store sgK (s := 6) rfl hgb hW (q := q) (d := 5) hq (by decide) (v := .int .i64 v31) ⟨_, rfl⟩)
              clear hd hK hC h0
              go_simp
              exact hK2.out _ _ ⟨updV xs 43 (undef), by simp [updV, e31, e42], cond_set hC2.out (fun j v h => Sat.set sgK hcs9 (by decide) (by decide) (okAt (q := q) (s := 6) (c := 5) rfl rfl ⟨_, rfl⟩) _ _ h) trivial, hS9.out.keep (by decide)⟩
          case he =>
            intro listed a w' hs hI hr
            obtain ⟨xs, rfl, hC, hW⟩ := hI
            clear hC hs hr
            have c9 := hW.cell (blk_cell c92 0 rfl) (by show p2 ≠ g; omega) (by show p2 ≠ b; omega)
            obtain ⟨k10, l10, s10, o10, hl10, g10, hk10, hh10⟩ := hW.out gr9 (by have := hO.o1; omega)
            clear hW
            go_wp2
            go_ret
            exact ⟨_, n, c, l10, k10, rfl, own_mono o10 (by have := hO.o1; omega), hl10, hn1, hn18, s10, by omega, g10, hh10⟩
theorem signals_c (g : Nat) (zs : Zs) (k : Nat) (w : World) (h : St w g zs k) (hk : k + 400 ≤ 1099511627776) :
    Calls Tryz.prog 34 #[.pointer (some ⟨g, 0, none⟩)] w (RetSg w g zs k) :=
  (signalsH_c g zs k w h hk).mono fun _ _ ⟨A, n, c, l, k2, a1, a2, a3, a4, a5, a6, a7, a8, _⟩ => ⟨A, n, c, l, k2, a1, a2, a3, a4, a5, a6, a7, a8⟩
end Go.Proofs.YtnkhdofcmanipaaGreatDoor
