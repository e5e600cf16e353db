/- The stream's signals: the closure put. Printed by wip/gensigm.py. -/
import Derived.Test.YtmfebjeddgigmaaGreatDoorMkReg
import Derived.Test.YtmfebjeddgigmaaGreatDoorSigD
import Derived.Test.YtmfebjeddgigmaaGreatDoorSortS
namespace Go.Proofs.YtmfebjeddgigmaaGreatDoor
open Go.RowKit Go.Shelf Go.Lib Go.Sort
open Go.Maps (Keyed string_keyed)
open Go.WideMaps (keyOf_string_mk)
set_option linter.unusedVariables false

theorem sgK : EncK sgE [0, 1, 1, 1, 1, 1] := by
  refine ⟨fun _ => rfl, fun x c hc => ?_, fun x c v hc hv => ?_⟩
  · match c, hc with
    | 0, _ => exact ⟨_, rfl, _, rfl⟩
    | 1, _ => exact ⟨_, rfl, _, rfl⟩
    | 2, _ => exact ⟨_, rfl, _, rfl⟩
    | 3, _ => exact ⟨_, rfl, _, rfl⟩
    | 4, _ => exact ⟨_, rfl, _, rfl⟩
    | 5, _ => exact ⟨_, rfl, _, rfl⟩
  · match c, hc, hv with
    | 0, _, ⟨y, h⟩ => subst h; exact ⟨⟨y, x.no, x.kind, x.tm, x.lane, x.time⟩, rfl⟩
    | 1, _, ⟨y, h⟩ => subst h; exact ⟨⟨x.dev, y, x.kind, x.tm, x.lane, x.time⟩, rfl⟩
    | 2, _, ⟨y, h⟩ => subst h; exact ⟨⟨x.dev, x.no, y, x.tm, x.lane, x.time⟩, rfl⟩
    | 3, _, ⟨y, h⟩ => subst h; exact ⟨⟨x.dev, x.no, x.kind, y, x.lane, x.time⟩, rfl⟩
    | 4, _, ⟨y, h⟩ => subst h; exact ⟨⟨x.dev, x.no, x.kind, x.tm, y, x.time⟩, rfl⟩
    | 5, _, ⟨y, h⟩ => subst h; exact ⟨⟨x.dev, x.no, x.kind, x.tm, x.lane, y⟩, rfl⟩
theorem mi_ne {w : World} {b n : Nat} {D : DataW Unit} (h : MI w b n D) {z : Nat} {cs : Array Value} {e : TypeId} (hz : w.heap[z]? = some (.cells cs e (0, 0))) : z ≠ b := by
  obtain ⟨es, clock, hb, _⟩ := h
  intro e2; subst e2
  rw [hz] at hb; cases hb
/-- where the captured variables lie -/
structure SO (w : World) (g p1 p2 pm p3 base : Nat) : Prop where
  g0 : g < w.heap.size
  o1 : w.heap.size ≤ p1
  o2 : p1 < p2
  o3 : p2 < pm
  o4 : pm < p3
  o5 : p3 < base
  o6 : base ≤ p3 + 1
/-- signals under way -/
structure SK (w : World) (g : Nat) (zs : List Int) (p1 p2 pm p3 base : Nat) (u : Value) (acc : List Sg) (kk q : Nat) (wr : World) : Prop where
  st : St wr g zs kk
  b1 : wr.heap[p1]? = some (.cells #[.pointer (some ⟨g, 0, none⟩)] 23 (0, 0))
  b2 : wr.heap[p2]? = some (.cells #[u] 26 (0, 0))
  b3 : wr.heap[p3]? = some (.cells #[.map (some pm)] 153 (0, 0))
  mp : ∃ D, MI wr pm q D
  own : wr.ownsRow base 155 6 u acc.length (acc.flatMap sgE)
  gr : w.grownBy wr (some g)
section
variable {w wr w' : World} {g : Nat} {zs : List Int} {p1 p2 pm p3 base : Nat} {u : Value} {acc : List Sg} {kk q : Nat}
theorem SK.grown (hO : SO w g p1 p2 pm p3 base) (h : SK w g zs p1 p2 pm p3 base u acc kk q wr) {k1 : Nat} (s : St w' g zs k1) (hg : wr.grownBy w' (some g)) : SK w g zs p1 p2 pm p3 base u acc k1 q w' := by
  obtain ⟨g0, o1, o2, o3, o4, o5, o6⟩ := hO
  obtain ⟨D, hm⟩ := h.mp
  exact ⟨s, blk_grown h.b1 hg (fun e => by injection e; omega), blk_grown h.b2 hg (fun e => by injection e; omega), blk_grown h.b3 hg (fun e => by injection e; omega), ⟨D, hm.kept hg (fun e => by injection e; omega)⟩, own_keep h.own (by omega) hg, grown_trans h.gr hg⟩
theorem SK.below (h : SK w g zs p1 p2 pm p3 base u acc kk q wr) (hB : Below wr.heap.size wr w') : SK w g zs p1 p2 pm p3 base u acc kk q w' := by
  obtain ⟨D, hm⟩ := h.mp
  exact ⟨h.st.below hB, blk_below h.b1 hB, blk_below h.b2 hB, blk_below h.b3 hB, ⟨D, hm.kept (row := none) (grown_of_below hB) (by simp)⟩, own_below h.own hB, grown_trans h.gr (grown_of_below hB)⟩
theorem SK.alloc (h : SK w g zs p1 p2 pm p3 base u acc kk q wr) (o : Obj) : SK w g zs p1 p2 pm p3 base u acc kk q (wr.alloc o) := h.below (below_new wr o)
theorem SK.drew (h : SK w g zs p1 p2 pm p3 base u acc kk q wr) : SK w g zs p1 p2 pm p3 base u acc kk q wr.drew := h.below (below_drewN (Below.refl _ _) 1)
/-- a block of the call's own, above the others, is written -/
theorem SK.other (hO : SO w g p1 p2 pm p3 base) (h : SK w g zs p1 p2 pm p3 base u acc kk q wr) {z : Nat} {cs : Array Value} {e : TypeId} (hz : wr.heap[z]? = some (.cells cs e (0, 0))) (hb : p3 < z) (hn : u.ownBlock = none ∨ u.ownBlock ≠ some z) (hg : wr.grownBy w' (some z)) : SK w g zs p1 p2 pm p3 base u acc kk q w' := by
  obtain ⟨g0, o1, o2, o3, o4, o5, o6⟩ := hO
  obtain ⟨D, hm⟩ := h.mp
  exact ⟨h.st.grown hg (fun i e => by injection e; omega), blk_grown h.b1 hg (fun e => by injection e; omega), blk_grown h.b2 hg (fun e => by injection e; omega), blk_grown h.b3 hg (fun e => by injection e; omega), ⟨D, hm.kept hg (fun e => by injection e; omega)⟩, h.own.kept hg hn, grown_own h.gr hg (fun i e => by injection e; omega)⟩
theorem SK.mput (hO : SO w g p1 p2 pm p3 base) (h : SK w g zs p1 p2 pm p3 base u acc kk q wr) {q2 : Nat} {D : DataW Unit} (hm : MI w' pm q2 D) (hg : wr.grownBy w' (some pm)) : SK w g zs p1 p2 pm p3 base u acc kk q2 w' := by
  obtain ⟨g0, o1, o2, o3, o4, o5, o6⟩ := hO
  exact ⟨h.st.grown hg (fun i e => by injection e; omega), blk_grown h.b1 hg (fun e => by injection e; omega), blk_grown h.b2 hg (fun e => by injection e; omega), blk_grown h.b3 hg (fun e => by injection e; omega), ⟨D, hm⟩, h.own.kept hg (by
    cases hv : u.ownBlock with
    | none => exact .inl rfl
    | some b => exact .inr (fun e => by have := own_row_lt h.own b hv; injection e; omega)), grown_own h.gr hg (fun i e => by injection e; omega)⟩
theorem SK.mapq (h : SK w g zs p1 p2 pm p3 base u acc kk q wr) {q2 : Nat} (hq : q ≤ q2) : SK w g zs p1 p2 pm p3 base u acc kk q2 wr := by
  obtain ⟨D, hm⟩ := h.mp
  exact ⟨h.st, h.b1, h.b2, h.b3, ⟨D, hm.mono hq⟩, h.own, h.gr⟩
theorem SK.app (hO : SO w g p1 p2 pm p3 base) (h : SK w g zs p1 p2 pm p3 base u acc kk q wr) {v' : Value} {x : Sg} (ho : w'.ownsRow base 155 6 v' (acc.length + 1) (acc.flatMap sgE ++ sgE x)) (hg : wr.grownBy w' u.ownBlock) : SK w g zs p1 p2 pm p3 base v' (acc ++ [x]) kk q (w'.setCell ⟨p2, 0, none⟩ v') := by
  obtain ⟨g0, o1, o2, o3, o4, o5, o6⟩ := hO
  obtain ⟨D, hm⟩ := h.mp
  have hu : ∀ i, u.ownBlock = some i → base ≤ i := own_row_lt h.own
  have h1 := blk_grown h.b1 hg (fun e => by have := hu _ e.symm; omega)
  have h2 := blk_grown h.b2 hg (fun e => by have := hu _ e.symm; omega)
  have h3 := blk_grown h.b3 hg (fun e => by have := hu _ e.symm; omega)
  have hg2 : w'.grownBy (w'.setCell ⟨p2, 0, none⟩ v') (some p2) := grown_setCell (grown_refl w' _) (p := ⟨p2, 0, none⟩) (.inl rfl) v'
  have ho2 : w'.ownsRow base 155 6 v' (acc ++ [x]).length ((acc ++ [x]).flatMap sgE) := by rw [← flat_snoc, List.length_append]; exact ho
  refine ⟨(h.st.grown hg (fun i e => by have := hu i e; omega)).setAt (b := p2) (o := 0) (by omega) v', blk_grown h1 hg2 (fun e => by injection e; omega), ?_, blk_grown h3 hg2 (fun e => by injection e; omega), ⟨D, (hm.kept hg (fun e => by have := hu _ e.symm; omega)).kept hg2 (fun e => by injection e; omega)⟩, ho2.kept hg2 (by
    cases hv : v'.ownBlock with
    | none => exact .inl rfl
    | some b => exact .inr (fun e => by have := own_row_lt ho2 b hv; injection e; omega)), grown_own (grown_own h.gr hg (fun i e => by have := hu i e; omega)) hg2 (fun i e => by injection e; omega)⟩
  rw [blk_set h2]; rfl
end
set_option maxHeartbeats 3200000 in
set_option maxRecDepth 100000 in
theorem sigPut_c (w : World) (g : Nat) (zs : List Int) (p1 p2 pm p3 base : Nat) (hO : SO w g p1 p2 pm p3 base) (u : Value) (acc : List Sg) (kk q : Nat) (x : Sg) (hx : x.dev.size ≤ 100) (wr : World) (h : SK w g zs p1 p2 pm p3 base u acc kk q wr) (hk : kk + 10 ≤ 1099511627776) (hq : q ≤ 1000) (hn : acc.length ≤ 1000) :
    Calls Tryz.prog 97 #[x.val, .pointer (some ⟨p3, 0, none⟩), .pointer (some ⟨p1, 0, none⟩), .pointer (some ⟨p2, 0, none⟩)] wr fun e w' => e = .returned (.tuple #[]) ∧ ∃ (u' : Value) (y : Sg) (kk' : Nat), SK w g zs p1 p2 pm p3 base u' (acc ++ [y]) kk' (q + 1) w' ∧ kk' ≤ kk + 2 := by
  obtain ⟨dev, no, kd, tm, ln, time⟩ := x
  dsimp only [Sg.val] at *
  have hO' := hO
  obtain ⟨g0, o1, o2, o3, o4, o5, o6⟩ := hO'
  have hz3 := lt_of_heap h.b3
  have hsz := hx
  go_enter Tryz.func97, Tryz.ntmps97
  go_wp2_with fail
  have hz0 := heap_alloc_new wr (.cells #[.string dev, .int .i64 no, .int .i64 kd, .int .i64 tm, .int .i64 ln, .int .i64 time] 155)
  have K0 := h.alloc (.cells #[.string dev, .int .i64 no, .int .i64 kd, .int .i64 tm, .int .i64 ln, .int .i64 time] 155)
  have hlu : u.ownBlock = none ∨ u.ownBlock ≠ some wr.heap.size := by
    cases hv : u.ownBlock with
    | none => exact .inl rfl
    | some b => exact .inr (fun e => by have := (h.own.lt b hv).2; injection e; omega)
  generalize wr.alloc (.cells #[.string dev, .int .i64 no, .int .i64 kd, .int .i64 tm, .int .i64 ln, .int .i64 time] 155) = w1 at *
  generalize hzz : wr.heap.size = z at *
  clear h hx
  have hXa : ∀ kk q (w2 : World) (o : Obj), (fun kk q w' => SK w g zs p1 p2 pm p3 base u acc kk q w' ∧ w'.heap[z]? = some (.cells #[.string dev, .int .i64 no, .int .i64 kd, .int .i64 tm, .int .i64 ln, .int .i64 time] 155 (0, 0))) kk q w2 → (fun kk q w' => SK w g zs p1 p2 pm p3 base u acc kk q w' ∧ w'.heap[z]? = some (.cells #[.string dev, .int .i64 no, .int .i64 kd, .int .i64 tm, .int .i64 ln, .int .i64 time] 155 (0, 0))) kk q (w2.alloc o) := fun kk q w2 o ⟨h1, h2⟩ => ⟨h1.alloc o, blk_alloc h2 o⟩
  have hXt : ∀ kk q (w2 : World), (fun kk q w' => SK w g zs p1 p2 pm p3 base u acc kk q w' ∧ w'.heap[z]? = some (.cells #[.string dev, .int .i64 no, .int .i64 kd, .int .i64 tm, .int .i64 ln, .int .i64 time] 155 (0, 0))) kk q w2 → St w2 g zs kk := fun kk q w2 h => h.1.st
  have hXs : ∀ kk q (w2 w3 : World) k1, (fun kk q w' => SK w g zs p1 p2 pm p3 base u acc kk q w' ∧ w'.heap[z]? = some (.cells #[.string dev, .int .i64 no, .int .i64 kd, .int .i64 tm, .int .i64 ln, .int .i64 time] 155 (0, 0))) kk q w2 → St w3 g zs k1 → w2.grownBy w3 (some g) → (fun kk q w' => SK w g zs p1 p2 pm p3 base u acc kk q w' ∧ w'.heap[z]? = some (.cells #[.string dev, .int .i64 no, .int .i64 kd, .int .i64 tm, .int .i64 ln, .int .i64 time] 155 (0, 0))) k1 q w3 := fun kk q w2 w3 k1 ⟨h1, h2⟩ s hg => ⟨h1.grown hO s hg, blk_grown h2 hg (fun e => by injection e; omega)⟩
  refine wp_region_inv (by kernel_rfl) (fun listed a w' => ∃ xs : Nat → Value, a = { tmps := #[.agg #[.string dev, .int .i64 no, .int .i64 kd, .int .i64 tm, .int .i64 ln, .int .i64 time], .pointer (some ⟨p3, 0, none⟩), .pointer (some ⟨p1, 0, none⟩), .pointer (some ⟨p2, 0, none⟩), .pointer (some ⟨z, 0, none⟩), xs 0, xs 1, xs 2, xs 3, xs 4, xs 5, xs 6, xs 7, undef, undef, undef, undef, undef, undef, undef, undef, undef], defers := [] } ∧ (∀ j, listed.getD j false = true → CT 3 9 155 sgE [.val (.map (some pm)), .val (.pointer (some ⟨z, 0, none⟩)), .val (.string dev), .num, .val (.pointer (some ⟨g, 0, none⟩)), .intsB 4 1 2, .int 1 2, .int (-9223372036854775808) 9223372036854775807, .any] j w' (xs j)) ∧ GW (fun kk q w' => SK w g zs p1 p2 pm p3 base u acc kk q w' ∧ w'.heap[z]? = some (.cells #[.string dev, .int .i64 no, .int .i64 kd, .int .i64 tm, .int .i64 ln, .int .i64 time] 155 (0, 0))) (kk + 2) [6] (q + 1) [8] listed w') ?h0 (AllOps.of ?hs) ?he
  case h0 => exact ⟨fun j => match j with | 0 => undef | 1 => undef | 2 => undef | 3 => undef | 4 => undef | 5 => undef | 6 => undef | 7 => undef | _ => undef, rfl, (fun j hj => by rw [rep_false] at hj; cases hj), GW.start ⟨K0.drew, hz0⟩ (Nat.le_refl _) (Nat.le_refl _)⟩
  case hs =>
    refine ⟨?_, ?_, ?_, ?_, ?_, ?_, ?_, ?_, ?_, trivial⟩
    · intro listed a w' hs hI h0 hd K' hK
      obtain ⟨xs, rfl, hC, hW⟩ := hI
      have hK2 := Lib.hid hK
      have hC2 := Lib.hid hC
      have hW9 := hW
      obtain ⟨kk9, q9, hX9, _, _⟩ := hW9
      have c9 := (blk_facts hX9.1.b3).1 0
      clear hd hK hC h0
      go_simp
      exact hK2.out _ _ ⟨updV xs 0 (.map (some pm)), by simp [updV], cond_set hC2.out (fun _ _ h => h) rfl, hW.keep (by decide) (by decide)⟩
    · intro listed a w' hs hI h0 hd K' hK
      obtain ⟨xs, rfl, hC, hW⟩ := hI
      have hK2 := Lib.hid hK
      have hC2 := Lib.hid hC
      clear hd hK hC h0
      go_simp
      exact hK2.out _ _ ⟨updV xs 1 (.pointer (some ⟨z, 0, none⟩)), by simp [updV], cond_set hC2.out (fun _ _ h => h) rfl, hW.keep (by decide) (by decide)⟩
    · intro listed a w' hs hI h0 hd K' hK
      obtain ⟨xs, rfl, hC, hW⟩ := hI
      have e1 : xs 1 = (.pointer (some ⟨z, 0, none⟩)) := hC 1 (hd ⟨1, .data⟩ (by simp) rfl)
      have hK2 := Lib.hid hK
      have hC2 := Lib.hid hC
      have hW9 := hW
      obtain ⟨kk9, q9, hX9, _, _⟩ := hW9
      have c9 := (blk_facts hX9.2).1 0
      clear hd hK hC h0
      go_simp
      exact hK2.out _ _ ⟨updV xs 2 (.string dev), by simp [updV, e1], cond_set hC2.out (fun _ _ h => h) rfl, hW.keep (by decide) (by decide)⟩
    · intro listed a w' hs hI h0 hd K' hK
      obtain ⟨xs, rfl, hC, hW⟩ := hI
      have e0 : xs 0 = (.map (some pm)) := hC 0 (hd ⟨0, .data⟩ (by simp) rfl)
      have e2 : xs 2 = (.string dev) := hC 2 (hd ⟨2, .data⟩ (by simp) rfl)
      have hK2 := Lib.hid hK
      have hC2 := Lib.hid hC
      have hW9 := hW
      obtain ⟨kk9, q9, hX9, _, _⟩ := hW9
      obtain ⟨D9, hD9⟩ := hX9.1.mp
      obtain ⟨x9, hrun9, _⟩ := mi_lookup hD9 dev (by unfold maxLen; omega)
      clear hd hK hC h0
      go_simp
      exact hK2.out _ _ ⟨updV xs 3 (.int .i64 x9), by simp [updV, e0, e2], cond_set hC2.out (fun _ _ h => h) ⟨_, rfl⟩, hW.keep (by decide) (by decide)⟩
    · intro listed a w' hs hI h0 hd K' hK
      obtain ⟨xs, rfl, hC, hW⟩ := hI
      have hK2 := Lib.hid hK
      have hC2 := Lib.hid hC
      have hW9 := hW
      obtain ⟨kk9, q9, hX9, _, _⟩ := hW9
      have c9 := (blk_facts hX9.1.b1).1 0
      clear hd hK hC h0
      go_simp
      exact hK2.out _ _ ⟨updV xs 4 (.pointer (some ⟨g, 0, none⟩)), by simp [updV], cond_set hC2.out (fun _ _ h => h) rfl, hW.keep (by decide) (by decide)⟩
    · intro listed a w' hs hI h0 hd K' hK
      obtain ⟨xs, rfl, hC, hW⟩ := hI
      have hK2 := Lib.hid hK
      have hC2 := Lib.hid hC
      clear hd hK hC h0
      go_simp
      exact hK2.out _ _ ⟨updV xs 5 (.slice (some ⟨w'.heap.size, 0, none⟩) 4 4), by simp [updV], cond_set hC2.out (fun j v h => Sat.alloc _ _ _ h) ⟨w'.heap.size, [1, 1, 1, 2], rfl, rfl, (fun x hx => by simp at hx; omega), heap_alloc_new w' _⟩, ((GW.alloc hXa hW _).keep (by decide) (by decide))⟩
    · intro listed a w' hs hI h0 hd K' hK
      obtain ⟨xs, rfl, hC, hW⟩ := hI
      have e4 : xs 4 = (.pointer (some ⟨g, 0, none⟩)) := hC 4 (hd ⟨4, .data⟩ (by simp) rfl)
      obtain ⟨z5, l5, e5, hl5, hb5, hz5⟩ : ∃ (z : Nat) (l : List Int), xs 5 = .slice (some ⟨z, 0, none⟩) 4 4 ∧ l.length = 4 ∧ (∀ x ∈ l, 1 ≤ x ∧ x ≤ 2) ∧ w'.heap[z]? = some (.cells (ints l).toArray 3 (0, 0)) := hC 5 (hd ⟨5, .data⟩ (by simp) rfl)
      have hK2 := Lib.hid hK
      have hC2 := Lib.hid hC
      obtain ⟨k9, s9, hk9, hnx⟩ := GW.call hXt hXs hW h0 (by decide) (by decide) (by decide)
      have r9 : RI 3 w' (some ⟨z5, 0, none⟩) 4 l5 := R1.of_lit hz5 rfl hl5 (by decide)
      clear h0
      clear hd hK hC
      go_simp
      refine (pickE_c g zs _ _ _ _ _ _ s9 (by omega) r9 (by decide)).mono ?_; rintro e w1 ⟨v, rfl, hv9, s10, g10⟩
      exact hK2.out _ _ ⟨updV xs 6 (.int .i64 v), by simp [updV, e4, e5], cond_set hC2.out (fun j v h => Sat.stream (s9.keep g10) (by decide) (by decide) (by decide) _ _ h) ⟨v, rfl, hb5 v hv9⟩, hnx _ _ (by omega) s10 g10⟩
    · intro listed a w' hs hI h0 hd K' hK
      obtain ⟨xs, rfl, hC, hW⟩ := hI
      obtain ⟨v3, e3⟩ : ∃ v : Int, xs 3 = .int .i64 v := hC 3 (hd ⟨3, .data⟩ (by simp) rfl)
      obtain ⟨v6, e6, a6, b6⟩ : ∃ v : Int, xs 6 = .int .i64 v ∧ 1 ≤ v ∧ v ≤ 2 := hC 6 (hd ⟨6, .data⟩ (by simp) rfl)
      have hK2 := Lib.hid hK
      have hC2 := Lib.hid hC
      clear hd hK hC h0
      go_simp
      exact hK2.out _ _ ⟨updV xs 7 (.int .i64 (IntKind.i64.wrap (v3 + v6))), by simp [updV, e3, e6], cond_set hC2.out (fun _ _ h => h) ⟨_, rfl, (wrap_bd _).1, (wrap_bd _).2⟩, hW.keep (by decide) (by decide)⟩
    · intro listed a w' hs hI h0 hd K' hK
      obtain ⟨xs, rfl, hC, hW⟩ := hI
      have e0 : xs 0 = (.map (some pm)) := hC 0 (hd ⟨0, .data⟩ (by simp) rfl)
      have e2 : xs 2 = (.string dev) := hC 2 (hd ⟨2, .data⟩ (by simp) rfl)
      obtain ⟨v7, e7, a7, b7⟩ : ∃ v : Int, xs 7 = .int .i64 v ∧ (-9223372036854775808) ≤ v ∧ v ≤ 9223372036854775807 := hC 7 (hd ⟨7, .data⟩ (by simp) rfl)
      have hK2 := Lib.hid hK
      have hC2 := Lib.hid hC
      obtain ⟨k9, q9, hX9, hQ9, hnx⟩ := hW.up h0 (by decide) (by decide) (by decide)
      obtain ⟨D9, hD9⟩ := hX9.1.mp
      obtain ⟨w9, hrun9, r1, r2⟩ := hD9.update (string_keyed Tryz.underlying9) Tryz.underlying153 (key := .string dev) (val := .int .i64 v7) (by unfold maxLen; omega) (keyOf_string_mk Tryz.underlying9 (by unfold maxLen; omega)) (plainElem_int Tryz.underlying3 (by simp [Lit.wf, IntKind.min, IntKind.max, IntKind.signed, IntKind.bits]; omega))
      clear h0
      clear hd hK hC
      go_simp
      exact hK2.out _ _ ⟨updV xs 8 (undef), by simp [updV, e0, e2, e7], cond_set hC2.out (fun j v h => Sat.blocks (fun z cs e _ hz => blk_grown hz r2 (fun e => mi_ne hD9 hz (by injection e))) _ _ h) trivial, hnx _ ⟨hX9.1.mput hO r1 r2, blk_grown hX9.2 r2 (fun e => mi_ne hD9 hX9.2 (by injection e))⟩⟩
  case he =>
    intro listed a w' hs hI hr
    obtain ⟨xs, rfl, hC, hW⟩ := hI
    clear hC hs hr
    obtain ⟨k9, q9, ⟨K9, hz9⟩, hk9, hq9⟩ := hW
    obtain ⟨D9, hD9⟩ := K9.mp
    obtain ⟨nv, hrun, _⟩ := mi_lookup hD9 dev (by unfold maxLen; omega)
    have c3 := (blk_facts K9.b3).1 0
    have c2 := (blk_facts K9.b2).1 0
    have z0 := (blk_facts hz9).1 0
    have fz := (blk_facts hz9).2 1
    have z1 := (blk_facts hz9).1 1
    have hzn := blk_set hz9 1 (.int .i64 nv)
    have Kn := K9.other hO hz9 hz3 hlu (w' := w'.setCell ⟨z, 1, none⟩ (.int .i64 nv)) (grown_setCell (grown_refl w' _) (p := ⟨z, 1, none⟩) (.inl rfl) _)
    have n2 := (blk_facts Kn.b2).1 0
    have y0 := (blk_facts hzn).1 0
    have y1 := (blk_facts hzn).1 1
    have y2 := (blk_facts hzn).1 2
    have y3 := (blk_facts hzn).1 3
    have y4 := (blk_facts hzn).1 4
    have y5 := (blk_facts hzn).1 5
    have how := Lib.hid Kn.own
    have hb0 : base ≤ (w'.setCell ⟨z, 1, none⟩ (.int .i64 nv)).heap.size := by
      have := lt_of_heap hzn
      omega
    clear hzn
    go_wp2_with (at_builtin; refine wpList_app rfl (.tmp 18) (.tmp 20) 26 rfl Tryz.underlying26 info_signal rfl (by omega) (by omega) how.out rfl rfl (by first | rfl | (simp; done)) (by rfl) (by simp [Value.oneCell']) (by omega) hb0 ?_; intro v7 w7 hown7 hg7; obtain ⟨A7, c7, rfl⟩ := own_shape hown7; have h72 := blk_grown Kn.b2 hg7 (fun e => by have := own_row_lt Kn.own _ e.symm; omega); have d2 := (blk_facts h72).1 0; have e2 := (blk_facts h72).2 0)
    have KF := Kn.app hO (x := ⟨dev, nv, kd, tm, ln, time⟩) hown7 hg7
    go_end0
    exact ⟨rfl, _, _, _, KF.mapq (by omega), by omega⟩

end Go.Proofs.YtmfebjeddgigmaaGreatDoor
