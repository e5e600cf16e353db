/- The closure put of the stream's signals as a function of the map and the place. Printed by wip/mksgf.py out of SgN. -/
import Derived.Test.YtklggnglaeagpaaGreatDoorRSgN
import Derived.Test.YtklggnglaeagpaaGreatDoorRFnReg
namespace Go.Proofs.YtklggnglaeagpaaGreatDoor
open Go.RowKit Go.Shelf Go.Lib Go.Sort
open Go.Maps (Keyed string_keyed)
open Go.WideMaps (keyOf_string_mk)
set_option linter.unusedVariables false

/-- what a map of numbers holds at a word -/
def mlook (D : DataW Unit) (s : ByteArray) : Int := match D.atKey (.string s.data.toList) (.lit (.int .i64 0)) with | .lit (.int _ v) => v | _ => 0
theorem mi_lookF {w : World} {b n : Nat} {D : DataW Unit} (h : MI w b n D) (s : ByteArray) (hs : s.size ≤ maxLen) : (Instr.lookup 191 (.map (some b)) (.string s) false).run Tryz.prog w = .ok (.int .i64 (mlook D s)) w := by
  obtain ⟨v, h1, h2⟩ := mi_lookup h s hs
  rw [h1]
  unfold mlook
  rw [h2]
theorem wrap_wfF (y : Int) : (Lit.int .i64 (IntKind.i64.wrap y)).wf = true := by
  have h := wrap_bd y
  generalize IntKind.i64.wrap y = v at *
  simp [Lit.wf, IntKind.min, IntKind.max, IntKind.signed, IntKind.bits]; omega
/-- the map behind a put, and the signal that is put -/
def putD (zs : Zs) (k : Nat) (D : DataW Unit) (dev : ByteArray) : DataW Unit := D.put (.string dev.data.toList) (.lit (.int .i64 (IntKind.i64.wrap (mlook D dev + pickV zs k [1, 1, 1, 2]))))
def putY (zs : Zs) (k : Nat) (D : DataW Unit) (x : Sg) : Sg := ⟨x.dev, mlook (putD zs k D x.dev) x.dev, x.kind, x.tm, x.lane, x.time⟩
def k1S (kk : Nat) : Nat → Nat
  | 0 => kk
  | _ + 1 => kk + 1
def q1S (q : Nat) : Nat → Nat
  | 0 => q
  | 1 => q
  | _ + 2 => q + 1
def d1S (D D2 : DataW Unit) : Nat → DataW Unit
  | 0 => D
  | 1 => D
  | _ + 2 => D2
theorem d1S_le (D D2 : DataW Unit) {m : Nat} (h : m ≤ 1) : d1S D D2 m = D := by
  match m, h with
  | 0, _ => rfl
  | 1, _ => rfl
/-- signals under way, the map told -/
def SKF (w : World) (g : Nat) (zs : Zs) (p1 p2 pm p3 base : Nat) (u : Value) (acc : List Sg) (kk q : Nat) (D : DataW Unit) (wr : World) : Prop := SK w g zs p1 p2 pm p3 base u acc kk q wr ∧ MI wr pm q D
section
variable {w wr w' : World} {g : Nat} {zs : Zs} {p1 p2 pm p3 base : Nat} {u : Value} {acc : List Sg} {kk q : Nat} {D : DataW Unit}
theorem SKF.grown (hO : SO w g p1 p2 pm p3 base) (h : SKF w g zs p1 p2 pm p3 base u acc kk q D wr) {k1 : Nat} (s : St w' g zs k1) (hg : wr.grownBy w' (some g)) : SKF w g zs p1 p2 pm p3 base u acc k1 q D w' :=
  ⟨h.1.grown hO s hg, h.2.kept hg (fun e => by obtain ⟨g0, o1, o2, o3, o4, o5, o6⟩ := hO; injection e; omega)⟩
theorem SKF.below (h : SKF w g zs p1 p2 pm p3 base u acc kk q D wr) (hB : Below wr.heap.size wr w') : SKF w g zs p1 p2 pm p3 base u acc kk q D w' :=
  ⟨h.1.below hB, h.2.kept (row := none) (grown_of_below hB) (by simp)⟩
theorem SKF.alloc (h : SKF w g zs p1 p2 pm p3 base u acc kk q D wr) (o : Obj) : SKF w g zs p1 p2 pm p3 base u acc kk q D (wr.alloc o) := h.below (below_new wr o)
theorem SKF.drew (h : SKF w g zs p1 p2 pm p3 base u acc kk q D wr) : SKF w g zs p1 p2 pm p3 base u acc kk q D wr.drew := h.below (below_drewN (Below.refl _ _) 1)
theorem SKF.other (hO : SO w g p1 p2 pm p3 base) (h : SKF w g zs p1 p2 pm p3 base u acc kk q D wr) {z : Nat} {cs : Array Value} {e : TypeId} (hz : wr.heap[z]? = some (.cells cs e (0, 0))) (hb : p3 < z) (hn : u.ownBlock = none ∨ u.ownBlock ≠ some z) (hg : wr.grownBy w' (some z)) : SKF w g zs p1 p2 pm p3 base u acc kk q D w' :=
  ⟨h.1.other hO hz hb hn hg, h.2.kept hg (fun e => by obtain ⟨g0, o1, o2, o3, o4, o5, o6⟩ := hO; injection e; omega)⟩
theorem SKF.app (hO : SO w g p1 p2 pm p3 base) (h : SKF w g zs p1 p2 pm p3 base u acc kk q D wr) {v' : Value} {x : Sg} (ho : w'.ownsRow base 55 6 v' (acc.length + 1) (acc.flatMap sgE ++ sgE x)) (hg : wr.grownBy w' u.ownBlock) : SKF w g zs p1 p2 pm p3 base v' (acc ++ [x]) kk q D (w'.setCell ⟨p2, 0, none⟩ v') := by
  refine ⟨h.1.app hO ho hg, ?_⟩
  obtain ⟨g0, o1, o2, o3, o4, o5, o6⟩ := hO
  have hu : ∀ i, u.ownBlock = some i → base ≤ i := own_row_lt h.1.own
  have hg2 : w'.grownBy (w'.setCell ⟨p2, 0, none⟩ v') (some p2) := grown_setCell (grown_refl w' _) (p := ⟨p2, 0, none⟩) (.inl rfl) v'
  exact (h.2.kept hg (fun e => by have := hu _ e.symm; omega)).kept hg2 (fun e => by injection e; omega)
end
set_option maxHeartbeats 3200000 in
set_option maxRecDepth 100000 in
theorem sigPutF_c (w : World) (g : Nat) (zs : Zs) (p1 p2 pm p3 base : Nat) (hO : SO w g p1 p2 pm p3 base) (u : Value) (acc : List Sg) (kk q : Nat) (D : DataW Unit) (x : Sg) (hx : x.dev.size ≤ 100) (wr : World) (h : SKF w g zs p1 p2 pm p3 base u acc kk q D wr) (hk : kk + 10 ≤ 1099511627776) (hq : q ≤ 1000) (hn : acc.length ≤ 1000) :
    Calls Tryz.prog 167 #[x.val, .pointer (some ⟨p3, 0, none⟩), .pointer (some ⟨p1, 0, none⟩), .pointer (some ⟨p2, 0, none⟩)] wr fun e w' => e = .returned (.tuple #[]) ∧ ∃ u' : Value, SKF w g zs p1 p2 pm p3 base u' (acc ++ [putY zs kk D x]) (kk + 1) (q + 1) (putD zs kk D x.dev) w' := by
  obtain ⟨dev, no, kd, tm, ln, time⟩ := x
  dsimp only [Sg.val] at *
  obtain ⟨v6, hv6⟩ : ∃ v : Int, Hid (pickV zs kk [1, 1, 1, 2] = v) := ⟨_, Lib.hid rfl⟩
  obtain ⟨x3, hx3⟩ : ∃ v : Int, Hid (mlook D dev = v) := ⟨_, Lib.hid rfl⟩
  obtain ⟨D2, hDe⟩ : ∃ q, putD zs kk D dev = q := ⟨_, rfl⟩
  have hD2 := Lib.hid (show D.put (.string dev.data.toList) (.lit (.int .i64 (IntKind.i64.wrap (x3 + v6)))) = D2 by rw [← hDe, ← hx3.out, ← hv6.out]; rfl)
  obtain ⟨Y, hYe⟩ : ∃ y, putY zs kk D ⟨dev, no, kd, tm, ln, time⟩ = y := ⟨_, rfl⟩
  have hY := Lib.hid (show (⟨dev, mlook D2 dev, kd, tm, ln, time⟩ : Sg) = Y by rw [← hYe, ← hDe]; rfl)
  rw [hDe, hYe]
  clear hDe hYe
  have hO' := hO
  obtain ⟨g0, o1, o2, o3, o4, o5, o6⟩ := hO'
  have hz3 := lt_of_heap h.1.b3
  have hsz := hx
  go_enter Tryz.func167, Tryz.ntmps167
  go_wp2_with fail
  have hz0 := heap_alloc_new wr (.cells #[.string dev, .int .i64 no, .int .i64 kd, .int .i64 tm, .int .i64 ln, .int .i64 time] 55)
  have K0 := h.alloc (.cells #[.string dev, .int .i64 no, .int .i64 kd, .int .i64 tm, .int .i64 ln, .int .i64 time] 55)
  have hlu : u.ownBlock = none ∨ u.ownBlock ≠ some wr.heap.size := by
    cases hv : u.ownBlock with
    | none => exact .inl rfl
    | some b => exact .inr (fun e => by have := (h.1.own.lt b hv).2; injection e; omega)
  generalize wr.alloc (.cells #[.string dev, .int .i64 no, .int .i64 kd, .int .i64 tm, .int .i64 ln, .int .i64 time] 55) = w1 at *
  generalize hzz : wr.heap.size = z at *
  clear h hx
  refine wp_region_inv (by kernel_rfl) (fun listed a w' => ∃ xs : Nat → Value, a = { tmps := #[.agg #[.string dev, .int .i64 no, .int .i64 kd, .int .i64 tm, .int .i64 ln, .int .i64 time], .pointer (some ⟨p3, 0, none⟩), .pointer (some ⟨p1, 0, none⟩), .pointer (some ⟨p2, 0, none⟩), .pointer (some ⟨z, 0, none⟩), xs 0, xs 1, xs 2, xs 3, xs 4, xs 5, xs 6, xs 7, undef, undef, undef, undef, undef, undef, undef, undef, undef], defers := [] } ∧ (∀ j, listed.getD j false = true → CF 3 9 [.val (.map (some pm)), .val (.pointer (some ⟨z, 0, none⟩)), .val (.string dev), .val (.int .i64 x3), .val (.pointer (some ⟨g, 0, none⟩)), .intsV ([1, 1, 1, 2]), .val (.int .i64 v6), .val (.int .i64 (IntKind.i64.wrap (x3 + v6))), .any] j w' (xs j)) ∧ CH (fun m wx => SKF w g zs p1 p2 pm p3 base u acc (k1S kk m) (q1S q m) (d1S D D2 m) wx ∧ wx.heap[z]? = some (.cells #[.string dev, .int .i64 no, .int .i64 kd, .int .i64 tm, .int .i64 ln, .int .i64 time] 55 (0, 0))) [6, 8] [(8, 3)] listed w') ?h0 (AllOps.of ?hs) ?he
  case h0 => exact ⟨fun j => match j with | 0 => undef | 1 => undef | 2 => undef | 3 => undef | 4 => undef | 5 => undef | 6 => undef | 7 => undef | _ => undef, rfl, (fun j hj => by rw [rep_false] at hj; cases hj), CH.start ⟨K0.drew, hz0⟩⟩
  case hs =>
    refine ⟨?_, ?_, ?_, ?_, ?_, ?_, ?_, ?_, ?_, trivial⟩
    · intro listed a w' hs hI h0 hd K' hK
      obtain ⟨xs, rfl, hC, hW⟩ := hI
      have hK2 := Lib.hid hK
      have hC2 := Lib.hid hC
      obtain ⟨m9, hX9⟩ := hW.any
      have c9 := (blk_facts hX9.1.1.b3).1 0
      clear hd hK hC
      go_simp
      clear h0
      exact hK2.out _ _ ⟨updV xs 0 (.map (some pm)), by simp [updV], cond_set hC2.out (fun _ _ h => h) rfl, hW.keep (by decide) (by decide)⟩
    · intro listed a w' hs hI h0 hd K' hK
      obtain ⟨xs, rfl, hC, hW⟩ := hI
      have hK2 := Lib.hid hK
      have hC2 := Lib.hid hC
      clear hd hK hC h0
      go_simp
      exact hK2.out _ _ ⟨updV xs 1 (.pointer (some ⟨z, 0, none⟩)), by simp [updV], cond_set hC2.out (fun _ _ h => h) rfl, hW.keep (by decide) (by decide)⟩
    · intro listed a w' hs hI h0 hd K' hK
      obtain ⟨xs, rfl, hC, hW⟩ := hI
      have e1 : xs 1 = (.pointer (some ⟨z, 0, none⟩)) := hC 1 (hd ⟨1, .data⟩ (by simp) rfl)
      have hK2 := Lib.hid hK
      have hC2 := Lib.hid hC
      obtain ⟨m9, hX9⟩ := hW.any
      have c9 := (blk_facts hX9.2).1 0
      clear hd hK hC
      go_simp
      clear h0
      exact hK2.out _ _ ⟨updV xs 2 (.string dev), by simp [updV, e1], cond_set hC2.out (fun _ _ h => h) rfl, hW.keep (by decide) (by decide)⟩
    · intro listed a w' hs hI h0 hd K' hK
      obtain ⟨xs, rfl, hC, hW⟩ := hI
      have e0 : xs 0 = (.map (some pm)) := hC 0 (hd ⟨0, .data⟩ (by simp) rfl)
      have e2 : xs 2 = (.string dev) := hC 2 (hd ⟨2, .data⟩ (by simp) rfl)
      have hK2 := Lib.hid hK
      have hC2 := Lib.hid hC
      obtain ⟨m9, hm9, hX9⟩ := CH.early (j := 1) (s := 8) hW h0 (by simp) rfl
      have hM9 := hX9.1.2
      rw [show d1S D D2 m9 = D from d1S_le _ _ hm9] at hM9
      have hrun9 := mi_lookF hM9 dev (by unfold maxLen; omega)
      rw [hx3.out] at hrun9
      clear h0
      clear hd hK hC
      go_simp
      exact hK2.out _ _ ⟨updV xs 3 (.int .i64 x3), by simp [updV, e0, e2], cond_set hC2.out (fun _ _ h => h) rfl, hW.keep (by decide) (by decide)⟩
    · intro listed a w' hs hI h0 hd K' hK
      obtain ⟨xs, rfl, hC, hW⟩ := hI
      have hK2 := Lib.hid hK
      have hC2 := Lib.hid hC
      obtain ⟨m9, hX9⟩ := hW.any
      have c9 := (blk_facts hX9.1.1.b1).1 0
      clear hd hK hC
      go_simp
      clear h0
      exact hK2.out _ _ ⟨updV xs 4 (.pointer (some ⟨g, 0, none⟩)), by simp [updV], cond_set hC2.out (fun _ _ h => h) rfl, hW.keep (by decide) (by decide)⟩
    · intro listed a w' hs hI h0 hd K' hK
      obtain ⟨xs, rfl, hC, hW⟩ := hI
      have hK2 := Lib.hid hK
      have hC2 := Lib.hid hC
      clear hd hK hC h0
      go_simp
      exact hK2.out _ _ ⟨updV xs 5 (.slice (some ⟨w'.heap.size, 0, none⟩) 4 4), by simp [updV], cond_set hC2.out (fun j v h => SatF.alloc _ _ _ h) ⟨w'.heap.size, rfl, heap_alloc_new w' _⟩, (CH.alloc hW (fun m wx o h => ⟨h.1.alloc o, blk_alloc h.2 o⟩) _).keep (by decide) (by decide)⟩
    · intro listed a w' hs hI h0 hd K' hK
      obtain ⟨xs, rfl, hC, hW⟩ := hI
      have e4 : xs 4 = (.pointer (some ⟨g, 0, none⟩)) := hC 4 (hd ⟨4, .data⟩ (by simp) rfl)
      obtain ⟨z5, e5, hz5⟩ : ∃ z : Nat, xs 5 = .slice (some ⟨z, 0, none⟩) 4 4 ∧ w'.heap[z]? = some (.cells (ints [1, 1, 1, 2]).toArray 3 (0, 0)) := hC 5 (hd ⟨5, .data⟩ (by simp) rfl)
      have hK2 := Lib.hid hK
      have hC2 := Lib.hid hC
      obtain ⟨hX9, hnx⟩ := CH.step (j := 0) hW rfl h0 (.inl rfl) (fun p hp e => by simp only [List.mem_cons, List.not_mem_nil, or_false] at hp; rcases hp with rfl <;> first | exact absurd e (by decide)) (by decide)
      have s9 : St w' g zs kk := hX9.1.1.st
      have r9 : RI 3 w' (some ⟨z5, 0, none⟩) 4 [1, 1, 1, 2] := R1.of_lit hz5 rfl rfl (by decide)
      clear h0
      clear hd hK hC
      go_simp
      refine (pick_c g zs _ _ _ _ _ _ s9 (by omega) r9 (by decide)).mono ?_; rintro e w1 ⟨rfl, s10, g10⟩
      rw [hv6.out]
      exact hK2.out _ _ ⟨updV xs 6 (.int .i64 v6), by simp [updV, e4, e5], cond_set hC2.out (fun j v h => SatF.stream (s9.keep g10) (by decide) (by decide) _ _ h) rfl, hnx _ (⟨hX9.1.grown hO s10 g10, s9.keep g10 z _ _ (0, 0) (by decide) hX9.2⟩)⟩
    · intro listed a w' hs hI h0 hd K' hK
      obtain ⟨xs, rfl, hC, hW⟩ := hI
      have e3 : xs 3 = (.int .i64 x3) := hC 3 (hd ⟨3, .data⟩ (by simp) rfl)
      have e6 : xs 6 = (.int .i64 v6) := hC 6 (hd ⟨6, .data⟩ (by simp) rfl)
      have hK2 := Lib.hid hK
      have hC2 := Lib.hid hC
      clear hd hK hC h0
      go_simp
      exact hK2.out _ _ ⟨updV xs 7 (.int .i64 (IntKind.i64.wrap (x3 + v6))), by simp [updV, e3, e6], cond_set hC2.out (fun _ _ h => h) rfl, hW.keep (by decide) (by decide)⟩
    · intro listed a w' hs hI h0 hd K' hK
      obtain ⟨xs, rfl, hC, hW⟩ := hI
      have e0 : xs 0 = (.map (some pm)) := hC 0 (hd ⟨0, .data⟩ (by simp) rfl)
      have e2 : xs 2 = (.string dev) := hC 2 (hd ⟨2, .data⟩ (by simp) rfl)
      have e7 : xs 7 = (.int .i64 (IntKind.i64.wrap (x3 + v6))) := hC 7 (hd ⟨7, .data⟩ (by simp) rfl)
      have hK2 := Lib.hid hK
      have hC2 := Lib.hid hC
      obtain ⟨hX9, hnx⟩ := CH.step (j := 1) hW rfl h0 (.inr ⟨6, rfl, hd ⟨6, .chain⟩ (by simp) rfl⟩) (fun p hp e => by simp only [List.mem_cons, List.not_mem_nil, or_false] at hp; rcases hp with rfl <;> first | exact absurd e (by decide) | exact hd ⟨3, .phase⟩ (by simp) rfl) (by decide)
      have hM9 : MI w' pm q D := hX9.1.2
      obtain ⟨w9, hrun9, r1, r2⟩ := hM9.update (string_keyed Tryz.underlying9) Tryz.underlying191 (key := .string dev) (val := .int .i64 (IntKind.i64.wrap (x3 + v6))) (by unfold maxLen; omega) (keyOf_string_mk Tryz.underlying9 (by unfold maxLen; omega)) (plainElem_int Tryz.underlying3 (wrap_wfF (x3 + v6)))
      rw [hD2.out] at r1
      clear h0
      clear hd hK hC
      go_simp
      exact hK2.out _ _ ⟨updV xs 8 (undef), by simp [updV, e0, e2, e7], cond_set hC2.out (fun j v h => SatF.blocks (fun z cs e _ hz => blk_grown hz r2 (fun e => mi_ne hM9 hz (by injection e))) _ _ h) trivial, hnx _ ⟨⟨hX9.1.1.mput hO r1 r2, r1⟩, blk_grown hX9.2 r2 (fun e => mi_ne hM9 hX9.2 (by injection e))⟩⟩
  case he =>
    intro listed a w' hs hI hr
    obtain ⟨xs, rfl, hC, hW⟩ := hI
    have hl9 := all_listed hs hr ⟨rfl, rfl, rfl, rfl, rfl, rfl, rfl, rfl, rfl, trivial⟩ 8 (by simp)
    obtain ⟨m9, hm9, hX9⟩ := hW.fin (j := 1) rfl hl9
    clear hW hC hs hr hl9
    obtain ⟨m8, rfl⟩ : ∃ m8, m9 = m8 + 2 := ⟨m9 - 2, by omega⟩
    obtain ⟨K9, hz9⟩ := hX9
    replace K9 : SKF w g zs p1 p2 pm p3 base u acc (kk + 1) (q + 1) D2 w' := K9
    obtain ⟨nv, hnv⟩ : ∃ v, Hid (mlook D2 dev = v) := ⟨_, Lib.hid rfl⟩
    have hrun := mi_lookF K9.2 dev (by unfold maxLen; omega)
    rw [hnv.out] at hrun
    have c3 := (blk_facts K9.1.b3).1 0
    have c2 := (blk_facts K9.1.b2).1 0
    have z0 := (blk_facts hz9).1 0
    have fz := (blk_facts hz9).2 1
    have z1 := (blk_facts hz9).1 1
    have hzn := blk_set hz9 1 (.int .i64 nv)
    have Kn := K9.other hO hz9 hz3 hlu (w' := w'.setCell ⟨z, 1, none⟩ (.int .i64 nv)) (grown_setCell (grown_refl w' _) (p := ⟨z, 1, none⟩) (.inl rfl) _)
    have n2 := (blk_facts Kn.1.b2).1 0
    have y0 := (blk_facts hzn).1 0
    have y1 := (blk_facts hzn).1 1
    have y2 := (blk_facts hzn).1 2
    have y3 := (blk_facts hzn).1 3
    have y4 := (blk_facts hzn).1 4
    have y5 := (blk_facts hzn).1 5
    have how := Lib.hid Kn.1.own
    have hb0 : base ≤ (w'.setCell ⟨z, 1, none⟩ (.int .i64 nv)).heap.size := by
      have := lt_of_heap hzn
      omega
    clear hzn
    go_wp2_with (at_builtin; refine wpList_app rfl (.tmp 18) (.tmp 20) 50 rfl Tryz.underlying50 info_signal rfl (by omega) (by omega) how.out rfl rfl (by first | rfl | (simp; done)) (by rfl) (by simp [Value.oneCell']) (by omega) hb0 ?_; intro v7 w7 hown7 hg7; obtain ⟨A7, c7, rfl⟩ := own_shape hown7; have h72 := blk_grown Kn.1.b2 hg7 (fun e => by have := own_row_lt Kn.1.own _ e.symm; omega); have d2 := (blk_facts h72).1 0; have e2 := (blk_facts h72).2 0)
    have KF := Kn.app hO (x := ⟨dev, nv, kd, tm, ln, time⟩) hown7 hg7
    go_end0
    have hYe : Y = ⟨dev, nv, kd, tm, ln, time⟩ := by rw [← hY.out, ← hnv.out]
    rw [hYe]
    exact ⟨rfl, _, KF⟩

end Go.Proofs.YtklggnglaeagpaaGreatDoor
