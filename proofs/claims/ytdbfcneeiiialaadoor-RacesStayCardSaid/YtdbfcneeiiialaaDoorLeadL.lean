import Derived.Test.YtdbfcneeiiialaaDoorGapsX
import Derived.Test.YtdbfcneeiiialaaDoorLeadT
import Derived.Test.YtdbfcneeiiialaaDoorRegInv2
import Derived.Deep.DeepCutAuto
/- When the first one is at the end: race.first, the reference's winning. Printed by genlead.py. -/
namespace Go.Proofs.YtdbfcneeiiialaaDoor
open Go.RowKit
set_option linter.unusedVariables false

set_option maxHeartbeats 3200000 in
set_option maxRecDepth 100000 in
theorem first_c (A : Option Addr) (n c M : Nat) (l : List Sw) (w : World) (h : RSw w A n l) (hM1 : 1 ≤ M) (hM2 : M ≤ 1000) (hx1 : ∀ x ∈ l, x.n = M) (hbx : ∀ x ∈ l, ∀ y ∈ x.sp, 0 ≤ y ∧ y ≤ 360000) :
    Calls Tryd.prog 23 #[.slice A n c] w fun e w' => e = .returned (.int .i64 (firstG M l)) ∧ Below w.heap.size w w' := by
  have hl := Lib.hid h.len
  have hbd := h.bd
  have hx1' := Lib.hid hx1
  have hbx' := Lib.hid hbx
  clear hx1 hbx
  have hFv' : Hid (minG M l 360000 = firstG M l) := Lib.hid rfl
  generalize firstG M l = F at *
  have e1 : IntKind.i64.wrap ((M : Int) - 1) = (M : Int) - 1 := IntWalk.i64_in _ (by omega)
  have e2 : 0 ≤ (M : Int) - 1 := by omega
  have e3 : ((M : Int) - 1).toNat = M - 1 := by omega
  have e4 : (M : Int) - 1 < M := by omega
  go_enter Tryd.func23, Tryd.ntmps23
  go_wp2_with fail
  go_loopw [3, 8] (fun u i wr => ∃ (k : Nat) (f : Int), k ≤ n ∧ i = .int .i64 k ∧ u = .int .i64 f ∧ 0 ≤ f ∧ f ≤ 360000 ∧ Below w.heap.size w wr ∧ Hid (minG M (l.drop k) f = F)) (fun _ i _ => n - (intOf i).toNat)
  case atStart => exact ⟨0, 360000, Nat.zero_le _, rfl, rfl, by decide, by decide, Below.refl _ _, Lib.hid hFv'.out⟩
  case round =>
    obtain ⟨k, f, hk, rfl, rfl, hf0, hf1, hB, hFF⟩ := hrel
    by_cases hlt : k < n
    · obtain ⟨b, off, x, hA, hbl, hx, c0, c1, hI⟩ := (h.below hB).at2 hlt
      subst hA
      have hxm := List.mem_of_getElem? hx
      have hMx := hx1'.out x hxm
      have hbd := hbx'.out x hxm
      have hT := Lib.hid (minG_at (E := M) f hx)
      obtain ⟨bX, oX, tX, hXA, lX, htX, cX⟩ := hI.at_ (k := M - 1) (by omega)
      have htg : gapV M x = tX := getD_of htX
      have htb := hbd _ (List.mem_of_getElem? htX)
      rw [htg] at hT
      obtain ⟨who, xA, xn, xc, xs⟩ := x
      dsimp only at *
      subst hXA
      subst hMx
      clear hx hxm hbd hI htX htg
      have hx5 := heap_alloc_new wr (.cells #[.string who, .slice (some ⟨bX, oX, none⟩) xn xc] 43)
      have cX5 : (wr.alloc (.cells #[.string who, .slice (some ⟨bX, oX, none⟩) xn xc] 43)).cell? ⟨bX, oX + (xn - 1), none⟩ = some (.int .i64 tX) := (World.cell?_alloc_lt wr _ ⟨bX, oX + (xn - 1), none⟩ (by show bX < wr.heap.size; omega)).trans cX
      have z0 := (blk_facts hx5).1 0
      have z1 := (blk_facts hx5).1 1
      have hB5 := hB.alloc hB.size (.cells #[.string who, .slice (some ⟨bX, oX, none⟩) xn xc] 43)
      clear hB hx5
      go_wp2_with fail
      go_roundw
      case rel => exact ⟨k + 1, min f tX, by omega, by go_num, rfl, by omega, by omega, hB5, Lib.hid (by rw [← hFF.out, hT.out])⟩
      case measure => simp [intOf]; omega
    · obtain rfl : k = n := by omega
      have hFf := hFF.out
      rw [drop_end (by rw [hl.out]; exact Nat.le_refl _)] at hFf
      have hFf2 : f = F := hFf
      subst hFf2
      clear hFF hFf hlt
      go_wp2
      go_ret
      exact ⟨rfl, hB⟩

end Go.Proofs.YtdbfcneeiiialaaDoor

/- A phase's names, one by one: the drawn region's invariant. -/
namespace Go.Proofs.YtdbfcneeiiialaaDoor
open Go.RowKit
set_option linter.unusedVariables false

theorem cond_setX {C : Nat → World → Value → Prop} {w w1 : World} {listed : Array Bool} {xs : Nat → Value} {i : Nat} {v : Value} (hC : ∀ j, listed.getD j false = true → C j w (xs j)) (hm : ∀ j v, j ≠ i → C j w v → C j w1 v) (hv : C i w1 v) :
    ∀ j, (listed.setIfInBounds i true).getD j false = true → C j w1 (updV xs i v j) := fun j hj => by
  unfold updV
  by_cases h : j = i
  · rw [if_pos h, h]; exact hv
  · rw [getD_set_other _ (fun e => h e.symm)] at hj
    rw [if_neg h]; exact hm _ _ h (hC j hj)
theorem getD_lt {listed : Array Bool} {i : Nat} (h : listed.getD i true = false) : i < listed.size ∧ listed.getD i false = false := by
  have his : i < listed.size := by
    rcases Nat.lt_or_ge i listed.size with h' | h'
    · exact h'
    · rw [Array.getD_eq_getD_getElem?, Array.getElem?_eq_none h'] at h; cases h
  refine ⟨his, ?_⟩
  rw [Array.getD_eq_getD_getElem?, Array.getElem?_eq_getElem his] at h ⊢
  exact h
/-- the slots of the region -/
def C19 (sA : Value) (ix : Nat) (pX : Value) (who : ByteArray) (b5 : Nat) (whv : Value) (n : Nat) (acc : List ByteArray) (j : Nat) (w : World) (v : Value) : Prop :=
  match j with
  | 0 | 9 => v = .pointer (some ⟨b5, 2, none⟩)
  | 1 => v = whv
  | 2 => v = sA
  | 3 => v = .int .i64 ix
  | 4 | 5 => v = pX
  | 6 => v = .string who
  | 7 => ∃ z, v = .slice (some ⟨z, 0, none⟩) 1 1 ∧ whv.ownBlock ≠ some z ∧ z ≠ b5 ∧ w.heap[z]? = some (.cells #[.string who] 9 (0, 0))
  | 8 => w.ownsRow (b5 + 1) 9 1 v (n + 1) ((acc ++ [who]).map Value.string)
  | _ => True
section
variable {sA : Value} {ix : Nat} {pX : Value} {who : ByteArray} {b5 : Nat} {whv : Value} {n : Nat} {acc : List ByteArray} {w w1 : World}
theorem C19.alloc (o : Obj) (j : Nat) (v : Value) (h : C19 sA ix pX who b5 whv n acc j w v) : C19 sA ix pX who b5 whv n acc j (w.alloc o) v := by
  unfold C19 at h ⊢
  split at h <;> first | exact h | (obtain ⟨z, h1, h2, h3, h4⟩ := h; exact ⟨z, h1, h2, h3, blk_alloc h4 o⟩) | exact World.ownsRow.alloc h o
theorem C19.app (hg : w.grownBy w1 whv.ownBlock) (j : Nat) (v : Value) (hj : j ≠ 8) (h : C19 sA ix pX who b5 whv n acc j w v) : C19 sA ix pX who b5 whv n acc j w1 v := by
  unfold C19 at h ⊢
  split at h <;> first | exact h | (obtain ⟨z, h1, h2, h3, h4⟩ := h; exact ⟨z, h1, h2, h3, blk_grown h4 hg (fun e => h2 e.symm)⟩) | exact absurd rfl hj
theorem C19.set (u : Value) (j : Nat) (v : Value) (h : C19 sA ix pX who b5 whv n acc j w v) : C19 sA ix pX who b5 whv n acc j (w.setCell ⟨b5, 2, none⟩ u) v := by
  unfold C19 at h ⊢
  split at h <;> first | exact h | (obtain ⟨z, h1, h2, h3, h4⟩ := h; exact ⟨z, h1, h2, h3, blk_other h4 (by show z ≠ b5; exact h3) u⟩) | exact World.ownsRow.kept h (row := some b5) (grown_setCell (grown_refl _ _) (.inl rfl) _) (by
    rcases hc : v.ownBlock with _ | i
    · exact .inl rfl
    · refine .inr fun e => ?_
      injection e with e
      have := (World.ownsRow.lt h i hc).1
      omega)
end
/-- the world beside the region -/
structure W19 (w5 : World) (b5 : Nat) (c0 c1 : Value) (who : ByteArray) (whv : Value) (n : Nat) (acc : List ByteArray) (listed : Array Bool) (w' : World) : Prop where
  bel : Below b5 w5 w'
  sz : b5 + 1 ≤ w'.heap.size
  hb : ∀ i, whv.ownBlock = some i → b5 + 1 ≤ i ∧ i < w'.heap.size
  d10 : listed.getD 10 false = true → listed.getD 8 false = true
  d8 : listed.getD 8 false = true → listed.getD 1 false = true
  bx : listed.getD 10 false = false → w'.heap[b5]? = some (.cells #[c0, c1, whv] 40 (0, 0))
  ow : listed.getD 8 false = false → w'.ownsRow (b5 + 1) 9 1 whv n (acc.map Value.string)
  fin : listed.getD 10 false = true → ∃ v, w'.heap[b5]? = some (.cells #[c0, c1, v] 40 (0, 0)) ∧ w'.ownsRow (b5 + 1) 9 1 v (n + 1) ((acc ++ [who]).map Value.string)
section
variable {w5 w' w7 : World} {b5 : Nat} {c0 c1 : Value} {who : ByteArray} {whv : Value} {n : Nat} {acc : List ByteArray} {listed : Array Bool}
theorem W19.start (hB : Below b5 w5 w') (hbx : w'.heap[b5]? = some (.cells #[c0, c1, whv] 40 (0, 0))) (ho : w'.ownsRow (b5 + 1) 9 1 whv n (acc.map Value.string)) : W19 w5 b5 c0 c1 who whv n acc (Array.replicate 11 false) w' :=
  ⟨hB, lt_of_heap hbx, ho.lt, fun h => absurd h (by decide), fun h => absurd h (by decide), fun _ => hbx, fun _ => ho, fun h => absurd h (by decide)⟩
theorem W19.drew (h : W19 w5 b5 c0 c1 who whv n acc listed w') : W19 w5 b5 c0 c1 who whv n acc listed w'.drew := ⟨below_drewN h.bel 1, h.sz, h.hb, h.d10, h.d8, h.bx, h.ow, h.fin⟩
theorem W19.keep {i : Nat} (h : W19 w5 b5 c0 c1 who whv n acc listed w') (h8 : i ≠ 8) (h10 : i ≠ 10) : W19 w5 b5 c0 c1 who whv n acc (listed.setIfInBounds i true) w' := by
  have e8 : (listed.setIfInBounds i true).getD 8 false = listed.getD 8 false := getD_set_other _ h8
  have e10 : (listed.setIfInBounds i true).getD 10 false = listed.getD 10 false := getD_set_other _ h10
  refine ⟨h.bel, h.sz, h.hb, by rw [e8, e10]; exact h.d10, fun hh => ?_, by rw [e10]; exact h.bx, by rw [e8]; exact h.ow, by rw [e10]; exact h.fin⟩
  rw [e8] at hh
  have h1 := h.d8 hh
  by_cases hi : i = 1
  · subst hi
    have hs1 : 1 < listed.size := by
      rcases Nat.lt_or_ge 1 listed.size with h' | h'
      · exact h'
      · rw [Array.getD_eq_getD_getElem?, Array.getElem?_eq_none h'] at h1; cases h1
    rw [getD_set_self', if_pos hs1]
  · rw [getD_set_other _ hi]; exact h1
theorem W19.alloc (h : W19 w5 b5 c0 c1 who whv n acc listed w') (hb : w5.heap.size = b5) (o : Obj) : W19 w5 b5 c0 c1 who whv n acc listed (w'.alloc o) :=
  ⟨h.bel.alloc (by have := h.sz; omega) o, by have := h.sz; simp; omega, fun i hi => ⟨(h.hb i hi).1, by have := (h.hb i hi).2; simp; omega⟩, h.d10, h.d8, fun e => blk_alloc (h.bx e) o, fun e => (h.ow e).alloc o, fun e => by obtain ⟨v, h1, h2⟩ := h.fin e; exact ⟨v, blk_alloc h1 o, h2.alloc o⟩⟩
theorem W19.app (h : W19 w5 b5 c0 c1 who whv n acc listed w') (h0 : listed.getD 8 true = false) (h1 : listed.getD 1 false = true) (hg : w'.grownBy w7 whv.ownBlock) : W19 w5 b5 c0 c1 who whv n acc (listed.setIfInBounds 8 true) w7 := by
  obtain ⟨hs, hf⟩ := getD_lt h0
  have e10 : (listed.setIfInBounds 8 true).getD 10 false = listed.getD 10 false := getD_set_other _ (by decide)
  have e1 : (listed.setIfInBounds 8 true).getD 1 false = listed.getD 1 false := getD_set_other _ (by decide)
  have e8 : (listed.setIfInBounds 8 true).getD 8 false = true := by rw [getD_set_self', if_pos hs]
  have f10 : listed.getD 10 false = false := by
    cases hc : listed.getD 10 false with
    | false => rfl
    | true => have := h.d10 hc; rw [hf] at this; cases this
  refine ⟨below_own h.bel (h.ow hf) hg (by have := h.sz; omega) (by omega), Nat.le_trans h.sz hg.size, fun i hi => ⟨(h.hb i hi).1, Nat.lt_of_lt_of_le (h.hb i hi).2 hg.size⟩, fun _ => e8, fun _ => by rw [e1]; exact h1, fun _ => blk_grown (h.bx f10) hg (fun e => (by have := (h.hb b5 e.symm).1; omega)), fun e => (by rw [e8] at e; cases e), fun e => (by rw [e10, f10] at e; cases e)⟩
theorem W19.set {v : Value} (h : W19 w5 b5 c0 c1 who whv n acc listed w') (h0 : listed.getD 10 true = false) (h8 : listed.getD 8 false = true) (ho : w'.ownsRow (b5 + 1) 9 1 v (n + 1) ((acc ++ [who]).map Value.string)) : W19 w5 b5 c0 c1 who whv n acc (listed.setIfInBounds 10 true) (w'.setCell ⟨b5, 2, none⟩ v) := by
  obtain ⟨hs, hf⟩ := getD_lt h0
  have e10 : (listed.setIfInBounds 10 true).getD 10 false = true := by rw [getD_set_self', if_pos hs]
  have e8 : (listed.setIfInBounds 10 true).getD 8 false = listed.getD 8 false := getD_set_other _ (by decide)
  have e1 : (listed.setIfInBounds 10 true).getD 1 false = listed.getD 1 false := getD_set_other _ (by decide)
  have hzz : (w'.setCell ⟨b5, 2, none⟩ v).heap.size = w'.heap.size := by simp [World.setCell]
  refine ⟨h.bel.setCell (by show b5 ≤ b5; omega) _, by rw [hzz]; exact h.sz, fun i hi => by rw [hzz]; exact h.hb i hi, fun _ => by rw [e8]; exact h8, fun _ => by rw [e1]; exact h.d8 h8, fun e => (by rw [e10] at e; cases e), fun e => (by rw [e8, h8] at e; cases e), fun _ => ⟨v, blk_set (h.bx hf) 2 v, ?_⟩⟩
  exact C19.set (sA := v) (ix := 0) (pX := v) (whv := whv) v 8 v ho
end
end Go.Proofs.YtdbfcneeiiialaaDoor

/- race.Leads of a right field: who leads for how long. -/
namespace Go.Proofs.YtdbfcneeiiialaaDoor
open Go.RowKit
set_option linter.unusedVariables false

theorem who_at {r : Race} {l : List Sw} {t : Nat} {j : Nat} {x : Sw × Nat} (h : (ldT r l t)[j]? = some x) : ldN ((ldT r l t).drop j) = x.1.who :: ldN ((ldT r l t).drop (j + 1)) := by rw [drop_at h]; rfl
theorem lastP_at (P : List Ph) (y : Ph) : ((P ++ [y]).flatMap phE)[P.length * 3 + 1]? = some (.int .i64 y.t) ∧ ((P ++ [y]).flatMap phE)[P.length * 3 + 2]? = some (.slice y.A y.n y.c) :=
  ⟨flat_at phE_len _ _ y 1 _ (snoc_last P y) rfl, flat_at phE_len _ _ y 2 _ (snoc_last P y) rfl⟩
set_option maxHeartbeats 6400000 in
set_option maxRecDepth 100000 in
theorem leads0_c (r : Race) (A : Option Addr) (n c M : Nat) (l : List Sw) (w : World) (h : RSw w A n l) (h0 : fieldErr r l = 0) (hn1 : 1 ≤ n) (hM : lenV r = M) (hM1 : 1 ≤ M) (hM2 : M ≤ 1000) (hx1 : ∀ x ∈ l, x.n = M) (hbx : ∀ x ∈ l, ∀ y ∈ x.sp, 0 ≤ y ∧ y ≤ 360000) (N : Nat) (hN : firstG M l = N) (hN2 : N ≤ 360000) :
    Calls Tryd.prog 8 #[r.val, .slice A n c] w fun e w' => ∃ A' c' P, e = .returned (.tuple #[.slice A' (P.length) c', .int .i64 0]) ∧ LS w w.heap.size (w.heap.size + 1) r.cells (.slice A' P.length c') P w' ∧ PhIs r l N P := by
  have hn20 : n ≤ 20 := by rw [← h.len]; exact (fieldErr_ok h0).2.1
  have hF := Lib.hid (fun W h => checkField_c r A n c l W h)
  rw [h0] at hF
  have hFi := Lib.hid (fun W h => first_c A n c M l W h hM1 hM2 hx1 hbx)
  rw [hN] at hFi
  have hLd := Lib.hid (fun (t : Nat) W W0 base n0 v xs0 hh hB (ht : t ≤ 360000) hown hb1 hb2 => leaders_c r A n c l t W0 W base n0 v xs0 hh hB (fieldErr_ok h0).2.2 (by omega) (by omega) (by omega) hown hb1 hb2)
  have hLI := Lib.hid (fun (t s : Nat) => show eqB (ldI (ldL r t l)) (ldI (ldL r s l)) = true → ldT r l t = ldT r l s from fun e => ldI_inj (by simpa [eqB] using e))
  have hLI2 := Lib.hid (fun (t s : Nat) => show ldT r l t = ldT r l s → eqB (ldI (ldL r t l)) (ldI (ldL r s l)) = true from fun e => by show eqB (ldI (ldT r l t)) (ldI (ldT r l s)) = true; rw [e]; simp [eqB])
  have hAt := Lib.hid (fun (t j : Nat) x (hx : (ldT r l t)[j]? = some x) => And.intro (who_at hx) (ldL_at (List.mem_of_getElem? hx)))
  have hLl := Lib.hid (fun (t : Nat) => show (ldT r l t).length ≤ 20 from by have := ldL_len r t l; have := h.len; unfold ldT; omega)
  have hPz := PhIs.zero r l
  have hP1 := Lib.hid (fun (A : Option Addr) (n c : Nat) => PhIs.one r l A n c)
  have hPn := Lib.hid (fun (t : Nat) P hp hne A n c => PhIs.new (r := r) (l := l) (t := t) (P := P) hp hne A n c)
  have hPl := Lib.hid (fun (t : Nat) P hp => PhIs.last (r := r) (l := l) (t := t) (P := P) hp)
  have hPlen := Lib.hid (fun (t : Nat) P (hp : PhIs r l t P) => hp.len)
  have hTL : ∀ t : Nat, ldL r t l = ldT r l t := fun _ => rfl
  simp only [hTL] at hLd hLI hLI2
  clear hTL h0 hM hM1 hM2 hx1 hbx hN
  generalize PhIs r l = PI at *
  generalize ldT r l = LT at *
  have hrcc : r.cells = r.cells := rfl
  obtain ⟨key, metres, stroke, course, legs, sex, young, old⟩ := r
  dsimp only [Race.val, Race.cells] at *
  have hb0 := heap_alloc_new w (.cells #[.string key, .int .i64 metres, .int .i64 stroke, .int .i64 course, .int .i64 legs, .int .i64 sex, .int .i64 young, .int .i64 old] 27)
  have zz := (blk_facts hb0).1
  have hl := Lib.hid h.len
  go_enter Tryd.func8, Tryd.ntmps8
  go_wp2_with fail
  refine (hF.out _ (h.alloc _)).mono ?_; rintro e w1 ⟨rfl, B1⟩
  have hb1 := blk_below hb0 B1
  have hB1 := below_box B1
  clear hb0 B1 zz hF
  go_wp2_with fail
  refine (hFi.out _ (h.below hB1)).mono ?_; rintro e w2 ⟨rfl, B2⟩
  have hS := (LS.start (blk_below hb1 B2) (below_next hB1 B2)).low (B1 := w.heap.size + 1) (by have := lt_of_heap hb1; have := B2.size; omega) (by omega) (by omega)
  clear hb1 hB1 B2 hFi
  go_wp2_with fail
  go_loopw [7, 8, 9, 25] (fun out last now i wr => ∃ (t : Nat) (P : List Ph) (nn ll : Nat) (xs ys : List Value), t ≤ N ∧ i = .int .i64 t ∧ LS w w.heap.size (w.heap.size + 1) #[.string key, .int .i64 metres, .int .i64 stroke, .int .i64 course, .int .i64 legs, .int .i64 sex, .int .i64 young, .int .i64 old] out P wr ∧ Hid (PI t P) ∧ wr.ownsRow (w.heap.size + 1) 3 1 now nn xs ∧ wr.ownsRow (w.heap.size + 1) 3 1 last ll ys ∧ Hid (0 < t → ll = (LT (t - 1)).length ∧ ys = ints (ldI (LT (t - 1)))) ∧ Hid (∀ i, now.ownBlock = some i → last.ownBlock ≠ some i)) (fun _ _ _ i _ => N - (intOf i).toNat)
  case atStart => exact ⟨0, [], 0, 0, [], [], Nat.zero_le _, rfl, hS, Lib.hid hPz, World.ownsRow_nil _ _ _ _, World.ownsRow_nil _ _ _ _, Lib.hid (fun h => absurd h (by omega)), Lib.hid (fun i hi => by simp [Value.ownBlock] at hi)⟩
  case round =>
    clear hS
    obtain ⟨t, P, nn, ll, xs, ys, ht, rfl, hS, hPI, hnow, hla, hlv, hne⟩ := hrel
    by_cases hlt : t < N
    · have zr := (blk_facts hS.rc).1
      have hlr := lt_of_heap hS.rc
      go_wp2_with fail
      refine (hLd.out t _ w _ nn _ xs h hS.bel (by omega) hnow hS.b0 hS.b3).mono ?_; rintro e w3 ⟨now3, rfl, hnow3, hg3, hat3⟩
      have hS3 := hS.row hnow hg3
      have hla3 := hla.kept hg3 (by cases hc : Value.ownBlock u8 with | none => exact .inl rfl | some i => exact .inr fun e => hne.out i e.symm hc)
      have hne3 := Lib.hid (show ∀ i, now3.ownBlock = some i → u8.ownBlock ≠ some i from fun i hi => by
        rcases hat3 i hi with h1 | h1
        · exact hne.out i h1
        · intro e; have := (hla.lt i e).2; omega)
      clear hS hnow hla hne hat3 hg3 zr hlr
      obtain ⟨nA, nc, rfl⟩ := own_shape hnow3
      obtain ⟨lA, lc, rfl⟩ := own_shape hla3
      have hm20 := hLl.out t
      have wt : IntKind.i64.wrap ((t : Int) + 1) = (t : Int) + 1 := IntWalk.i64_in _ (by omega)
      go_upto_region 12 with (fail)
      go_cut [39] (fun v39 wx => ∃ b : Bool, v39 = .bool b ∧ Hid (b = true ↔ 0 < t ∧ LT t = LT (t - 1)) ∧ LS w w.heap.size (w.heap.size + 1) #[.string key, .int .i64 metres, .int .i64 stroke, .int .i64 course, .int .i64 legs, .int .i64 sex, .int .i64 young, .int .i64 old] u7 P wx ∧ wx.ownsRow (w.heap.size + 1) 3 1 (.slice nA (LT t).length nc) (LT t).length (ints (ldI (LT t))) ∧ wx.ownsRow (w.heap.size + 1) 3 1 (.slice lA ll lc) ll ys)
      case first =>
        rcases t with _ | s
        · go_wp2
          go_meet
          case rel => exact ⟨false, rfl, Lib.hid (by simp), hS3, hnow3, hla3⟩
        · have hv := hlv.out (by omega)
          simp only [Nat.add_sub_cancel] at hv
          obtain ⟨rfl, rfl⟩ := hv
          have r1 := Lib.hid (R1.of_own hnow3 (by omega))
          have r2 := Lib.hid (R1.of_own hla3 (by have := hLl.out s; omega))
          have hq := Lib.hid (show eqB (ldI (LT (s + 1))) (ldI (LT s)) = true ↔ 0 < s + 1 ∧ LT (s + 1) = LT (s + 1 - 1) from ⟨fun e => ⟨by omega, hLI.out _ _ e⟩, fun e => hLI2.out _ _ e.2⟩)
          go_wp2_with fail
          refine (equal_c nA lA _ nc _ lc _ _ _ r1.out r2.out).mono ?_; rintro e w4 ⟨rfl, B4⟩
          have hS4 := hS3.below B4
          have hnow4 := own_below hnow3 B4
          have hla4 := own_below hla3 B4
          clear hS3 hnow3 hla3 B4 r1 r2
          generalize eqB (ldI (LT (s + 1))) (ldI (LT s)) = q at *
          go_wp2
          go_meet
          case rel => exact ⟨q, rfl, hq, hS4, hnow4, hla4⟩
      case rest =>
        clear hS3 hnow3 hla3
        rename World => wx
        obtain ⟨b, rfl, hb, hS, hnow, hla⟩ := hcut
        cases b
        · have hnew : ¬ (0 < t ∧ LT t = LT (t - 1)) := fun h => absurd (hb.out.2 h) (by decide)
          have hNext := Lib.hid (show ∀ A n c, PI (t + 1) (P ++ [⟨(t : Int), (t : Int) + 1, A, n, c, ldN (LT t)⟩]) from by
            rcases t with _ | s
            · have hP0 : P = [] := List.eq_nil_of_length_eq_zero (by have := hPlen.out _ _ hPI.out; omega)
              subst hP0
              exact fun A n c => hP1.out A n c
            · exact fun A n c => hPn.out s P hPI.out (fun e => hnew ⟨by omega, e⟩) A n c)
          have hnew' := Lib.hid hnew
          clear hnew hb hlv hne3 hla
          go_wp2_with fail
          refine (clone_c nA _ nc _ _ (R1.of_own hnow (by omega)) (by omega)).mono ?_; rintro e w5 ⟨cA, cc, rfl, hcl5, B5⟩
          have hS5 := hS.below B5
          have hnow5 := own_below hnow B5
          have hne5 := Lib.hid (show ∀ i, (Value.slice nA (LT t).length nc).ownBlock = some i → (Value.slice cA (LT t).length cc).ownBlock ≠ some i from fun i hi e => by
            have h1 := (hnow.lt i hi).2
            have h2 := (hcl5.lt i e).1
            omega)
          have hcl5 := own_low hcl5 hS.b3
          clear hS hnow B5
          have hz5 := hS5.b3
          have hlr := lt_of_heap hS5.rc
          have hb5 := heap_alloc_new w5 (.cells #[.int .i64 t, .int .i64 ((t : Int) + 1), .slice none 0 0] 40)
          have hB5 := below_new w5 (.cells #[.int .i64 t, .int .i64 ((t : Int) + 1), .slice none 0 0] 40)
          have hz6 : (w5.alloc (.cells #[.int .i64 t, .int .i64 ((t : Int) + 1), .slice none 0 0] 40)).heap.size = w5.heap.size + 1 := alloc_size _ _
          go_wp2_with fail
          go_loopw [56] (fun i wr => ∃ (jj : Nat) (acc : List ByteArray) (whv : Value), jj ≤ (LT t).length ∧ i = .int .i64 jj ∧ Hid (acc.length = jj) ∧ wr.heap[w5.heap.size]? = some (.cells #[.int .i64 t, .int .i64 ((t : Int) + 1), whv] 40 (0, 0)) ∧ wr.ownsRow (w5.heap.size + 1) 9 1 whv jj (acc.map Value.string) ∧ Below w5.heap.size w5 wr ∧ Hid (acc ++ ldN ((LT t).drop jj) = ldN (LT t))) (fun i _ => (LT t).length - (intOf i).toNat)
          case atStart => exact ⟨0, [], _, Nat.zero_le _, rfl, Lib.hid rfl, hb5, World.ownsRow_nil _ _ _ _, hB5, Lib.hid rfl⟩
          case round =>
            clear hb5 hB5
            obtain ⟨jj, acc, whv, hj, rfl, hla, hbx, hown, hBr, hG⟩ := hrel
            by_cases hlt : jj < (LT t).length
            · have hnow6 := own_below hnow5 hBr
              obtain ⟨⟨sw, ix⟩, hp⟩ := at_of_lt hlt
              obtain ⟨hT, hlx⟩ := hAt.out t jj _ hp
              dsimp only at hlx hT
              have hixn : ix < n := by rw [← hl.out]; exact lt_of_at hlx
              obtain ⟨bA, oA, x', hAA, hbA, hx', cA0, _, _⟩ := (h.below hS5.bel).at2 hixn
              obtain rfl : sw = x' := by rw [hlx] at hx'; injection hx'
              obtain ⟨bN, oN, xN, hNA, hbN, hxN, cN⟩ := (R1.of_own hnow6 (by omega)).at_ hlt
              have hxN2 : xN = (ix : Int) := by
                unfold ldI at hxN
                rw [List.getElem?_map, hp] at hxN
                injection hxN with hxN
                exact hxN.symm
              subst hxN2
              obtain ⟨who, yA, yn, yc, ys'⟩ := sw
              dsimp only at *
              have hT' := Lib.hid hT
              clear hT hlx hx' hxN hp
              subst hNA
              subst hAA
              have hW0 : W19 w5 w5.heap.size (.int .i64 t) (.int .i64 ((t : Int) + 1)) who whv jj acc (Array.replicate 11 false) wr := W19.start hBr hbx hown
              have hlA := Lib.hid hla.out
              clear hnow5 hnow6 hown hBr hbx hS5 hne5 hNext hnew' hPI hla hLd hPl hPn hP1 hLI hLI2
              go_wp2_with fail
              --R19
              refine wp_region_inv (by kernel_rfl) (fun listed a w' => ∃ xs : Nat → Value, a = { tmps := #[Value.agg #[Value.string key, Value.int IntKind.i64 metres, Value.int IntKind.i64 stroke, Value.int IntKind.i64 course, Value.int IntKind.i64 legs, Value.int IntKind.i64 sex, Value.int IntKind.i64 young, Value.int IntKind.i64 old], Value.slice (some { block := bA, off := oA }) n c, Value.pointer (some { block := w.heap.size, off := 0 }), undef, Value.slice none 0 0, Value.int IntKind.i64 0, Value.int IntKind.i64 0, u7, Value.slice cA (LT t).length cc, Value.slice (some { block := bN, off := oN }) (LT t).length nc, Value.int IntKind.i64 ↑t, Value.pointer (some { block := w5.heap.size, off := 0 }), undef, Value.int IntKind.i64 ↑ix, Value.agg #[Value.string key, Value.int IntKind.i64 metres, Value.int IntKind.i64 stroke, Value.int IntKind.i64 course, Value.int IntKind.i64 legs, Value.int IntKind.i64 sex, Value.int IntKind.i64 young, Value.int IntKind.i64 old], Value.slice (some { block := bA, off := oA }) n c, Value.int IntKind.i64 0, Value.int IntKind.i64 0, Value.bool false, undef, Value.slice (some { block := bA, off := oA }) n c, Value.int IntKind.i64 ↑n, Value.bool false, Value.slice (some { block := bA, off := oA }) n c, Value.int IntKind.i64 ↑N, Value.int IntKind.i64 ↑t, u26, u27, u28, u29, u30, u31, u32, u33, u34, u35, u36, u37, u38, Value.bool false, u40, u41, u42, u43, u44, u45, u46, u47, Value.slice (some { block := bN, off := oN }) (LT t).length nc, Value.slice cA (LT t).length cc, Value.int IntKind.i64 ↑t, Value.int IntKind.i64 ↑t, Value.int IntKind.i64 (↑t + 1), Value.agg #[Value.int IntKind.i64 ↑t, Value.int IntKind.i64 (↑t + 1), Value.slice none 0 0], Value.slice (some { block := bN, off := oN }) (LT t).length nc, Value.int IntKind.i64 ↑(LT t).length, Value.int IntKind.i64 ↑jj, Value.bool true, Value.pointer (some { block := bN, off := oN + jj }), Value.int IntKind.i64 ↑ix, xs 0, xs 1, xs 2, xs 3, xs 4, xs 5, xs 6, xs 7, xs 8, xs 9, u70, u71, u72, u73, u74, u75, undef], defers := [] } ∧ (∀ j, listed.getD j false = true → C19 (.slice (some ⟨bA, oA, none⟩) n c) ix (.pointer (some ⟨bA, oA + ix * 2, none⟩)) who w5.heap.size whv jj acc j w' (xs j)) ∧ W19 w5 w5.heap.size (.int .i64 t) (.int .i64 ((t : Int) + 1)) who whv jj acc listed w') ?h0 (AllOps.of ?hs) ?he
              case h0 => exact ⟨fun j => match j with | 0 => u60 | 1 => u61 | 2 => u62 | 3 => u63 | 4 => u64 | 5 => u65 | 6 => u66 | 7 => u67 | 8 => u68 | 9 => u69 | _ => undef, rfl, (fun j hj => by rw [rep_false] at hj; cases hj), hW0.drew⟩
              case hs =>
                refine ⟨?_, ?_, ?_, ?_, ?_, ?_, ?_, ?_, ?_, ?_, ?_, trivial⟩
                · intro listed a w' hs hI h0 hd K' hK
                  obtain ⟨xs, rfl, hC, hW⟩ := hI
                  have hK2 := Lib.hid hK
                  have hC2 := Lib.hid hC
                  clear hd hK hC h0
                  go_simp
                  exact hK2.out _ _ ⟨updV xs 0 (.pointer (some ⟨w5.heap.size, 2, none⟩)), by simp [updV], cond_set hC2.out (fun _ _ h => h) rfl, hW.keep (by decide) (by decide)⟩
                · intro listed a w' hs hI h0 hd K' hK
                  obtain ⟨xs, rfl, hC, hW⟩ := hI
                  have e0 : xs 0 = .pointer (some ⟨w5.heap.size, 2, none⟩) := hC 0 (hd ⟨0, .data⟩ (by simp) rfl)
                  have hK2 := Lib.hid hK
                  have hC2 := Lib.hid hC
                  have h19 := (getD_lt h0).2
                  have h18 : listed.getD 8 false = false := by cases hc : listed.getD 8 false with | false => rfl | true => have := hW.d8 hc; rw [h19] at this; cases this
                  have h110 : listed.getD 10 false = false := by cases hc : listed.getD 10 false with | false => rfl | true => have := hW.d10 hc; rw [h18] at this; cases this
                  have c9 := (blk_facts (hW.bx h110)).1 2
                  clear hd hK hC h0
                  go_simp
                  exact hK2.out _ _ ⟨updV xs 1 (whv), by simp [updV, e0], cond_set hC2.out (fun _ _ h => h) rfl, hW.keep (by decide) (by decide)⟩
                · intro listed a w' hs hI h0 hd K' hK
                  obtain ⟨xs, rfl, hC, hW⟩ := hI
                  have hK2 := Lib.hid hK
                  have hC2 := Lib.hid hC
                  clear hd hK hC h0
                  go_simp
                  exact hK2.out _ _ ⟨updV xs 2 (.slice (some ⟨bA, oA, none⟩) n c), by simp [updV], cond_set hC2.out (fun _ _ h => h) rfl, hW.keep (by decide) (by decide)⟩
                · intro listed a w' hs hI h0 hd K' hK
                  obtain ⟨xs, rfl, hC, hW⟩ := hI
                  have hK2 := Lib.hid hK
                  have hC2 := Lib.hid hC
                  clear hd hK hC h0
                  go_simp
                  exact hK2.out _ _ ⟨updV xs 3 (.int .i64 ix), by simp [updV], cond_set hC2.out (fun _ _ h => h) rfl, hW.keep (by decide) (by decide)⟩
                · intro listed a w' hs hI h0 hd K' hK
                  obtain ⟨xs, rfl, hC, hW⟩ := hI
                  have e2 : xs 2 = .slice (some ⟨bA, oA, none⟩) n c := hC 2 (hd ⟨2, .data⟩ (by simp) rfl)
                  have e3 : xs 3 = .int .i64 ix := hC 3 (hd ⟨3, .data⟩ (by simp) rfl)
                  have hK2 := Lib.hid hK
                  have hC2 := Lib.hid hC
                  have i8 : (0 : Int) ≤ (ix : Int) := by omega
                  have i9 : (ix : Int) < (n : Int) := by omega
                  have i7 : 0 < n := by omega
                  clear hd hK hC h0
                  go_simp
                  exact hK2.out _ _ ⟨updV xs 4 (.pointer (some ⟨bA, oA + ix * 2, none⟩)), by simp [updV, e2, e3], cond_set hC2.out (fun _ _ h => h) rfl, hW.keep (by decide) (by decide)⟩
                · intro listed a w' hs hI h0 hd K' hK
                  obtain ⟨xs, rfl, hC, hW⟩ := hI
                  have e4 : xs 4 = .pointer (some ⟨bA, oA + ix * 2, none⟩) := hC 4 (hd ⟨4, .data⟩ (by simp) rfl)
                  have hK2 := Lib.hid hK
                  have hC2 := Lib.hid hC
                  clear hd hK hC h0
                  go_simp
                  exact hK2.out _ _ ⟨updV xs 5 (.pointer (some ⟨bA, oA + ix * 2, none⟩)), by simp [updV, e4], cond_set hC2.out (fun _ _ h => h) rfl, hW.keep (by decide) (by decide)⟩
                · intro listed a w' hs hI h0 hd K' hK
                  obtain ⟨xs, rfl, hC, hW⟩ := hI
                  have e5 : xs 5 = .pointer (some ⟨bA, oA + ix * 2, none⟩) := hC 5 (hd ⟨5, .data⟩ (by simp) rfl)
                  have hK2 := Lib.hid hK
                  have hC2 := Lib.hid hC
                  have c9 := (hW.bel.cell (p := ⟨bA, oA + ix * 2, none⟩) hbA).trans cA0
                  clear hd hK hC h0
                  go_simp
                  exact hK2.out _ _ ⟨updV xs 6 (.string who), by simp [updV, e5], cond_set hC2.out (fun _ _ h => h) rfl, hW.keep (by decide) (by decide)⟩
                · intro listed a w' hs hI h0 hd K' hK
                  obtain ⟨xs, rfl, hC, hW⟩ := hI
                  have e6 : xs 6 = .string who := hC 6 (hd ⟨6, .data⟩ (by simp) rfl)
                  have hK2 := Lib.hid hK
                  have hC2 := Lib.hid hC
                  clear hd hK hC h0
                  go_simp
                  exact hK2.out _ _ ⟨updV xs 7 (.slice (some ⟨w'.heap.size, 0, none⟩) 1 1), by simp [updV, e6], cond_set hC2.out (C19.alloc _) ⟨w'.heap.size, rfl, (fun e => by have := (hW.hb _ e).2; omega), (by have := hW.sz; omega), heap_alloc_new w' _⟩, (hW.alloc rfl _).keep (by decide) (by decide)⟩
                · intro listed a w' hs hI h0 hd K' hK
                  obtain ⟨xs, rfl, hC, hW⟩ := hI
                  have e1 : xs 1 = whv := hC 1 (hd ⟨1, .data⟩ (by simp) rfl)
                  obtain ⟨z7, e7, ne7, nb7, hz7⟩ : ∃ z, xs 7 = .slice (some ⟨z, 0, none⟩) 1 1 ∧ whv.ownBlock ≠ some z ∧ z ≠ w5.heap.size ∧ w'.heap[z]? = some (.cells #[.string who] 9 (0, 0)) := hC 7 (hd ⟨7, .data⟩ (by simp) rfl)
                  have how := hW.ow (getD_lt h0).2
                  have hld : listed.getD 1 false = true := hd ⟨1, .data⟩ (by simp) rfl
                  obtain ⟨i0, hi0, hz0, hz1, hz2⟩ := info_parts info_str
                  refine step_append_lies _ (by rfl) _ _ _ (by rfl) (w5.heap.size + 1) 9 i0 _ 1 16 Tryd.underlying38 hi0 hz0 hz1 hz2 rfl (by omega) whv jj (acc.map Value.string) (by show xs 1 = whv; exact e1) how ⟨z7, 0, none⟩ 1 1 [.string who] (by show xs 7 = _; exact e7) (by rfl) (World.news_of_block (fr := (0, 0)) hz7) (by simp [Value.oneCell']) (by omega) (by unfold maxLen; omega) (by omega) hW.sz _ rfl ?_
                  intro gg cap w7 hown7 hgrow hat hlt7
                  exact hK _ _ ⟨updV xs 8 (.slice (some ⟨gg, 0, none⟩) (jj + 1) cap), by first | rfl | simp [updV, Act.put], cond_setX hC (C19.app hgrow) (by show w7.ownsRow _ _ _ _ _ _; rw [List.map_append]; exact hown7), hW.app h0 hld hgrow⟩
                · intro listed a w' hs hI h0 hd K' hK
                  obtain ⟨xs, rfl, hC, hW⟩ := hI
                  have hK2 := Lib.hid hK
                  have hC2 := Lib.hid hC
                  clear hd hK hC h0
                  go_simp
                  exact hK2.out _ _ ⟨updV xs 9 (.pointer (some ⟨w5.heap.size, 2, none⟩)), by simp [updV], cond_set hC2.out (fun _ _ h => h) rfl, hW.keep (by decide) (by decide)⟩
                · intro listed a w' hs hI h0 hd K' hK
                  obtain ⟨xs, rfl, hC, hW⟩ := hI
                  obtain h8 : w'.ownsRow (w5.heap.size + 1) 9 1 (xs 8) (jj + 1) ((acc ++ [who]).map Value.string) := hC 8 (hd ⟨8, .data⟩ (by simp) rfl)
                  have e9 : xs 9 = .pointer (some ⟨w5.heap.size, 2, none⟩) := hC 9 (hd ⟨9, .data⟩ (by simp) rfl)
                  have hK2 := Lib.hid hK
                  have hC2 := Lib.hid hC
                  have hap : listed.getD 8 false = true := hd ⟨8, .data⟩ (by simp) rfl
                  have hl10 := (getD_lt h0).2
                  have c90 := (blk_facts (hW.bx hl10)).1 2
                  have f90 := (blk_facts (hW.bx hl10)).2 2
                  obtain ⟨A8, c8, e8⟩ := own_shape h8
                  rw [e8] at h8
                  have hset := Lib.hid (hW.set h0 hap h8)
                  clear hd hK hC h0
                  go_simp
                  exact hK2.out _ _ ⟨updV xs 10 (undef), by simp [updV, e9, e8], cond_set hC2.out (C19.set _) trivial, hset.out⟩
              case he =>
                intro listed a w' hs hI hr
                obtain ⟨xs, rfl, hC, hW⟩ := hI
                have hfin := all_listed hs hr ⟨rfl, rfl, rfl, rfl, rfl, rfl, rfl, rfl, rfl, rfl, rfl, trivial⟩ 10 (by simp)
                clear hC hs hr
                obtain ⟨v9, hb9, ho9⟩ := hW.fin hfin
                have hB9 := hW.bel
                clear hW hfin hW0
                go_wp2
                go_roundw
                case rel => exact ⟨jj + 1, acc ++ [who], v9, by omega, by go_num, Lib.hid (by rw [List.length_append, hlA.out]; rfl), hb9, ho9, hB9, Lib.hid (by rw [← hG.out, hT'.out]; simp)⟩
                case measure => simp [intOf]; omega
              --R19 end
            · obtain rfl : jj = (LT t).length := by omega
              have hGe : acc = ldN (LT t) := by have := hG.out; rw [drop_end (Nat.le_refl _)] at this; simpa [ldN] using this
              have hS6 := hS5.below hBr
              have hnow6 := own_below hnow5 hBr
              have hcl6 := own_below hcl5 hBr
              obtain ⟨A9, c9, rfl⟩ := own_shape hown
              rw [hGe] at hown
              have hwho := own_low hown (base' := w.heap.size + 1) (by omega)
              have hPz := hPlen.out _ _ hPI.out
              have zp := (blk_facts hbx).1
              clear hS5 hnow5 hcl5 hBr hla hG hGe hown hLd hLI hLI2 hPl
              go_wp2_with (at_builtin; refine wpList_app rfl (.tmp 71) (.tmp 73) 35 rfl Tryd.underlying35 info_ph rfl (by omega) (by omega) hS6.o rfl rfl (by first | rfl | (simp; done)) rfl (by simp [Value.oneCell']) (by omega) hS6.b3 ?_; intro v4 w4 hown4 hg4)
              have hnow7 := hnow6.kept hg4 (own_diff hnow6 hS6.o (by decide))
              have hcl7 := hcl6.kept hg4 (own_diff hcl6 hS6.o (by decide))
              have hS7 := hS6.app (y := ⟨(t : Int), (t : Int) + 1, A9, (LT t).length, c9, ldN (LT t)⟩) hown4 hg4 hwho
              clear hS6 hnow6 hcl6 hown4 hg4 zp hwho
              go_roundw
              case rel => exact ⟨t + 1, P ++ [⟨(t : Int), (t : Int) + 1, A9, (LT t).length, c9, ldN (LT t)⟩], _, _, _, _, by omega, by go_num, hS7, Lib.hid (hNext.out _ _ _), hnow7, hcl7, Lib.hid (fun _ => ⟨rfl, rfl⟩), hne5⟩
              case measure => simp [intOf]; omega
        · obtain ⟨t0, hsm⟩ := hb.out.1 rfl
          obtain ⟨s, rfl⟩ : ∃ s, t = s + 1 := ⟨t - 1, by omega⟩
          obtain ⟨P', y, rfl, hyw, hnx⟩ := hPl.out s P hPI.out
          simp only [Nat.add_sub_cancel] at hsm
          have hnx' := Lib.hid (hnx hsm)
          have hlv' := Lib.hid (hlv.out (by omega))
          simp only [Nat.add_sub_cancel] at hlv'
          clear hyw hnx hlv hb hLd hLI hLI2 hP1 hPn hPl
          have hPL := hPlen.out _ _ hPI.out
          obtain ⟨g, cap, rfl⟩ : ∃ g cap, u7 = .slice (some ⟨g, 0, none⟩) (P' ++ [y]).length cap := by
            rcases hS.o.2 with ⟨_, h9⟩ | ⟨g, cap, cur, hv, _⟩
            · simp at h9
            · exact ⟨g, cap, hv⟩
          have hX := hS.ext (((s + 1 : Nat) : Int) + 1)
          have hgx := (hS.o.lt g rfl).2
          have hgr : wx.grownBy (wx.setCell ⟨g, P'.length * 3 + 1, none⟩ (.int .i64 (((s + 1 : Nat) : Int) + 1))) (some g) := grown_setCell (grown_refl _ _) (.inl rfl) _
          have hnowX := Lib.hid (hnow.kept hgr (own_diff hnow hS.o (by decide)))
          have hlaX := Lib.hid (hla.kept hgr (own_diff hla hS.o (by decide)))
          have cc := (hS.o.cellAt (P'.length * 3 + 1) (by simp; omega)).trans (lastP_at P' y).1
          have ff := hS.o.frozenAt (P'.length * 3 + 1)
          have hX2 := Lib.hid hX
          clear hX hS hnow hla hgr
          have hK2 : P'.length = (P' ++ [y]).length - 1 := by simp
          have hK1 : 1 ≤ (P' ++ [y]).length := by simp
          rw [hK2] at cc ff hX2 hnowX hlaX
          generalize hK : (P' ++ [y]).length = K at *
          clear hK2
          have e1 : IntKind.i64.wrap ((K : Int) - 1) = (K : Int) - 1 := IntWalk.i64_in _ (by omega)
          have e2 : 0 ≤ (K : Int) - 1 := by omega
          have e3 : ((K : Int) - 1).toNat = K - 1 := by omega
          have e4 : (K : Int) - 1 < K := by omega
          go_wp2
          go_roundw
          case rel => exact ⟨s + 2, P' ++ [{ y with t := ((s + 1 : Nat) : Int) + 1 }], _, _, _, _, by omega, by go_num, hX2.out, hnx', hnowX.out, hlaX.out, Lib.hid (fun _ => by show ll = (LT (s + 1)).length ∧ ys = ints (ldI (LT (s + 1))); rw [hsm]; exact hlv'.out), hne3⟩
          case measure => simp [intOf]; omega
    · obtain rfl : t = N := by omega
      obtain ⟨oA, oc, rfl⟩ := own_shape hS.o
      go_wp2
      go_ret2
      exact ⟨oA, oc, P, rfl, hS, hPI.out⟩
end Go.Proofs.YtdbfcneeiiialaaDoor
