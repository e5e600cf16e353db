/- Drawn regions of the stream's makers, told as functions: the chained operations (calls, stores) come in one order, so the state of the world is told by how many of them were carried out. Texts over it are printed by wip/genfn.py. -/
import Derived.Test.YtklggnglaeagpaaGreatDoorRMkReg
import Derived.Test.YtklggnglaeagpaaGreatDoorRSortB
namespace Go.Proofs.YtklggnglaeagpaaGreatDoor
open Go.RowKit
set_option linter.unusedVariables false

/-- X m: the world when m of the chain ch were carried out; pre: (i, j): where i was carried out j was -/
def CH (X : Nat → World → Prop) (ch : List Nat) (pre : List (Nat × Nat)) (listed : Array Bool) (w' : World) : Prop :=
  ∃ m, X m w' ∧ (∀ j i, ch[j]? = some i → listed.getD i false = decide (j < m)) ∧ (∀ p ∈ pre, listed.getD p.1 false = true → listed.getD p.2 false = true)
section
variable {X : Nat → World → Prop} {ch : List Nat} {pre : List (Nat × Nat)} {listed : Array Bool} {w' : World}
theorem getD_tf9 {i : Nat} (h : listed.getD i true = false) : listed.getD i false = false ∧ i < listed.size := by
  have his : i < listed.size := by
    rcases Nat.lt_or_ge i listed.size with h' | h'
    · exact h'
    · rw [Array.getD_eq_getD_getElem?, Array.getElem?_eq_none h'] at h; cases h
  exact ⟨by rw [Array.getD_eq_getD_getElem?, Array.getElem?_eq_getElem his] at h ⊢; exact h, his⟩
theorem getD_mono9 {i j : Nat} (h : listed.getD j false = true) : (listed.setIfInBounds i true).getD j false = true := by
  by_cases e : i = j
  · subst e
    have his : i < listed.size := getD_size h
    rw [getD_set_self', if_pos his]
  · rw [getD_set_other _ e]; exact h
theorem CH.start {n : Nat} (h : X 0 w') : CH X ch pre (Array.replicate n false) w' := by
  have hr : ∀ j, (Array.replicate n false).getD j false = false := fun j => by rw [Array.getD_eq_getD_getElem?, Array.getElem?_replicate]; split <;> rfl
  exact ⟨0, h, fun j i _ => by rw [hr]; rfl, fun p _ e => by rw [hr] at e; cases e⟩
theorem CH.keep {i : Nat} (h : CH X ch pre listed w') (hi : i ∉ ch) (hp : ∀ p ∈ pre, p.1 ≠ i) : CH X ch pre (listed.setIfInBounds i true) w' := by
  obtain ⟨m, h1, h2, h3⟩ := h
  refine ⟨m, h1, fun j c hc => ?_, fun p hpm e => ?_⟩
  · rw [getD_set_other _ (fun e => hi (by rw [e]; exact List.mem_of_getElem? hc))]; exact h2 j c hc
  · rw [getD_set_other _ (fun e9 => hp p hpm e9.symm)] at e
    exact getD_mono9 (h3 p hpm e)
theorem CH.alloc (h : CH X ch pre listed w') (hXa : ∀ m w o, X m w → X m (w.alloc o)) (o : Obj) : CH X ch pre listed (w'.alloc o) := by
  obtain ⟨m, h1, h2, h3⟩ := h
  exact ⟨m, hXa _ _ _ h1, h2, h3⟩
theorem CH.step {i j : Nat} (h : CH X ch pre listed w') (hi : ch[j]? = some i) (h0 : listed.getD i true = false) (hprev : j = 0 ∨ ∃ c, ch[j - 1]? = some c ∧ listed.getD c false = true) (hpre : ∀ p ∈ pre, p.1 = i → listed.getD p.2 false = true) (hn : ch.Nodup) :
    X j w' ∧ ∀ w1, X (j + 1) w1 → CH X ch pre (listed.setIfInBounds i true) w1 := by
  obtain ⟨m, h1, h2, h3⟩ := h
  obtain ⟨h4, h5⟩ := getD_tf9 h0
  have e1 := h2 j i hi
  rw [h4] at e1
  have e2 : m ≤ j := by
    have := of_decide_eq_false e1.symm
    omega
  have e3 : j ≤ m := by
    rcases hprev with e | ⟨c, hc, hl⟩
    · omega
    · have e4 := h2 (j - 1) c hc
      rw [hl] at e4
      have := of_decide_eq_true e4.symm
      omega
  obtain rfl : m = j := by omega
  refine ⟨h1, fun w1 hx => ⟨m + 1, hx, fun q c hc => ?_, fun p hp e => ?_⟩⟩
  · by_cases e : i = c
    · subst e
      have hq : q = m := by
        have hb := (List.getElem?_eq_some_iff.1 hc)
        have hb2 := (List.getElem?_eq_some_iff.1 hi)
        obtain ⟨b1, b2⟩ := hb
        obtain ⟨b3, b4⟩ := hb2
        rcases Nat.lt_trichotomy q m with h9 | h9 | h9
        · exact absurd (b2.trans b4.symm) (List.pairwise_iff_getElem.1 hn q m b1 b3 h9)
        · exact h9
        · exact absurd (b4.trans b2.symm) (List.pairwise_iff_getElem.1 hn m q b3 b1 h9)
      subst hq
      rw [getD_set_self', if_pos h5]
      exact (decide_eq_true (by omega)).symm
    · rw [getD_set_other _ e, h2 q c hc]
      have hne : q ≠ m := fun e9 => e (by subst e9; rw [hc] at hi; exact (Option.some.inj hi).symm)
      rw [decide_eq_decide]
      omega
  · by_cases e9 : i = p.1
    · exact getD_mono9 (hpre p hp e9.symm)
    · rw [getD_set_other _ e9] at e
      exact getD_mono9 (h3 p hp e)
/-- what is read before operation number j of the chain -/
theorem CH.early {i j s : Nat} (h : CH X ch pre listed w') (h0 : listed.getD i true = false) (hp : (s, i) ∈ pre) (hs : ch[j]? = some s) : ∃ m, m ≤ j ∧ X m w' := by
  obtain ⟨m, h1, h2, h3⟩ := h
  refine ⟨m, ?_, h1⟩
  have e1 : listed.getD s false = false := by
    cases e : listed.getD s false
    · rfl
    · have := h3 _ hp e
      rw [(getD_tf9 h0).1] at this
      cases this
  have e2 := h2 j s hs
  rw [e1] at e2
  have := of_decide_eq_false e2.symm
  omega
theorem CH.any (h : CH X ch pre listed w') : ∃ m, X m w' := by
  obtain ⟨m, h1, _, _⟩ := h
  exact ⟨m, h1⟩
theorem CH.fin {j i : Nat} (h : CH X ch pre listed w') (hi : ch[j]? = some i) (hl : listed.getD i false = true) : ∃ m, j < m ∧ X m w' := by
  obtain ⟨m, h1, h2, _⟩ := h
  refine ⟨m, ?_, h1⟩
  have e := h2 j i hi
  rw [hl] at e
  exact of_decide_eq_true e.symm
end
inductive TyF where
  | any
  | val (v : Value)
  | intsV (l : List Int)
  | strsV (l : List ByteArray)
/-- what a slot holds, exactly -/
def SatF (TI TS : TypeId) (w : World) : TyF → Value → Prop
  | .any, _ => True
  | .val u, v => v = u
  | .intsV l, v => ∃ z : Nat, v = .slice (some ⟨z, 0, none⟩) l.length l.length ∧ w.heap[z]? = some (.cells (ints l).toArray TI (0, 0))
  | .strsV l, v => ∃ z : Nat, v = .slice (some ⟨z, 0, none⟩) l.length l.length ∧ w.heap[z]? = some (.cells (l.map Value.string).toArray TS (0, 0))
def CF (TI TS : TypeId) (tys : List TyF) (j : Nat) (w : World) (v : Value) : Prop := SatF TI TS w (tys.getD j .any) v
section
variable {TI TS T : TypeId} {w w' : World}
theorem SatF.blocks (hb : ∀ (z : Nat) (cs : Array Value) (e : TypeId), (e = TI ∨ e = TS) → w.heap[z]? = some (.cells cs e (0, 0)) → w'.heap[z]? = some (.cells cs e (0, 0))) : ∀ (t : TyF) (v : Value), SatF TI TS w t v → SatF TI TS w' t v
  | .any, _, h => h
  | .val _, _, h => h
  | .intsV _, _, ⟨z, h1, h3⟩ => ⟨z, h1, hb z _ _ (.inl rfl) h3⟩
  | .strsV _, _, ⟨z, h1, h3⟩ => ⟨z, h1, hb z _ _ (.inr rfl) h3⟩
theorem SatF.alloc (o : Obj) (t : TyF) (v : Value) (h : SatF TI TS w t v) : SatF TI TS (w.alloc o) t v := SatF.blocks (fun z cs e _ hz => blk_alloc hz o) t v h
theorem SatF.stream (hk : Keep T w w') (h1 : TI ≠ T) (h2 : TS ≠ T) (t : TyF) (v : Value) (h : SatF TI TS w t v) : SatF TI TS w' t v :=
  SatF.blocks (fun z cs e he hz => hk z cs e (0, 0) (by rcases he with rfl | rfl <;> assumption) hz) t v h
theorem SatF.set {TB : TypeId} {p o : Nat} {u : Value} {cs0 : Array Value} {fz : Nat × Nat} (hp : w.heap[p]? = some (.cells cs0 TB fz)) (h1 : TI ≠ TB) (h2 : TS ≠ TB) (t : TyF) (v : Value) (h : SatF TI TS w t v) : SatF TI TS (w.setCell ⟨p, o, none⟩ u) t v :=
  SatF.blocks (fun z cs e he hz => by
    refine blk_other hz (p := ⟨p, o, none⟩) ?_ u
    intro e2
    subst e2
    rw [hz] at hp
    injection hp with hp
    injection hp with _ hp
    rcases he with rfl | rfl
    · exact h1 hp
    · exact h2 hp) t v h
end
/-- a row of the call's own and the stream, told by a number -/
structure RowX {α : Type} (w0 : World) (g : Nat) (zs : Zs) (TB : TypeId) (enc : α → List Value) (s base b n c : Nat) (kf : Nat → Nat) (lf : Nat → List α) (m : Nat) (w' : World) : Prop where
  st : St w' g zs (kf m)
  own : w'.ownsRow base TB s (.slice (some ⟨b, 0, none⟩) n c) n ((lf m).flatMap enc)
  os : w'.os = w0.os
  tape : w'.tape = w0.tape
  output : w'.output = w0.output
  size : w0.heap.size ≤ w'.heap.size
  blocks : ∀ i, i < w0.heap.size → i ≠ g → i ≠ b → w'.heap[i]? = w0.heap[i]?
section
variable {α : Type} {w0 w' w1 : World} {g s base b n c m : Nat} {zs : Zs} {TB : TypeId} {enc : α → List Value} {kf : Nat → Nat} {lf : Nat → List α}
theorem RowX.start (h : St w0 g zs (kf 0)) (ho : w0.ownsRow base TB s (.slice (some ⟨b, 0, none⟩) n c) n ((lf 0).flatMap enc)) : RowX w0 g zs TB enc s base b n c kf lf 0 w0.drew :=
  ⟨h.drew, ho, rfl, rfl, rfl, Nat.le_refl _, fun _ _ _ _ => rfl⟩
theorem RowX.alloc (h : RowX w0 g zs TB enc s base b n c kf lf m w') (o : Obj) : RowX w0 g zs TB enc s base b n c kf lf m (w'.alloc o) :=
  ⟨h.st.alloc o, h.own.alloc o, h.os, h.tape, h.output, Nat.le_trans h.size (by simp), fun i hi n1 n2 => (Below.heap_alloc w' o i (Nat.lt_of_lt_of_le hi h.size)).trans (h.blocks i hi n1 n2)⟩
theorem RowX.call (hgb : g < base) (h : RowX w0 g zs TB enc s base b n c kf lf m w') (hs : St w1 g zs (kf (m + 1))) (hg : w'.grownBy w1 (some g)) (hl : lf (m + 1) = lf m) : RowX w0 g zs TB enc s base b n c kf lf (m + 1) w1 :=
  ⟨hs, by rw [hl]; exact own_keep h.own hgb hg, hg.os.trans h.os, hg.tape.trans h.tape, hg.output.trans h.output, Nat.le_trans h.size hg.size, fun i hi n1 n2 => (hg.block i (Nat.lt_of_lt_of_le hi h.size) (fun e => n1 (by injection e))).trans (h.blocks i hi n1 n2)⟩
theorem RowX.cell (h : RowX w0 g zs TB enc s base b n c kf lf m w') {p : Addr} {v : Value} (hc : w0.cell? p = some v) (hne : p.block ≠ g) (hnb : p.block ≠ b) : w'.cell? p = some v :=
  (World.cell?_of_block (h.blocks p.block (World.block_lt_of_cell? w0 p hc) hne hnb)).trans hc
theorem RowX.load (hs : ∀ x, (enc x).length = s) (h : RowX w0 g zs TB enc s base b n c kf lf m w') {q d : Nat} {x : α} {v : Value} (hx : (lf m)[q]? = some x) (hd : d < s) (hv : (enc x)[d]? = some v) : w'.cell? ⟨b, q * s + d, none⟩ = some v := by
  have hf := flat_atC hs (lf m) q d x hx hd
  rw [hv] at hf
  have hlen : (lf m).length = n := own_len hs (by omega) h.own
  have hq := lt_of_at hx
  rw [h.own.cellAt _ (by
    have : (q + 1) * s ≤ n * s := Nat.mul_le_mul_right _ (by omega)
    rw [Nat.succ_mul] at this; omega)]
  exact hf
theorem RowX.blk (h : RowX w0 g zs TB enc s base b n c kf lf m w') : ∃ cs, w'.heap[b]? = some (.cells cs TB (0, 0)) := by
  rcases h.own.2 with ⟨h9, _⟩ | ⟨g9, cap, cur, hv, _, hh, _⟩
  · cases h9
  · injection hv with hv
    injection hv with hv
    injection hv with hv
    subst hv
    exact ⟨cur, hh⟩
theorem RowX.store (hs : ∀ x, (enc x).length = s) (hgb : g < base) (h : RowX w0 g zs TB enc s base b n c kf lf m w') {q d : Nat} {x y : α} {v : Value} (hx : (lf m)[q]? = some x) (hd : d < s) (hy : enc y = (enc x).set d v) (hl : lf (m + 1) = (lf m).set q y) (hk : kf (m + 1) = kf m) : RowX w0 g zs TB enc s base b n c kf lf (m + 1) (w'.setCell ⟨b, q * s + d, none⟩ v) := by
  have hb : base ≤ b := (h.own.lt b rfl).1
  have h6 := (h.own.stored (q * s + d) v).1
  rw [flat_set hs (lf m) q x y d v hx hd hy, ← hl] at h6
  exact ⟨by rw [hk]; exact h.st.setAt (by omega) v, h6, h.os, h.tape, h.output, by simpa [World.setCell] using h.size, fun i hi n1 n2 => (Below.heap_setCell w' _ v i n2).trans (h.blocks i hi n1 n2)⟩
/-- the stream and the call's own row turned, nothing else -/
theorem RowX.out {w : World} (h : RowX w0 g zs TB enc s base b n c kf lf m w') (hgr : w.grownBy w0 (some g)) (hb : w.heap.size ≤ base) : w.grownBy w' (some g) := by
  have hbb : base ≤ b := (h.own.lt b rfl).1
  exact ⟨h.os.trans hgr.os, h.tape.trans hgr.tape, h.output.trans hgr.output, Nat.le_trans hgr.size h.size, fun i hi hne => (h.blocks i (Nat.lt_of_lt_of_le hi hgr.size) (fun e => hne (by rw [e])) (by omega)).trans (hgr.block i hi hne)⟩
end
/- The stream's draws with what they give, hidden. -/
section
variable {g : Nat} {zs : Zs} {k : Nat}
theorem flipH_c (g : Nat) (zs : Zs) (k : Nat) (n : Int) (w : World) (h : St w g zs k) (hk : k ≤ 1099511627776) (h1 : 1 ≤ n) (h2 : n ≤ 4611686018427387904) :
    Calls Tryz.prog 111 #[.pointer (some ⟨g, 0, none⟩), .int .i64 n] w fun e w' => ∃ b : Bool, Hid ((nextV zs k n == 0) = b) ∧ e = .returned (.bool b) ∧ St w' g zs (k + 1) ∧ w.grownBy w' (some g) :=
  (flip_c g zs k n w h hk h1 h2).mono fun e w' ⟨he, hs, hg⟩ => ⟨_, Lib.hid rfl, he, hs, hg⟩
theorem rangeH_c (g : Nat) (zs : Zs) (k : Nat) (a b : Int) (w : World) (h : St w g zs k) (hk : k ≤ 1099511627776) (h0 : a ≤ b) (h1 : -4398046511104 ≤ a) (h2 : b ≤ 4398046511104) :
    Calls Tryz.prog 18 #[.pointer (some ⟨g, 0, none⟩), .int .i64 a, .int .i64 b] w fun e w' => ∃ v : Int, Hid (a + nextV zs k (b - a + 1) = v) ∧ e = .returned (.int .i64 v) ∧ a ≤ v ∧ v ≤ b ∧ St w' g zs (k + 1) ∧ w.grownBy w' (some g) :=
  (range_c g zs k a b w h hk h0 h1 h2).mono fun e w' ⟨he, hs, hg⟩ => ⟨_, Lib.hid rfl, he, by have := (@nextV_bd zs k (b - a + 1) (by omega)).1; omega, by have := (@nextV_bd zs k (b - a + 1) (by omega)).2; omega, hs, hg⟩
theorem pickH_c (g : Nat) (zs : Zs) (k : Nat) (l : List Int) (a b : Int) (n c z : Nat) (vs : Array Value) (w : World) (h : St w g zs k) (hk : k ≤ 1099511627776) (hz : w.heap.size = z) (hv : vs = (l.map (Value.int .i64)).toArray) (hl : l.length = n) (hn : 1 ≤ n) (hb : n ≤ 1000) (hab : ∀ x ∈ l, a ≤ x ∧ x ≤ b) :
    Calls Tryz.prog 51 #[.pointer (some ⟨g, 0, none⟩), .slice (some ⟨z, 0, none⟩) n c] (w.alloc (.cells vs 3)) fun e w' => ∃ v : Int, Hid (pickV zs k l = v) ∧ e = .returned (.int .i64 v) ∧ a ≤ v ∧ v ≤ b ∧ St w' g zs (k + 1) ∧ w.grownBy w' (some g) := by
  subst hl
  have hm : pickV zs k l ∈ l := pickV_mem (by intro e0; subst e0; simp at hn)
  exact (pick_c g zs k _ _ c l _ (h.alloc _) hk (R1.litAt w z vs l hz hv (le_big hb)) hn).mono fun e w' ⟨he, hs, hg⟩ =>
    ⟨_, Lib.hid rfl, he, (hab _ hm).1, (hab _ hm).2, hs, grown_trans (grown_alloc (grown_refl w _) _) hg⟩
end
end Go.Proofs.YtklggnglaeagpaaGreatDoor
