import Derived.Test.YtjafcnblgeibpaaGreatDoorMkReg
import Derived.Test.YtjafcnblgeibpaaGreatDoorSigD
import Derived.Test.YtjafcnblgeibpaaGreatDoorSortS
/- The stream's signals: the closure put. Printed by wip/gensigm.py. -/
namespace Go.Proofs.YtjafcnblgeibpaaGreatDoor
open Go.RowKit Go.Shelf Go.Lib Go.Sort
open Go.Maps (Keyed string_keyed)
open Go.WideMaps (keyOf_string_mk)
set_option linter.unusedVariables false

theorem sgK : EncK sgE [0, 1, 1, 1, 1, 1] := by
  refine ⟨fun _ => rfl, fun x c hc => ?_, fun x c v hc hv => ?_⟩
  · match c, hc with
    | 0, _ => exact ⟨_, rfl, _, rfl⟩
    | 1, _ => exact ⟨_, rfl, _, rfl⟩
    | 2, _ => exact ⟨_, rfl, _, rfl⟩
    | 3, _ => exact ⟨_, rfl, _, rfl⟩
    | 4, _ => exact ⟨_, rfl, _, rfl⟩
    | 5, _ => exact ⟨_, rfl, _, rfl⟩
  · match c, hc, hv with
    | 0, _, ⟨y, h⟩ => subst h; exact ⟨⟨y, x.no, x.kind, x.tm, x.lane, x.time⟩, rfl⟩
    | 1, _, ⟨y, h⟩ => subst h; exact ⟨⟨x.dev, y, x.kind, x.tm, x.lane, x.time⟩, rfl⟩
    | 2, _, ⟨y, h⟩ => subst h; exact ⟨⟨x.dev, x.no, y, x.tm, x.lane, x.time⟩, rfl⟩
    | 3, _, ⟨y, h⟩ => subst h; exact ⟨⟨x.dev, x.no, x.kind, y, x.lane, x.time⟩, rfl⟩
    | 4, _, ⟨y, h⟩ => subst h; exact ⟨⟨x.dev, x.no, x.kind, x.tm, y, x.time⟩, rfl⟩
    | 5, _, ⟨y, h⟩ => subst h; exact ⟨⟨x.dev, x.no, x.kind, x.tm, x.lane, y⟩, rfl⟩
theorem mi_ne {w : World} {b n : Nat} {D : DataW Unit} (h : MI w b n D) {z : Nat} {cs : Array Value} {e : TypeId} (hz : w.heap[z]? = some (.cells cs e (0, 0))) : z ≠ b := by
  obtain ⟨es, clock, hb, _⟩ := h
  intro e2; subst e2
  rw [hz] at hb; cases hb
/-- where the captured variables lie -/
structure SO (w : World) (g p1 p2 pm p3 base : Nat) : Prop where
  g0 : g < w.heap.size
  o1 : w.heap.size ≤ p1
  o2 : p1 < p2
  o3 : p2 < pm
  o4 : pm < p3
  o5 : p3 < base
  o6 : base ≤ p3 + 1
section
variable {w wr w' : World} {g : Nat} {zs : List Int} {p1 p2 pm p3 base : Nat} {u : Value} {acc : List Sg} {kk q : Nat}
end
end Go.Proofs.YtjafcnblgeibpaaGreatDoor

/- The stream's signals. Printed by wip/gensgn.py. -/
namespace Go.Proofs.YtjafcnblgeibpaaGreatDoor
open Go.RowKit Go.Shelf Go.Lib Go.Sort
open Go.Maps (Keyed string_keyed)
open Go.WideMaps (keyOf_string_mk)
set_option linter.unusedVariables false

/-- a signal of a device with a short name -/
abbrev SgS : Type := { x : Sg // x.dev.size ≤ 100 }
def sgS (x : SgS) : List Value := [.string x.1.dev, .int .i64 x.1.no, .int .i64 x.1.kind, .int .i64 x.1.tm, .int .i64 x.1.lane, .int .i64 x.1.time]
theorem sgSK : EncK sgS [3, 1, 1, 1, 1, 1] := by
  refine ⟨fun _ => rfl, fun x c hc => ?_, fun x c v hc hv => ?_⟩
  · match c, hc with
    | 0, _ => exact ⟨_, rfl, _, rfl, x.2⟩
    | 1, _ => exact ⟨_, rfl, _, rfl⟩
    | 2, _ => exact ⟨_, rfl, _, rfl⟩
    | 3, _ => exact ⟨_, rfl, _, rfl⟩
    | 4, _ => exact ⟨_, rfl, _, rfl⟩
    | 5, _ => exact ⟨_, rfl, _, rfl⟩
  · match c, hc, hv with
    | 0, _, ⟨y, h, hy⟩ => subst h; exact ⟨⟨⟨y, x.1.no, x.1.kind, x.1.tm, x.1.lane, x.1.time⟩, hy⟩, rfl⟩
    | 1, _, ⟨y, h⟩ => subst h; exact ⟨⟨⟨x.1.dev, y, x.1.kind, x.1.tm, x.1.lane, x.1.time⟩, x.2⟩, rfl⟩
    | 2, _, ⟨y, h⟩ => subst h; exact ⟨⟨⟨x.1.dev, x.1.no, y, x.1.tm, x.1.lane, x.1.time⟩, x.2⟩, rfl⟩
    | 3, _, ⟨y, h⟩ => subst h; exact ⟨⟨⟨x.1.dev, x.1.no, x.1.kind, y, x.1.lane, x.1.time⟩, x.2⟩, rfl⟩
    | 4, _, ⟨y, h⟩ => subst h; exact ⟨⟨⟨x.1.dev, x.1.no, x.1.kind, x.1.tm, y, x.1.time⟩, x.2⟩, rfl⟩
    | 5, _, ⟨y, h⟩ => subst h; exact ⟨⟨⟨x.1.dev, x.1.no, x.1.kind, x.1.tm, x.1.lane, y⟩, x.2⟩, rfl⟩
theorem cb_self : ∀ a : List UInt8, Lib.compareBytes a a = 0
  | [] => rfl
  | x :: a => by
    unfold Lib.compareBytes
    have h : ¬ x < x := by simp
    rw [if_neg h, if_neg h]
    exact cb_self a
theorem cb_zero : ∀ a b : List UInt8, Lib.compareBytes a b = 0 → a = b
  | [], [], _ => rfl
  | [], _ :: _, h => by simp [Lib.compareBytes] at h
  | _ :: _, [], h => by simp [Lib.compareBytes] at h
  | x :: a, y :: b, h => by
    unfold Lib.compareBytes at h
    split at h
    · simp at h
    · split at h
      · simp at h
      · rename_i h1 h2
        rw [UInt8.lt_iff_toNat_lt] at h1 h2
        have e : x = y := UInt8.toNat_inj.1 (by omega)
        rw [e, cb_zero a b h]
theorem cb_neg : ∀ a b : List UInt8, Lib.compareBytes a b < 0 ↔ 0 < Lib.compareBytes b a
  | [], [] => by simp [Lib.compareBytes]
  | [], _ :: _ => by simp [Lib.compareBytes]
  | _ :: _, [] => by simp [Lib.compareBytes]
  | x :: a, y :: b => by
    unfold Lib.compareBytes
    by_cases h1 : x < y
    · have h2 : ¬ y < x := by rw [UInt8.lt_iff_toNat_lt] at *; omega
      rw [if_pos h1, if_neg h2, if_pos h1]; omega
    · by_cases h2 : y < x
      · rw [if_neg h1, if_pos h2, if_pos h2]; omega
      · rw [if_neg h1, if_neg h2, if_neg h2, if_neg h1]
        exact cb_neg a b
theorem cb_trans : ∀ a b c : List UInt8, Lib.compareBytes a b < 0 → Lib.compareBytes b c < 0 → Lib.compareBytes a c < 0
  | [], [], c, h1, h2 => by simp [Lib.compareBytes] at h1
  | [], _ :: _, [], h1, h2 => by simp [Lib.compareBytes] at h2
  | [], _ :: _, _ :: _, _, _ => by simp [Lib.compareBytes]
  | _ :: _, [], _, h1, _ => by simp [Lib.compareBytes] at h1
  | _ :: _, _ :: _, [], _, h2 => by simp [Lib.compareBytes] at h2
  | x :: a, y :: b, z :: c, h1, h2 => by
    unfold Lib.compareBytes at *
    simp only [UInt8.lt_iff_toNat_lt] at *
    by_cases a1 : x.toNat < y.toNat
    · by_cases b1 : y.toNat < z.toNat
      · rw [if_pos (by omega)]; omega
      · rw [if_neg b1] at h2
        by_cases b2 : z.toNat < y.toNat
        · rw [if_pos b2] at h2; omega
        · rw [if_pos (by omega)]; omega
    · rw [if_neg a1] at h1
      by_cases a2 : y.toNat < x.toNat
      · rw [if_pos a2] at h1; omega
      · rw [if_neg a2] at h1
        by_cases b1 : y.toNat < z.toNat
        · rw [if_pos (by omega)]; omega
        · rw [if_neg b1] at h2
          by_cases b2 : z.toNat < y.toNat
          · rw [if_pos b2] at h2; omega
          · rw [if_neg b2] at h2
            rw [if_neg (by omega), if_neg (by omega)]
            exact cb_trans a b c h1 h2
theorem cmpB_zero {a b : ByteArray} : cmpB a b = 0 ↔ a = b := by
  constructor
  · intro h
    have h3 := cb_zero _ _ h
    cases a; cases b
    simpa using h3
  · rintro rfl; exact cb_self _
theorem cmpB_neg {a b : ByteArray} : cmpB a b < 0 ↔ 0 < cmpB b a := cb_neg _ _
theorem cmpB_trans {a b c : ByteArray} (h1 : cmpB a b < 0) (h2 : cmpB b c < 0) : cmpB a c < 0 := cb_trans _ _ _ h1 h2
theorem sgDf_iff (x y : Sg) : ltOf (fun x y : Sg => cmpB x.dev y.dev) x y = true ↔ cmpB x.dev y.dev < 0 := by
  have e : ltOf (fun x y : Sg => cmpB x.dev y.dev) x y = decide (cmpB x.dev y.dev < 0) := rfl
  rw [e, decide_eq_true_iff]
theorem sgDf_no (x y : Sg) : ltOf (fun x y : Sg => cmpB x.dev y.dev) x y = false ↔ ¬ cmpB x.dev y.dev < 0 := by
  rw [← sgDf_iff, Bool.not_eq_true]
theorem sgDfSWO : SWO (ltOf (fun x y : Sg => cmpB x.dev y.dev)) := by
  refine ⟨fun x => ?_, fun x y z => ?_, fun x y z => ?_⟩
  · rw [sgDf_no]
    have h := (@cmpB_zero x.dev x.dev).2 rfl
    omega
  · rw [sgDf_iff, sgDf_iff, sgDf_iff]
    exact fun h1 h2 => cmpB_trans h1 h2
  · rw [sgDf_no, sgDf_no, sgDf_no]
    intro h1 h2 h3
    by_cases e1 : x.dev = y.dev
    · rw [e1] at h3
      exact h2 h3
    · by_cases e2 : y.dev = z.dev
      · rw [← e2] at h3
        exact h1 h3
      · have a1 : cmpB x.dev y.dev ≠ 0 := fun h => e1 (cmpB_zero.1 h)
        have a2 : cmpB y.dev z.dev ≠ 0 := fun h => e2 (cmpB_zero.1 h)
        have b1 : cmpB y.dev x.dev < 0 := cmpB_neg.2 (by omega)
        have b2 : cmpB z.dev y.dev < 0 := cmpB_neg.2 (by omega)
        have b3 := cmpB_neg.1 (cmpB_trans b2 b1)
        omega
/-- there is a signal of a start -/
def HasS (l : List Sg) : Prop := ∃ x ∈ l, x.kind = 1
theorem HasS.app {l : List Sg} (h : HasS l) (y : Sg) : HasS (l ++ [y]) := by
  obtain ⟨x, hx, e⟩ := h
  exact ⟨x, List.mem_append_left _ hx, e⟩
theorem HasS.ins {l : List Sg} (h : HasS l) : HasS (insL (ltOf (fun x y : Sg => cmpB x.dev y.dev)) l) := by
  obtain ⟨x, hx, e⟩ := h
  exact ⟨x, ((insL_spec sgDfSWO l).1.symm.subset hx), e⟩
/-- MW1, and an element of the row is a start -/
def MW1k {α : Type} (w0 : World) (g : Nat) (zs : List Int) (TB : TypeId) (enc : α → List Value) (s base b n c : Nat) (K : Nat) (calls : List Nat) (listed : Array Bool) (w' : World) : Prop :=
  MW1 w0 g zs TB enc s base b n c K calls listed w' ∧ ∃ q0, q0 < n ∧ w'.cell? ⟨b, q0 * s + 2, none⟩ = some (.int .i64 1)
section
variable {α : Type} {w0 w' w1 : World} {g K i s base b n c : Nat} {zs : List Int} {calls : List Nat} {listed : Array Bool} {TB : TypeId} {enc : α → List Value} {ks : List Nat}
theorem flat6 (l : List Sg) (k : Nat) (x : Sg) (h : l[k]? = some x) : (l.flatMap sgE)[k * 6 + 2]? = some (.int .i64 x.kind) := (flat_atC sgE_len l k 2 x h (by decide)).trans rfl
theorem MW1k.start {k m : Nat} {l : List Sg} (hh : HasS l) (h : St w0 g zs k) (ho : w0.ownsRow base TB 6 (.slice (some ⟨b, 0, none⟩) n c) n (l.flatMap sgE)) (hl : l.length = n) (hK : k + 2 * calls.length ≤ K) : MW1k w0 g zs TB sgE 6 base b n c K calls (Array.replicate m false) w0.drew := by
  refine ⟨MW1.start h ho hl hK, ?_⟩
  obtain ⟨x, hx, e⟩ := hh
  obtain ⟨q, hq, rfl⟩ := List.getElem_of_mem hx
  have hq' : l[q]? = some l[q] := List.getElem?_eq_getElem hq
  refine ⟨q, by omega, ?_⟩
  have h2 : w0.cell? ⟨b, q * 6 + 2, none⟩ = some (.int .i64 1) := by
    rw [ho.cellAt _ (by omega), flat6 l q _ hq', e]
  exact h2
theorem MW1k.keep (h : MW1k w0 g zs TB enc s base b n c K calls listed w') (hi : i ∉ calls) : MW1k w0 g zs TB enc s base b n c K calls (listed.setIfInBounds i true) w' := ⟨h.1.keep hi, h.2⟩
theorem MW1k.alloc (h : MW1k w0 g zs TB enc s base b n c K calls listed w') (o : Obj) : MW1k w0 g zs TB enc s base b n c K calls listed (w'.alloc o) := by
  refine ⟨h.1.alloc o, ?_⟩
  obtain ⟨q, hq, hc⟩ := h.2
  exact ⟨q, hq, (World.cell?_of_block (Below.heap_alloc w' o b (World.block_lt_of_cell? w' _ hc))).trans hc⟩
theorem MW1k.call (hgb : g < base) (h : MW1k w0 g zs TB enc s base b n c K calls listed w') (h0 : listed.getD i true = false) (hi : i ∈ calls) (hn : calls.Nodup) : ∃ kk, St w' g zs kk ∧ kk + 2 ≤ K ∧ ∀ w1 k1, k1 ≤ kk + 2 → St w1 g zs k1 → w'.grownBy w1 (some g) → MW1k w0 g zs TB enc s base b n c K calls (listed.setIfInBounds i true) w1 := by
  obtain ⟨kk, a1, a2, a3⟩ := MW1.call hgb h.1 h0 hi hn
  obtain ⟨q, hq, hc⟩ := h.2
  have hb : base ≤ b := by
    obtain ⟨_, _, _, ho, _⟩ := h.1
    exact (ho.lt b rfl).1
  refine ⟨kk, a1, a2, fun w1 k1 b1 b2 b3 => ⟨a3 w1 k1 b1 b2 b3, q, hq, ?_⟩⟩
  exact (World.cell?_of_block (b3.block b (World.block_lt_of_cell? w' _ hc) (fun e => by injection e; omega))).trans hc
theorem MW1k.cell (h : MW1k w0 g zs TB enc s base b n c K calls listed w') {p : Addr} {v : Value} (hc : w0.cell? p = some v) (hne : p.block ≠ g) (hnb : p.block ≠ b) : w'.cell? p = some v := h.1.cell hc hne hnb
theorem MW1k.blk (h : MW1k w0 g zs TB enc s base b n c K calls listed w') : ∃ cs, w'.heap[b]? = some (.cells cs TB (0, 0)) := h.1.blk
theorem MW1k.load (hE : EncK enc ks) (hs : ks.length = s) (h : MW1k w0 g zs TB enc s base b n c K calls listed w') {q d : Nat} (hq : q < n) (hd : d < s) : ∃ v, w'.cell? ⟨b, q * s + d, none⟩ = some v ∧ okK (ks.getD d 9) v ∧ w'.frozen? ⟨b, q * s + d, none⟩ = false := MW1.load hE hs h.1 hq hd
theorem MW1k.store (hE : EncK enc ks) (hs : ks.length = s) (hgb : g < base) (h : MW1k w0 g zs TB enc s base b n c K calls listed w') {q d : Nat} (hq : q < n) (hd : d < s) {v : Value} (hv : okK (ks.getD d 9) v) (h6 : s = 6 := by rfl) (hd2 : d ≠ 2 := by decide) : MW1k w0 g zs TB enc s base b n c K calls listed (w'.setCell ⟨b, q * s + d, none⟩ v) := by
  refine ⟨MW1.store hE hs hgb h.1 hq hd hv, ?_⟩
  obtain ⟨q0, hq0, hc⟩ := h.2
  refine ⟨q0, hq0, ?_⟩
  subst h6
  exact (World.cell?_setCell_other w' _ _ v (by intro e; injection e with e1 e2 e3; omega)).trans hc
theorem MW1k.out {w : World} {g K base b n c : Nat} {zs : List Int} {calls : List Nat} {listed : Array Bool} {TB : TypeId} (h : MW1k w0 g zs TB sgE 6 base b n c K calls listed w') (hgr : w.grownBy w0 (some g)) (hb : w.heap.size ≤ base) : ∃ (kk : Nat) (l : List Sg), St w' g zs kk ∧ w'.ownsRow base TB 6 (.slice (some ⟨b, 0, none⟩) n c) n (l.flatMap sgE) ∧ l.length = n ∧ w.grownBy w' (some g) ∧ kk ≤ K ∧ HasS l := by
  obtain ⟨kk, l, a1, a2, a3, a4, a5⟩ := h.1.out hgr hb
  obtain ⟨q0, hq0, hc⟩ := h.2
  refine ⟨kk, l, a1, a2, a3, a4, a5, ?_⟩
  obtain ⟨x, hx⟩ := at_of_lt (l := l) (k := q0) (by omega)
  rw [a2.cellAt _ (by omega), flat6 l q0 x hx] at hc
  refine ⟨x, List.mem_of_getElem? hx, ?_⟩
  injection hc with hc
  injection hc
end
def sgDf (x y : Sg) : Int := cmpB x.dev y.dev
end Go.Proofs.YtjafcnblgeibpaaGreatDoor
