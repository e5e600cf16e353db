/- Drawn regions of the stream's makers: what a slot holds, what the world keeps. Texts over it are printed by wip/genmk.py. -/
import Derived.Test.YtnkhdofcmanipaaGreatDoorFaDraws
import Derived.OpenShut
import Derived.Test.YtnkhdofcmanipaaGreatDoorFaRows2
import Derived.Test.YtnkhdofcmanipaaGreatDoorFaRegAp
namespace Go.Proofs.YtnkhdofcmanipaaGreatDoor
open Go.RowKit
set_option linter.unusedVariables false

def okK (k : Nat) (v : Value) : Prop := match k with
  | 0 => ∃ s : ByteArray, v = .string s
  | 1 => ∃ x : Int, v = .int .i64 x
  | 2 => ∃ b : Bool, v = .bool b
  | 3 => ∃ s : ByteArray, v = .string s ∧ s.size ≤ 100
  | 4 => ∃ x : Int, v = .int .i64 x ∧ -9223372036854775808 ≤ x ∧ x ≤ 9223372036854775807
  | _ => True
theorem okAt {ks : List Nat} {q c s o : Nat} {u : Value} (hs : ks.length = s) (e : o = q * s + c) (h : okK (ks.getD c 9) u) (ho : o < ks.length) : okK (ks.getD o 9) u := by
  have hq : q = 0 := by
    rcases Nat.eq_zero_or_pos q with h0 | h0
    · exact h0
    · have : 1 * s ≤ q * s := Nat.mul_le_mul_right _ h0
      omega
  subst hq
  rw [Nat.zero_mul, Nat.zero_add] at e
  rw [e]; exact h
theorem wrap_bd (x : Int) : -9223372036854775808 ≤ IntKind.i64.wrap x ∧ IntKind.i64.wrap x ≤ 9223372036854775807 := wf_i64_bd (wf_wrap .i64 x)
/-- a struct's cells are told apart by kinds alone -/
structure EncK {α : Type} (enc : α → List Value) (ks : List Nat) : Prop where
  len : ∀ x, (enc x).length = ks.length
  get : ∀ x c, c < ks.length → ∃ v, (enc x)[c]? = some v ∧ okK (ks.getD c 9) v
  set : ∀ x c v, c < ks.length → okK (ks.getD c 9) v → ∃ y, enc y = (enc x).set c v
inductive Ty where
  | any
  | val (v : Value)
  | int (a b : Int)
  | num
  | str
  | flag
  | ints (n : Nat)
  | intsB (n : Nat) (a b : Int)
  | strs (n : Nat)
  | strS
  | strsS (n : Nat)
  | ptr (b n s : Nat)
  | box (lo : Nat)
  | agg
/-- what a slot holds -/
def Sat {α : Type} (TI TS TB : TypeId) (enc : α → List Value) (w : World) : Ty → Value → Prop
  | .any, _ => True
  | .val u, v => v = u
  | .int a b, v => ∃ x : Int, v = .int .i64 x ∧ a ≤ x ∧ x ≤ b
  | .num, v => ∃ x : Int, v = .int .i64 x
  | .str, v => ∃ s : ByteArray, v = .string s
  | .flag, v => ∃ b : Bool, v = .bool b
  | .ints n, v => ∃ (z : Nat) (l : List Int), v = .slice (some ⟨z, 0, none⟩) n n ∧ l.length = n ∧ w.heap[z]? = some (.cells (ints l).toArray TI (0, 0))
  | .intsB n a b, v => ∃ (z : Nat) (l : List Int), v = .slice (some ⟨z, 0, none⟩) n n ∧ l.length = n ∧ (∀ x ∈ l, a ≤ x ∧ x ≤ b) ∧ w.heap[z]? = some (.cells (ints l).toArray TI (0, 0))
  | .strs n, v => ∃ (z : Nat) (l : List ByteArray), v = .slice (some ⟨z, 0, none⟩) n n ∧ l.length = n ∧ w.heap[z]? = some (.cells (l.map Value.string).toArray TS (0, 0))
  | .strS, v => ∃ s : ByteArray, v = .string s ∧ s.size ≤ 100
  | .strsS n, v => ∃ (z : Nat) (l : List ByteArray), v = .slice (some ⟨z, 0, none⟩) n n ∧ l.length = n ∧ (∀ x ∈ l, x.size ≤ 100) ∧ w.heap[z]? = some (.cells (l.map Value.string).toArray TS (0, 0))
  | .ptr b n s, v => ∃ q : Nat, q < n ∧ v = .pointer (some ⟨b, q * s, none⟩)
  | .box lo, v => ∃ (z : Nat) (x : α), v = .pointer (some ⟨z, 0, none⟩) ∧ lo ≤ z ∧ w.heap[z]? = some (.cells (enc x).toArray TB (0, 0))
  | .agg, v => ∃ x : α, v = .agg (enc x).toArray
def CT {α : Type} (TI TS TB : TypeId) (enc : α → List Value) (tys : List Ty) (j : Nat) (w : World) (v : Value) : Prop := Sat TI TS TB enc w (tys.getD j .any) v
section
variable {α : Type} {TI TS TB T : TypeId} {enc : α → List Value} {ks : List Nat} {w w' : World}
theorem Sat.blocks (hb : ∀ (z : Nat) (cs : Array Value) (e : TypeId), (e = TI ∨ e = TS ∨ e = TB) → w.heap[z]? = some (.cells cs e (0, 0)) → w'.heap[z]? = some (.cells cs e (0, 0))) : ∀ (t : Ty) (v : Value), Sat TI TS TB enc w t v → Sat TI TS TB enc w' t v
  | .any, _, h => h
  | .val _, _, h => h
  | .int _ _, _, h => h
  | .num, _, h => h
  | .str, _, h => h
  | .flag, _, h => h
  | .ptr _ _ _, _, h => h
  | .strS, _, h => h
  | .agg, _, h => h
  | .ints _, _, ⟨z, l, h1, h2, h3⟩ => ⟨z, l, h1, h2, hb z _ _ (.inl rfl) h3⟩
  | .intsB _ _ _, _, ⟨z, l, h1, h2, h4, h3⟩ => ⟨z, l, h1, h2, h4, hb z _ _ (.inl rfl) h3⟩
  | .strs _, _, ⟨z, l, h1, h2, h3⟩ => ⟨z, l, h1, h2, hb z _ _ (.inr (.inl rfl)) h3⟩
  | .strsS _, _, ⟨z, l, h1, h2, h4, h3⟩ => ⟨z, l, h1, h2, h4, hb z _ _ (.inr (.inl rfl)) h3⟩
  | .box _, _, ⟨z, x, h1, h2, h3⟩ => ⟨z, x, h1, h2, hb z _ _ (.inr (.inr rfl)) h3⟩
theorem Sat.alloc (o : Obj) (t : Ty) (v : Value) (h : Sat TI TS TB enc w t v) : Sat TI TS TB enc (w.alloc o) t v := Sat.blocks (fun z cs e _ hz => blk_alloc hz o) t v h
theorem Sat.stream (hk : Keep T w w') (h1 : TI ≠ T) (h2 : TS ≠ T) (h3 : TB ≠ T) (t : Ty) (v : Value) (h : Sat TI TS TB enc w t v) : Sat TI TS TB enc w' t v :=
  Sat.blocks (fun z cs e he hz => hk z cs e (0, 0) (by rcases he with rfl | rfl | rfl <;> assumption) hz) t v h
/-- a store into a cell of a struct -/
theorem Sat.set (hE : EncK enc ks) {p o : Nat} {u : Value} {cs0 : Array Value} {fz : Nat × Nat} (hp : w.heap[p]? = some (.cells cs0 TB fz)) (h1 : TI ≠ TB) (h2 : TS ≠ TB) (ho : o < ks.length → okK (ks.getD o 9) u) : ∀ (t : Ty) (v : Value), Sat TI TS TB enc w t v → Sat TI TS TB enc (w.setCell ⟨p, o, none⟩ u) t v := by
  have hb : ∀ (z : Nat) (cs : Array Value) (e : TypeId), e ≠ TB → w.heap[z]? = some (.cells cs e (0, 0)) → (w.setCell ⟨p, o, none⟩ u).heap[z]? = some (.cells cs e (0, 0)) := fun z cs e he hz => by
    refine blk_other hz (p := ⟨p, o, none⟩) ?_ u
    intro e2
    subst e2
    rw [hz] at hp
    injection hp with hp
    injection hp with _ hp
    exact he hp
  intro t v h
  cases t with
  | any => exact h
  | val _ => exact h
  | int _ _ => exact h
  | num => exact h
  | str => exact h
  | flag => exact h
  | ptr _ _ _ => exact h
  | strS => exact h
  | agg => exact h
  | ints _ => obtain ⟨z, l, q1, q2, q3⟩ := h; exact ⟨z, l, q1, q2, hb z _ _ h1 q3⟩
  | intsB _ _ _ => obtain ⟨z, l, q1, q2, q4, q3⟩ := h; exact ⟨z, l, q1, q2, q4, hb z _ _ h1 q3⟩
  | strs _ => obtain ⟨z, l, q1, q2, q3⟩ := h; exact ⟨z, l, q1, q2, hb z _ _ h2 q3⟩
  | strsS _ => obtain ⟨z, l, q1, q2, q4, q3⟩ := h; exact ⟨z, l, q1, q2, q4, hb z _ _ h2 q3⟩
  | box _ =>
    obtain ⟨z, x, q1, q2, q3⟩ := h
    by_cases hz : z = p
    · subst hz
      have h4 := blk_set q3 o u
      by_cases hlt : o < ks.length
      · obtain ⟨y, hy⟩ := hE.set x o u hlt (ho hlt)
        refine ⟨z, y, q1, q2, ?_⟩
        rw [h4, hy, List.setIfInBounds_toArray]
      · refine ⟨z, x, q1, q2, ?_⟩
        rw [h4, Array.setIfInBounds_eq_of_size_le (by have := hE.len x; simp; omega)]
    · exact ⟨z, x, q1, q2, blk_other q3 (p := ⟨p, o, none⟩) hz u⟩
end
def Ty.isVal : Ty → Bool
  | .any => true
  | .val _ => true
  | _ => false
/-- where all values are known the world is no matter -/
theorem CT.val {α : Type} {TI TS TB : TypeId} {enc : α → List Value} {tys : List Ty} {j : Nat} {w w1 : World} {v : Value} (hv : tys.all Ty.isVal = true) (h : CT TI TS TB enc tys j w v) : CT TI TS TB enc tys j w1 v := by
  unfold CT at h ⊢
  have h2 : (tys.getD j .any).isVal = true := by
    rw [List.getD_eq_getElem?_getD]
    cases hx : tys[j]? with
    | none => rfl
    | some t => exact List.all_eq_true.1 hv t (List.mem_of_getElem? hx)
  generalize tys.getD j .any = t at *
  cases t <;> first | exact h | cases h2
/-- no row: only the stream turns -/
def MW0 (w0 : World) (g : Nat) (zs : Zs) (K : Nat) (calls : List Nat) (listed : Array Bool) (w' : World) : Prop :=
  ∃ kk, St w' g zs kk ∧ w0.grownBy w' (some g) ∧ kk + 2 * remL calls listed ≤ K
section
variable {w0 w' w1 : World} {g K i : Nat} {zs : Zs} {calls : List Nat} {listed : Array Bool}
theorem MW0.start {k : Nat} {n : Nat} (h : St w0 g zs k) (hK : k + 2 * calls.length ≤ K) : MW0 w0 g zs K calls (Array.replicate n false) w0.drew :=
  ⟨k, h.drew, grown_drew (grown_refl w0 _), by have := remL_le (Array.replicate n false) calls; omega⟩
theorem MW0.keep (h : MW0 w0 g zs K calls listed w') (hi : i ∉ calls) : MW0 w0 g zs K calls (listed.setIfInBounds i true) w' := by
  obtain ⟨kk, h1, h2, h3⟩ := h
  exact ⟨kk, h1, h2, by rw [remL_set hi]; exact h3⟩
theorem MW0.alloc (h : MW0 w0 g zs K calls listed w') (o : Obj) : MW0 w0 g zs K calls listed (w'.alloc o) := by
  obtain ⟨kk, h1, h2, h3⟩ := h
  exact ⟨kk, h1.alloc o, grown_alloc h2 o, h3⟩
theorem MW0.call (h : MW0 w0 g zs K calls listed w') (h0 : listed.getD i true = false) (hi : i ∈ calls) (hn : calls.Nodup) : ∃ kk, St w' g zs kk ∧ kk + 2 ≤ K ∧ ∀ w1 k1, k1 ≤ kk + 2 → St w1 g zs k1 → w'.grownBy w1 (some g) → MW0 w0 g zs K calls (listed.setIfInBounds i true) w1 := by
  obtain ⟨kk, h1, h2, h3⟩ := h
  have hr := remL_call h0 hi hn
  exact ⟨kk, h1, by omega, fun w1 k1 hk s1 g1 => ⟨k1, s1, grown_trans h2 g1, by omega⟩⟩
theorem MW0.size (h : MW0 w0 g zs K calls listed w') : w0.heap.size ≤ w'.heap.size := by
  obtain ⟨kk, h1, h2, h3⟩ := h
  exact h2.size
theorem MW0.setNew (h : MW0 w0 g zs K calls listed w') {z o : Nat} (hz : w0.heap.size ≤ z) (hg : g < w0.heap.size) (v : Value) : MW0 w0 g zs K calls listed (w'.setCell ⟨z, o, none⟩ v) := by
  obtain ⟨kk, h1, h2, h3⟩ := h
  exact ⟨kk, h1.setAt (by omega) v, grown_setAt h2 hz v, h3⟩
theorem MW0.cell (h : MW0 w0 g zs K calls listed w') {p : Addr} {v : Value} (hc : w0.cell? p = some v) (hne : p.block ≠ g) : w'.cell? p = some v := by
  obtain ⟨kk, h1, h2, h3⟩ := h
  exact h2.cell hc (fun e => hne (by injection e))
end
/-- any state of the world X, with how many numbers were taken (kk) and how many writes of a map were made (q) -/
def GW (X : Nat → Nat → World → Prop) (K : Nat) (calls : List Nat) (Q : Nat) (ups : List Nat) (listed : Array Bool) (w' : World) : Prop :=
  ∃ kk q, X kk q w' ∧ kk + 2 * remL calls listed ≤ K ∧ q + remL ups listed ≤ Q
section
variable {X : Nat → Nat → World → Prop} {w0 w' w1 : World} {g K Q i : Nat} {zs : Zs} {calls ups : List Nat} {listed : Array Bool}
theorem GW.start {k q n : Nat} (h : X k q w') (hK : k + 2 * calls.length ≤ K) (hQ : q + ups.length ≤ Q) : GW X K calls Q ups (Array.replicate n false) w' :=
  ⟨k, q, h, by have := remL_le (Array.replicate n false) calls; omega, by have := remL_le (Array.replicate n false) ups; omega⟩
theorem GW.keep (h : GW X K calls Q ups listed w') (hi : i ∉ calls) (hj : i ∉ ups) : GW X K calls Q ups (listed.setIfInBounds i true) w' := by
  obtain ⟨kk, q, h1, h2, h3⟩ := h
  exact ⟨kk, q, h1, by rw [remL_set hi]; exact h2, by rw [remL_set hj]; exact h3⟩
theorem GW.alloc (hXa : ∀ kk q w o, X kk q w → X kk q (w.alloc o)) (h : GW X K calls Q ups listed w') (o : Obj) : GW X K calls Q ups listed (w'.alloc o) := by
  obtain ⟨kk, q, h1, h2, h3⟩ := h
  exact ⟨kk, q, hXa _ _ _ _ h1, h2, h3⟩
theorem GW.call (hXt : ∀ kk q w, X kk q w → St w g zs kk) (hXs : ∀ kk q w w1 k1, X kk q w → St w1 g zs k1 → w.grownBy w1 (some g) → X k1 q w1) (h : GW X K calls Q ups listed w') (h0 : listed.getD i true = false) (hi : i ∈ calls) (hj : i ∉ ups) (hn : calls.Nodup) : ∃ kk, St w' g zs kk ∧ kk + 2 ≤ K ∧ ∀ w1 k1, k1 ≤ kk + 2 → St w1 g zs k1 → w'.grownBy w1 (some g) → GW X K calls Q ups (listed.setIfInBounds i true) w1 := by
  obtain ⟨kk, q, h1, h2, h3⟩ := h
  have hr := remL_call h0 hi hn
  exact ⟨kk, hXt _ _ _ h1, by omega, fun w1 k1 hk s1 g1 => ⟨k1, q, hXs _ _ _ _ _ h1 s1 g1, by omega, by rw [remL_set hj]; exact h3⟩⟩
theorem GW.up (h : GW X K calls Q ups listed w') (h0 : listed.getD i true = false) (hi : i ∉ calls) (hj : i ∈ ups) (hn : ups.Nodup) : ∃ kk q, X kk q w' ∧ q + 1 ≤ Q ∧ ∀ w1, X kk (q + 1) w1 → GW X K calls Q ups (listed.setIfInBounds i true) w1 := by
  obtain ⟨kk, q, h1, h2, h3⟩ := h
  have hr := remL_call h0 hj hn
  exact ⟨kk, q, h1, by omega, fun w1 hx => ⟨kk, q + 1, hx, by rw [remL_set hi]; exact h2, by omega⟩⟩
end
/-- with a row of the call's own, in block b -/
def MW1 {α : Type} (w0 : World) (g : Nat) (zs : Zs) (TB : TypeId) (enc : α → List Value) (s base b n c : Nat) (K : Nat) (calls : List Nat) (listed : Array Bool) (w' : World) : Prop :=
  ∃ (kk : Nat) (l : List α), St w' g zs kk ∧ w'.ownsRow base TB s (.slice (some ⟨b, 0, none⟩) n c) n (l.flatMap enc) ∧ l.length = n ∧
    (w'.os = w0.os ∧ w'.tape = w0.tape ∧ w'.output = w0.output ∧ w0.heap.size ≤ w'.heap.size ∧ ∀ i, i < w0.heap.size → i ≠ g → i ≠ b → w'.heap[i]? = w0.heap[i]?) ∧ kk + 2 * remL calls listed ≤ K
section
variable {α : Type} {w0 w' w1 : World} {g K i s base b n c : Nat} {zs : Zs} {calls : List Nat} {listed : Array Bool} {TB : TypeId} {enc : α → List Value} {ks : List Nat}
theorem MW1.start {k m : Nat} {l : List α} (h : St w0 g zs k) (ho : w0.ownsRow base TB s (.slice (some ⟨b, 0, none⟩) n c) n (l.flatMap enc)) (hl : l.length = n) (hK : k + 2 * calls.length ≤ K) : MW1 w0 g zs TB enc s base b n c K calls (Array.replicate m false) w0.drew :=
  ⟨k, l, h.drew, ho, hl, ⟨rfl, rfl, rfl, Nat.le_refl _, fun _ _ _ _ => rfl⟩, by have := remL_le (Array.replicate m false) calls; omega⟩
theorem MW1.keep (h : MW1 w0 g zs TB enc s base b n c K calls listed w') (hi : i ∉ calls) : MW1 w0 g zs TB enc s base b n c K calls (listed.setIfInBounds i true) w' := by
  obtain ⟨kk, l, h1, h2, h4, h5, h3⟩ := h
  exact ⟨kk, l, h1, h2, h4, h5, by rw [remL_set hi]; exact h3⟩
theorem MW1.alloc (h : MW1 w0 g zs TB enc s base b n c K calls listed w') (o : Obj) : MW1 w0 g zs TB enc s base b n c K calls listed (w'.alloc o) := by
  obtain ⟨kk, l, h1, h2, h4, ⟨e1, e2, e3, e4, e5⟩, h3⟩ := h
  exact ⟨kk, l, h1.alloc o, h2.alloc o, h4, ⟨e1, e2, e3, Nat.le_trans e4 (by simp), fun i hi n1 n2 => (Below.heap_alloc w' o i (Nat.lt_of_lt_of_le hi e4)).trans (e5 i hi n1 n2)⟩, h3⟩
theorem MW1.call (hgb : g < base) (h : MW1 w0 g zs TB enc s base b n c K calls listed w') (h0 : listed.getD i true = false) (hi : i ∈ calls) (hn : calls.Nodup) : ∃ kk, St w' g zs kk ∧ kk + 2 ≤ K ∧ ∀ w1 k1, k1 ≤ kk + 2 → St w1 g zs k1 → w'.grownBy w1 (some g) → MW1 w0 g zs TB enc s base b n c K calls (listed.setIfInBounds i true) w1 := by
  obtain ⟨kk, l, h1, h2, h4, ⟨e1, e2, e3, e4, e5⟩, h3⟩ := h
  have hr := remL_call h0 hi hn
  exact ⟨kk, h1, by omega, fun w1 k1 hk s1 g1 => ⟨k1, l, s1, own_keep h2 hgb g1, h4, ⟨g1.os.trans e1, g1.tape.trans e2, g1.output.trans e3, Nat.le_trans e4 g1.size, fun i hi n1 n2 => (g1.block i (Nat.lt_of_lt_of_le hi e4) (fun e => n1 (by injection e))).trans (e5 i hi n1 n2)⟩, by omega⟩⟩
theorem MW1.cell (h : MW1 w0 g zs TB enc s base b n c K calls listed w') {p : Addr} {v : Value} (hc : w0.cell? p = some v) (hne : p.block ≠ g) (hnb : p.block ≠ b) : w'.cell? p = some v := by
  obtain ⟨kk, l, h1, h2, h4, ⟨e1, e2, e3, e4, e5⟩, h3⟩ := h
  exact (World.cell?_of_block (e5 p.block (World.block_lt_of_cell? w0 p hc) hne hnb)).trans hc
theorem flat_atC {enc : α → List Value} {s : Nat} (hs : ∀ x, (enc x).length = s) : ∀ (l : List α) (k q : Nat) (x : α), l[k]? = some x → q < s → (l.flatMap enc)[k * s + q]? = (enc x)[q]?
  | [], _, _, _, h, _ => by simp at h
  | y :: l, 0, q, x, h, hq => by
    obtain rfl : y = x := by simpa using h
    rw [List.flatMap_cons, Nat.zero_mul, Nat.zero_add, List.getElem?_append_left (by rw [hs]; exact hq)]
  | y :: l, k + 1, q, x, h, hq => by
    rw [List.flatMap_cons, List.getElem?_append_right (by rw [hs, Nat.succ_mul]; omega)]
    have h2 := flat_atC hs l k q x (by simpa using h) hq
    rw [← h2]
    congr 1
    rw [hs, Nat.succ_mul]; omega
theorem MW1.blk (h : MW1 w0 g zs TB enc s base b n c K calls listed w') : ∃ cs, w'.heap[b]? = some (.cells cs TB (0, 0)) := by
  obtain ⟨kk, l, h1, h2, h4, h5, h3⟩ := h
  rcases h2.2 with ⟨h9, _⟩ | ⟨g9, cap, cur, hv, _, hh, _⟩
  · cases h9
  · injection hv with hv
    injection hv with hv
    injection hv with hv
    subst hv
    exact ⟨cur, hh⟩
/-- a field of an element is of its kind -/
theorem MW1.load (hE : EncK enc ks) (hs : ks.length = s) (h : MW1 w0 g zs TB enc s base b n c K calls listed w') {q d : Nat} (hq : q < n) (hd : d < s) : ∃ v, w'.cell? ⟨b, q * s + d, none⟩ = some v ∧ okK (ks.getD d 9) v ∧ w'.frozen? ⟨b, q * s + d, none⟩ = false := by
  obtain ⟨kk, l, h1, h2, h4, h5, h3⟩ := h
  subst hs
  obtain ⟨x, hx⟩ := at_of_lt (l := l) (k := q) (by omega)
  obtain ⟨v, hv, hk⟩ := hE.get x d hd
  have hf := flat_atC hE.len l q d x hx hd
  rw [hv] at hf
  refine ⟨v, ?_, hk, h2.frozenAt _⟩
  rw [h2.cellAt _ (by
    have : (q + 1) * ks.length ≤ n * ks.length := Nat.mul_le_mul_right _ hq
    rw [Nat.succ_mul] at this; omega)]
  exact hf
theorem MW1.store (hE : EncK enc ks) (hs : ks.length = s) (hgb : g < base) (h : MW1 w0 g zs TB enc s base b n c K calls listed w') {q d : Nat} (hq : q < n) (hd : d < s) {v : Value} (hv : okK (ks.getD d 9) v) : MW1 w0 g zs TB enc s base b n c K calls listed (w'.setCell ⟨b, q * s + d, none⟩ v) := by
  obtain ⟨kk, l, h1, h2, h4, ⟨e1, e2, e3, e4, e5⟩, h3⟩ := h
  subst hs
  obtain ⟨x, hx⟩ := at_of_lt (l := l) (k := q) (by omega)
  obtain ⟨y, hy⟩ := hE.set x d v hd hv
  have hb : base ≤ b := (h2.lt b rfl).1
  have h6 := (h2.stored (q * ks.length + d) v).1
  rw [flat_set hE.len l q x y d v hx hd hy] at h6
  refine ⟨kk, l.set q y, h1.setAt (by omega) v, h6, by rw [List.length_set]; exact h4, ⟨e1, e2, e3, by simpa [World.setCell] using e4, fun i hi n1 n2 => (Below.heap_setCell w' _ v i n2).trans (e5 i hi n1 n2)⟩, h3⟩
/-- the stream and the call's own row turned, nothing else -/
theorem MW1.out {w : World} (h : MW1 w0 g zs TB enc s base b n c K calls listed w') (hgr : w.grownBy w0 (some g)) (hb : w.heap.size ≤ base) : ∃ (kk : Nat) (l : List α), St w' g zs kk ∧ w'.ownsRow base TB s (.slice (some ⟨b, 0, none⟩) n c) n (l.flatMap enc) ∧ l.length = n ∧ w.grownBy w' (some g) ∧ kk ≤ K := by
  obtain ⟨kk, l, h1, h2, h4, ⟨e1, e2, e3, e4, e5⟩, h3⟩ := h
  have hbb : base ≤ b := (h2.lt b rfl).1
  exact ⟨kk, l, h1, h2, h4, ⟨e1.trans hgr.os, e2.trans hgr.tape, e3.trans hgr.output, Nat.le_trans hgr.size e4, fun i hi hne => (e5 i (Nat.lt_of_lt_of_le hi hgr.size) (fun e => hne (by rw [e])) (by omega)).trans (hgr.block i hi hne)⟩, by omega⟩
end
end Go.Proofs.YtnkhdofcmanipaaGreatDoor
