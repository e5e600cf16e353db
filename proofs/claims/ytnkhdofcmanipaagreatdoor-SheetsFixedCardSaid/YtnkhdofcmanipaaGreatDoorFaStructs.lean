import Derived.WalkKit
import Derived.WalkLawsBesides
import Derived.WalkSpells
import Derived.Deep.QuietTactic
import Derived.BigQuiet
import Derived.Lib.Hide
import Derived.Below
import Derived.Laws.OwnMore
import Derived.Deep.AppendLies
import Derived.Deep.Draws
import Derived.Deep.DeepFit
import Derived.Deep.RegionWith
import Derived.Deep.LoopGhost
import Derived.Deep.DeepCutAuto
import Derived.Maps.AppendAt
import Derived.Test.YtnkhdofcmanipaaGreatDoorProg
/- What all texts of this family share: a slice that reads as a list, worlds in which one block alone has turned, small lemmas on endings. Plain theorems over any program. -/
namespace Go.Proofs.YtnkhdofcmanipaaGreatDoor
open Go.RowKit
set_option linter.unusedVariables false

/-! ## endings -/
theorem ret_b {a b : Bool} (h : a = b) : Ending.returned (.bool a) = .returned (.bool b) := by rw [h]
theorem ret_i {a b : Int} (h : a = b) : Ending.returned (.int .i64 a) = .returned (.int .i64 b) := by rw [h]
theorem ret_s {a b : ByteArray} (h : a = b) : Ending.returned (.string a) = .returned (.string b) := by rw [h]
theorem le_big {n : Nat} (h : n ≤ 1000) : n ≤ 140737488355328 := by omega

theorem mul_bd {a b A B : Int} (h0 : 0 ≤ a) (h1 : a ≤ A) (h2 : 0 ≤ b) (h3 : b ≤ B) : 0 ≤ a * b ∧ a * b ≤ A * B :=
  ⟨Int.mul_nonneg h0 h2, Int.mul_le_mul h1 h3 h2 (by omega)⟩

/-! ## lists -/
theorem drop_at {α : Type} {l : List α} {k : Nat} {x : α} (h : l[k]? = some x) : l.drop k = x :: l.drop (k + 1) := by
  have hk : k < l.length := by
    rcases Nat.lt_or_ge k l.length with h' | h'
    · exact h'
    · rw [List.getElem?_eq_none h'] at h; cases h
  rw [List.drop_eq_getElem_cons hk]
  rw [List.getElem?_eq_getElem hk] at h
  rw [Option.some.inj h]
theorem drop_end {α : Type} {l : List α} {k : Nat} (h : l.length ≤ k) : l.drop k = [] := List.drop_of_length_le h
theorem at_of_lt {α : Type} {l : List α} {k : Nat} (h : k < l.length) : ∃ x, l[k]? = some x := ⟨l[k], List.getElem?_eq_getElem h⟩
theorem lt_of_at {α : Type} {l : List α} {k : Nat} {x : α} (h : l[k]? = some x) : k < l.length := by
  rcases Nat.lt_or_ge k l.length with h' | h'
  · exact h'
  · rw [List.getElem?_eq_none h'] at h; cases h

/-! ## memory that stays: `Keep T w w'`: every block of cells of an element type other than T is as it was -/
def Keep (T : TypeId) (w w' : World) : Prop := ∀ (b : Nat) (cs : Array Value) (e : TypeId) (fz : Nat × Nat), e ≠ T → w.heap[b]? = some (.cells cs e fz) → w'.heap[b]? = some (.cells cs e fz)
theorem Keep.refl (T : TypeId) (w : World) : Keep T w w := fun _ _ _ _ _ h => h
theorem Keep.trans {T : TypeId} {a b c : World} (h : Keep T a b) (k : Keep T b c) : Keep T a c := fun i cs e fz hne hi => k i cs e fz hne (h i cs e fz hne hi)
theorem lt_of_heap {w : World} {b : Nat} {o : Obj} (h : w.heap[b]? = some o) : b < w.heap.size := (Array.getElem?_eq_some_iff.1 h).1
theorem Keep.of_below {T : TypeId} {w w' : World} (h : Below w.heap.size w w') : Keep T w w' := fun b _ _ _ _ hb => (h.block b (lt_of_heap hb)).trans hb
theorem Keep.of_grown {T : TypeId} {w w' : World} {g : Nat} {cs : Array Value} {fz : Nat × Nat} (hg : w.heap[g]? = some (.cells cs T fz)) (h : w.grownBy w' (some g)) : Keep T w w' := by
  intro b cs' e fz' hne hb
  refine (h.block b (lt_of_heap hb) ?_).trans hb
  intro hbg
  injection hbg with hbg
  subst hbg
  rw [hg] at hb
  injection hb with hb
  injection hb with _ he _
  exact hne he.symm

/-! ## a slice of one-cell elements that reads as a list -/
/-- The slice value `.slice A n c` (any c) holds the elements l, each one cell `enc x`, in a block of element type e. -/
def R1 {α : Type} (enc : α → Value) (e : TypeId) (w : World) (A : Option Addr) (n : Nat) (l : List α) : Prop :=
  l.length = n ∧ n ≤ 140737488355328 ∧ (0 < n → ∃ b off cs fz, A = some ⟨b, off, none⟩ ∧ w.heap[b]? = some (.cells cs e fz) ∧ ∀ (j : Nat) x, l[j]? = some x → cs[off + j]? = some (enc x))
section
variable {α : Type} {enc : α → Value} {e : TypeId} {w w' : World} {A : Option Addr} {n : Nat} {l : List α}
theorem R1.nil_ (enc : α → Value) (e : TypeId) (w : World) (A : Option Addr) : R1 enc e w A 0 [] := ⟨rfl, by omega, fun h => absurd h (by omega)⟩
theorem R1.len (h : R1 enc e w A n l) : l.length = n := h.1
theorem R1.bd (h : R1 enc e w A n l) : n ≤ 140737488355328 := h.2.1
theorem R1.keep {T : TypeId} (h : R1 enc e w A n l) (he : e ≠ T) (hk : Keep T w w') : R1 enc e w' A n l :=
  ⟨h.1, h.2.1, fun hn => by
    obtain ⟨b, off, cs, fz, ha, hb, hc⟩ := h.2.2 hn
    exact ⟨b, off, cs, fz, ha, hk b cs e fz he hb, hc⟩⟩
theorem R1.below (h : R1 enc e w A n l) (hb : Below w.heap.size w w') : R1 enc e w' A n l := h.keep (T := e + 1) (Nat.ne_of_lt (Nat.lt_succ_self e)) (Keep.of_below hb)
theorem R1.alloc (h : R1 enc e w A n l) (o : Obj) : R1 enc e (w.alloc o) A n l := h.below ((Below.refl _ _).alloc (Nat.le_refl _) o)
theorem R1.drew (h : R1 enc e w A n l) : R1 enc e w.drew A n l := h
theorem R1.drewN (h : R1 enc e w A n l) (k : Nat) : R1 enc e (w.drewN k) A n l := h
theorem R1.at_ (h : R1 enc e w A n l) {k : Nat} (hk : k < n) : ∃ b off x, A = some ⟨b, off, none⟩ ∧ b < w.heap.size ∧ l[k]? = some x ∧ w.cell? ⟨b, off + k, none⟩ = some (enc x) := by
  obtain ⟨b, off, cs, fz, ha, hb, hc⟩ := h.2.2 (by omega)
  obtain ⟨x, hx⟩ := at_of_lt (l := l) (k := k) (by rw [h.1]; exact hk)
  exact ⟨b, off, x, ha, lt_of_heap hb, hx, by rw [cell_of_row w b _ cs e fz hb]; exact hc k x hx⟩
theorem R1.of_own {base c : Nat} (h : w.ownsRow base e 1 (.slice A n c) n (l.map enc)) (hn : n ≤ 140737488355328) : R1 enc e w A n l := by
  have hl : l.length = n := by have := h.1; rw [List.length_map] at this; omega
  refine ⟨hl, hn, fun hp => ?_⟩
  rcases h.2 with ⟨_, h0⟩ | ⟨g, cap, cur, hv, _, hg, _, _, _, ht⟩
  · omega
  · injection hv with hA
    subst hA
    refine ⟨g, 0, cur, (0, 0), rfl, hg, fun j x hx => ?_⟩
    have h2 : (l.map enc)[j]? = some (enc x) := by rw [List.getElem?_map, hx]; rfl
    rw [← ht, List.getElem?_take] at h2
    split at h2
    · simpa using h2
    · cases h2
theorem R1.of_lit {g : Nat} {vs : Array Value} (hg : w.heap[g]? = some (.cells vs e (0, 0))) (hv : vs = (l.map enc).toArray) (hn : l.length = n) (hb : n ≤ 140737488355328) : R1 enc e w (some ⟨g, 0, none⟩) n l := by
  subst hv
  refine ⟨hn, hb, fun _ => ⟨g, 0, _, (0, 0), rfl, hg, fun j x hx => ?_⟩⟩
  simp [hx]
/-- a literal slice, just made -/
theorem R1.lit (w : World) (vs : Array Value) (l : List α) (hv : vs = (l.map enc).toArray) (hb : l.length ≤ 140737488355328) : R1 enc e (w.alloc (.cells vs e)) (some ⟨w.heap.size, 0, none⟩) l.length l :=
  R1.of_lit (heap_alloc_new w _) hv rfl hb
end
theorem R1.litAt {α : Type} {enc : α → Value} {e : TypeId} (w : World) (z : Nat) (vs : Array Value) (l : List α) (hz : w.heap.size = z) (hv : vs = (l.map enc).toArray) (hb : l.length ≤ 140737488355328) : R1 enc e (w.alloc (.cells vs e)) (some ⟨z, 0, none⟩) l.length l := by
  subst hz
  exact R1.lit w vs l hv hb
abbrev RI (e : TypeId) (w : World) (A : Option Addr) (n : Nat) (l : List Int) : Prop := R1 (Value.int .i64) e w A n l
abbrev RS (e : TypeId) (w : World) (A : Option Addr) (n : Nat) (l : List ByteArray) : Prop := R1 Value.string e w A n l
def ints (l : List Int) : List Value := l.map (Value.int .i64)
theorem ints_app (a b : List Int) : ints (a ++ b) = ints a ++ ints b := List.map_append
theorem ints_len (l : List Int) : (ints l).length = l.length := List.length_map _
/-! ## one block turns -/
section
variable {a w w' : World} {g : Nat}
theorem grown_refl (w : World) (row : Option Nat) : w.grownBy w row := ⟨rfl, rfl, rfl, Nat.le_refl _, fun _ _ _ => rfl⟩
theorem grown_trans (h : a.grownBy w (some g)) (k : w.grownBy w' (some g)) : a.grownBy w' (some g) :=
  ⟨k.os.trans h.os, k.tape.trans h.tape, k.output.trans h.output, Nat.le_trans h.size k.size, fun i hi hne => (k.block i (Nat.lt_of_lt_of_le hi h.size) hne).trans (h.block i hi hne)⟩
theorem grown_drewN {row : Option Nat} (h : a.grownBy w row) (n : Nat) : a.grownBy (w.drewN n) row := ⟨h.os, h.tape, h.output, h.size, h.block⟩
theorem grown_drew {row : Option Nat} (h : a.grownBy w row) : a.grownBy w.drew row := ⟨h.os, h.tape, h.output, h.size, h.block⟩
theorem grown_alloc {row : Option Nat} (h : a.grownBy w row) (o : Obj) : a.grownBy (w.alloc o) row :=
  ⟨h.os, h.tape, h.output, Nat.le_trans h.size (by simp), fun i hi hne => (Below.heap_alloc w o i (Nat.lt_of_lt_of_le hi h.size)).trans (h.block i hi hne)⟩
theorem grown_setCell (h : a.grownBy w (some g)) {p : Addr} (hp : p.block = g ∨ a.heap.size ≤ p.block) (u : Value) : a.grownBy (w.setCell p u) (some g) :=
  ⟨h.os, h.tape, h.output, by simpa [World.setCell] using h.size, fun i hi hne => (Below.heap_setCell w p u i (by
    rintro rfl
    rcases hp with hp | hp
    · exact hne (by rw [hp])
    · omega)).trans (h.block i hi hne)⟩
theorem grown_setAt (h : a.grownBy w (some g)) {b o : Nat} (hp : a.heap.size ≤ b) (u : Value) : a.grownBy (w.setCell ⟨b, o, none⟩ u) (some g) := grown_setCell h (.inr hp) u
theorem grown_of_below {row : Option Nat} (h : Below a.heap.size a w) : a.grownBy w row := ⟨h.os, h.tape, h.output, h.size, fun i hi _ => h.block i hi⟩
theorem grown_below {B : Nat} (h : a.grownBy w (some g)) (hg : B ≤ g) (hB : B ≤ a.heap.size) : Below B a w := ⟨h.os, h.tape, h.output, h.size, fun i hi => h.block i (by omega) (fun e => by injection e with e; omega)⟩
/-- a step that writes a row of the call's own (from a's end on) is no change of a -/
theorem grown_own {row : Option Nat} (h : a.grownBy w (some g)) (k : w.grownBy w' row) (hr : ∀ i, row = some i → a.heap.size ≤ i) : a.grownBy w' (some g) :=
  ⟨k.os.trans h.os, k.tape.trans h.tape, k.output.trans h.output, Nat.le_trans h.size k.size, fun i hi hne =>
    (k.block i (Nat.lt_of_lt_of_le hi h.size) (fun e => by have := hr i e.symm; omega)).trans (h.block i hi hne)⟩
end
/-- a block that one step leaves alone -/
theorem blk_grown {w w' : World} {b : Nat} {o : Obj} {row : Option Nat} (h : w.heap[b]? = some o) (hg : w.grownBy w' row) (hne : some b ≠ row) : w'.heap[b]? = some o := (hg.block b (lt_of_heap h) hne).trans h
theorem blk_below {w w' : World} {b : Nat} {o : Obj} (h : w.heap[b]? = some o) (hb : Below w.heap.size w w') : w'.heap[b]? = some o := (hb.block b (lt_of_heap h)).trans h
theorem blk_alloc {w : World} {b : Nat} {o : Obj} (h : w.heap[b]? = some o) (o' : Obj) : (w.alloc o').heap[b]? = some o := (Below.heap_alloc w o' b (lt_of_heap h)).trans h
theorem blk_cell {w : World} {b : Nat} {cs : Array Value} {e : TypeId} (h : w.heap[b]? = some (.cells cs e (0, 0))) (i : Nat) {v : Value} (hv : cs[i]? = some v) : w.cell? ⟨b, i, none⟩ = some v := by rw [cell_of_row w b i cs e (0, 0) h]; exact hv
theorem blk_free {w : World} {b : Nat} {cs : Array Value} {e : TypeId} (h : w.heap[b]? = some (.cells cs e (0, 0))) (i : Nat) : w.frozen? ⟨b, i, none⟩ = false := frozen_of_row w b i cs e h
/-- what a walk wants of a block that is known whole -/
theorem blk_facts {w : World} {b : Nat} {cs : Array Value} {e : TypeId} (h : w.heap[b]? = some (.cells cs e (0, 0))) : (∀ i, w.cell? ⟨b, i, none⟩ = cs[i]?) ∧ (∀ i, w.frozen? ⟨b, i, none⟩ = false) :=
  ⟨fun i => cell_of_row w b i cs e (0, 0) h, fun i => frozen_of_row w b i cs e h⟩
theorem blk_other {w : World} {b : Nat} {o : Obj} (h : w.heap[b]? = some o) {p : Addr} (hne : b ≠ p.block) (v : Value) : (w.setCell p v).heap[b]? = some o := (Below.heap_setCell w p v b hne).trans h
theorem blk_set {w : World} {b : Nat} {cs : Array Value} {e : TypeId} (h : w.heap[b]? = some (.cells cs e (0, 0))) (i : Nat) (v : Value) : (w.setCell ⟨b, i, none⟩ v).heap[b]? = some (.cells (cs.setIfInBounds i v) e (0, 0)) := by
  simp [World.setCell, Array.getElem?_modify, h]
theorem below_box {w w1 : World} {o : Obj} (h : Below (w.alloc o).heap.size (w.alloc o) w1) : Below w.heap.size w w1 :=
  ((Below.refl _ _).alloc (Nat.le_refl _) o).trans (h.mono (by simp))
theorem below_new (w : World) (o : Obj) : Below w.heap.size w (w.alloc o) := (Below.refl _ _).alloc (Nat.le_refl _) o
theorem below_drewN {B : Nat} {a w : World} (h : Below B a w) (n : Nat) : Below B a (w.drewN n) := ⟨h.os, h.tape, h.output, h.size, h.block⟩
theorem below_next {w0 w w1 : World} (h0 : Below w0.heap.size w0 w) (h : Below w.heap.size w w1) : Below w0.heap.size w0 w1 := h0.trans (h.mono h0.size)
theorem below_nextBox {w0 w w1 : World} {o : Obj} (h0 : Below w0.heap.size w0 w) (h : Below (w.alloc o).heap.size (w.alloc o) w1) : Below w0.heap.size w0 w1 := below_next h0 (below_box h)
theorem bcell {W w1 : World} (hb : Below W.heap.size W w1) : (∀ b o, b < W.heap.size → w1.cell? ⟨b, o, none⟩ = W.cell? ⟨b, o, none⟩) ∧ (∀ b o, b < W.heap.size → w1.frozen? ⟨b, o, none⟩ = W.frozen? ⟨b, o, none⟩) :=
  ⟨fun b o h => hb.cell (p := ⟨b, o, none⟩) h, fun b o h => hb.frozen (p := ⟨b, o, none⟩) h⟩
end Go.Proofs.YtnkhdofcmanipaaGreatDoor

/- append of one element onto a row of the call's own; what such a row keeps. Over any program. -/
namespace Go.Proofs.YtnkhdofcmanipaaGreatDoor
open Go.RowKit
set_option linter.unusedVariables false

section
variable {P : Program} {w : World}

/-- `v = append(v, x)`: x lies in a block just made. -/
theorem wpList_app {ops : Array Oper} {rest : List Oper} {o : Oper} {a : Act} {Q : Exit → Act → World → Prop} (hgd : o.guard = none) (s x : Operand) (t : TypeId)
    (ho : o.op = .call { callee := .builtin .append, args := #[s, x], argTypes := #[t, t] })
    {e : TypeId} {z : Value} {size bytes : Nat} (ht : P.underlying t = some (.slice e)) (hinfo : (P.info? e).map (fun i => (i.zero, i.size, i.bytes)) = some (some z, size, bytes))
    (hzs : z.cells.size = size) (hsz : 0 < size) (hby : bytes ≤ 1024)
    {base : Nat} {v : Value} {n : Nat} {xs : List Value} (hown : w.ownsRow base e size v n xs) (hs : a.eval s = v)
    {cs : Array Value} {b c : Nat} (hx : a.eval x = .slice (some ⟨b, 0, none⟩) 1 c) (hb : w.heap.size = b)
    (hcs : cs.size = size) (h1 : ∀ u ∈ cs.toList, u.oneCell' = true) (hn : n ≤ 1000000) (hbase : base ≤ w.heap.size)
    (h : ∀ v' w', w'.ownsRow base e size v' (n + 1) (xs ++ cs.toList) → w.grownBy w' v.ownBlock → wpList P ops Q rest (a.put o.dst v') w') :
    wpList P ops Q (o :: rest) a (w.alloc (.cells cs e)) := by
  subst hb
  obtain ⟨i, hi, hz0, hz1, hz2⟩ := info_parts hinfo
  have hm : (n + 1) * bytes ≤ 1000001 * 1024 := Nat.mul_le_mul (by omega) hby
  refine wpList_append_own (w.alloc (.cells cs e)) hgd s x t ho base e i z size bytes ht hi hz0 hz1 hz2 hzs hsz v n xs hs (hown.alloc _) ⟨w.heap.size, 0, none⟩ 1 c cs.toList hx ?_ ?_ h1 ?_ ?_ ?_ ?_
  · simp [hcs]
  · intro j u hj
    have hadd : (⟨w.heap.size, 0, none⟩ : Addr).add j = ⟨w.heap.size, j, none⟩ := by unfold Addr.add; split <;> simp_all
    rw [hadd]
    exact blk_cell (heap_alloc_new w _) j (by simpa using hj)
  · unfold maxLen; omega
  · omega
  · simp; omega
  · intro v' w' hown' hg _
    refine h v' w' hown' ?_
    have hsize : (w.alloc (.cells cs e)).heap.size = w.heap.size + 1 := by simp
    exact ⟨hg.os, hg.tape, hg.output, by have := hg.size; omega, fun k hk hne => (hg.block k (by omega) hne).trans (Below.heap_alloc w _ k hk)⟩
end

section
variable {w w' : World} {base : Nat} {e : TypeId} {size : Nat} {v : Value} {n : Nat} {xs : List Value}
theorem own_ne (h : w.ownsRow base e size v n xs) {g : Nat} (hg : g < base) : v.ownBlock = none ∨ v.ownBlock ≠ some g := by
  cases hv : v.ownBlock with
  | none => exact .inl rfl
  | some b => exact .inr (by have := (h.lt b hv).1; intro he; injection he with he; omega)
theorem own_keep (h : w.ownsRow base e size v n xs) {g : Nat} (hg : g < base) (hgr : w.grownBy w' (some g)) : w'.ownsRow base e size v n xs := h.kept hgr (own_ne h hg)
theorem own_below (h : w.ownsRow base e size v n xs) (hb : Below w.heap.size w w') : w'.ownsRow base e size v n xs :=
  h.kept (row := none) (grown_of_below hb) (by cases hv : v.ownBlock <;> simp)
theorem own_row_lt (h : w.ownsRow base e size v n xs) : ∀ i, v.ownBlock = some i → base ≤ i := fun i hi => (h.lt i hi).1
/-- a slice that is owned: its value's shape -/
theorem own_shape (h : w.ownsRow base e size v n xs) : ∃ A c, v = .slice A n c := by
  rcases h.2 with ⟨rfl, rfl⟩ | ⟨g, cap, cur, rfl, _⟩
  · exact ⟨none, 0, rfl⟩
  · exact ⟨some ⟨g, 0, none⟩, cap, rfl⟩
theorem own_mono {base' : Nat} (h : w.ownsRow base e size v n xs) (hb : base' ≤ base) : w.ownsRow base' e size v n xs := by
  refine ⟨h.1, ?_⟩
  rcases h.2 with hn | ⟨g, cap, cur, hv, hg, rest⟩
  · exact .inl hn
  · exact .inr ⟨g, cap, cur, hv, by omega, rest⟩
/-- a step that writes one of the call's own rows changes nothing below -/
theorem below_own {a : World} {B : Nat} (hb : Below B a w) (h : w.ownsRow base e size v n xs) (hg : w.grownBy w' v.ownBlock) (hB : B ≤ w.heap.size) (hbase : B ≤ base) : Below B a w' :=
  hb.grown hg hB (fun k hk => by have := own_row_lt h k hk; omega)
end
end Go.Proofs.YtnkhdofcmanipaaGreatDoor

/- Races as data. -/
namespace Go.Proofs.YtnkhdofcmanipaaGreatDoor
open Go.RowKit
set_option linter.unusedVariables false

structure Race where
  key : ByteArray
  metres : Int
  stroke : Int
  course : Int
  legs : Int
  sex : Int
  young : Int
  old : Int
def Race.cells (r : Race) : Array Value := #[.string r.key, .int .i64 r.metres, .int .i64 r.stroke, .int .i64 r.course, .int .i64 r.legs, .int .i64 r.sex, .int .i64 r.young, .int .i64 r.old]
abbrev Race.val (r : Race) : Value := .agg r.cells

end Go.Proofs.YtnkhdofcmanipaaGreatDoor

/- Slices of structs (a fixed number of cells an element): what they read as. Plain theorems over any program. -/
namespace Go.Proofs.YtnkhdofcmanipaaGreatDoor
open Go.RowKit
set_option linter.unusedVariables false

/-- The slice value `.slice A n c` (any c) holds the elements l, each `size` cells `enc x`, in a block of element type e. -/
def RN {α : Type} (size : Nat) (enc : α → List Value) (e : TypeId) (w : World) (A : Option Addr) (n : Nat) (l : List α) : Prop :=
  l.length = n ∧ n ≤ 140737488355328 ∧ (0 < n → ∃ b off cs fz, A = some ⟨b, off, none⟩ ∧ w.heap[b]? = some (.cells cs e fz) ∧ ∀ (j : Nat) x, l[j]? = some x → ∀ (i : Nat) v, (enc x)[i]? = some v → cs[off + j * size + i]? = some v)
theorem flat_at {α : Type} {enc : α → List Value} {size : Nat} (hs : ∀ x, (enc x).length = size) : ∀ (l : List α) (j : Nat) (x : α) (i : Nat) (v : Value), l[j]? = some x → (enc x)[i]? = some v → (l.flatMap enc)[j * size + i]? = some v
  | [], _, _, _, _, h, _ => by simp at h
  | y :: l, 0, x, i, v, h, hv => by
    obtain rfl : y = x := by simpa using h
    have hi : i < (enc y).length := (List.getElem?_eq_some_iff.mp hv).1
    rw [List.flatMap_cons, Nat.zero_mul, Nat.zero_add, List.getElem?_append_left hi, hv]
  | y :: l, j + 1, x, i, v, h, hv => by
    have h' : l[j]? = some x := by simpa using h
    rw [List.flatMap_cons, List.getElem?_append_right (by rw [hs, Nat.succ_mul]; omega), hs, show (j + 1) * size + i - size = j * size + i from by rw [Nat.succ_mul]; omega]
    exact flat_at hs l j x i v h' hv
theorem flat_len {α : Type} {enc : α → List Value} {size : Nat} (hs : ∀ x, (enc x).length = size) (l : List α) : (l.flatMap enc).length = l.length * size := by
  induction l with
  | nil => simp
  | cons x l ih => rw [List.flatMap_cons, List.length_append, ih, hs, List.length_cons, Nat.succ_mul]; omega
section
variable {α : Type} {size : Nat} {enc : α → List Value} {e : TypeId} {w w' : World} {A : Option Addr} {n : Nat} {l : List α}
theorem RN.nil_ (size : Nat) (enc : α → List Value) (e : TypeId) (w : World) (A : Option Addr) : RN size enc e w A 0 [] := ⟨rfl, by omega, fun h => absurd h (by omega)⟩
theorem RN.len (h : RN size enc e w A n l) : l.length = n := h.1
theorem RN.bd (h : RN size enc e w A n l) : n ≤ 140737488355328 := h.2.1
theorem RN.keep {T : TypeId} (h : RN size enc e w A n l) (he : e ≠ T) (hk : Keep T w w') : RN size enc e w' A n l :=
  ⟨h.1, h.2.1, fun hn => by
    obtain ⟨b, off, cs, fz, ha, hb, hc⟩ := h.2.2 hn
    exact ⟨b, off, cs, fz, ha, hk b cs e fz he hb, hc⟩⟩
theorem RN.below (h : RN size enc e w A n l) (hb : Below w.heap.size w w') : RN size enc e w' A n l := h.keep (T := e + 1) (Nat.ne_of_lt (Nat.lt_succ_self e)) (Keep.of_below hb)
theorem RN.alloc (h : RN size enc e w A n l) (o : Obj) : RN size enc e (w.alloc o) A n l := h.below ((Below.refl _ _).alloc (Nat.le_refl _) o)
theorem RN.drew (h : RN size enc e w A n l) : RN size enc e w.drew A n l := h
theorem RN.drewN (h : RN size enc e w A n l) (k : Nat) : RN size enc e (w.drewN k) A n l := h
theorem RN.at_ (h : RN size enc e w A n l) {k : Nat} (hk : k < n) : ∃ b off x, A = some ⟨b, off, none⟩ ∧ b < w.heap.size ∧ l[k]? = some x ∧ ∀ (i : Nat) v, (enc x)[i]? = some v → w.cell? ⟨b, off + k * size + i, none⟩ = some v := by
  obtain ⟨b, off, cs, fz, ha, hb, hc⟩ := h.2.2 (by omega)
  obtain ⟨x, hx⟩ := at_of_lt (l := l) (k := k) (by rw [h.1]; exact hk)
  exact ⟨b, off, x, ha, lt_of_heap hb, hx, fun i v hv => by rw [cell_of_row w b _ cs e fz hb]; exact hc k x hx i v hv⟩
theorem RN.of_own {base c : Nat} (hs : ∀ x, (enc x).length = size) (h : w.ownsRow base e size (.slice A n c) n (l.flatMap enc)) (hl : l.length = n) (hn : n ≤ 140737488355328) : RN size enc e w A n l := by
  refine ⟨hl, hn, fun hp => ?_⟩
  rcases h.2 with ⟨_, h0⟩ | ⟨g, cap, cur, hv, _, hg, _, _, _, ht⟩
  · omega
  · injection hv with hA
    subst hA
    refine ⟨g, 0, cur, (0, 0), rfl, hg, fun j x hx i v hv => ?_⟩
    have h2 := flat_at hs l j x i v hx hv
    rw [← ht, List.getElem?_take] at h2
    split at h2
    · simpa using h2
    · cases h2
end
/-- appending one more -/
theorem flat_snoc {α : Type} (enc : α → List Value) (l : List α) (x : α) : l.flatMap enc ++ enc x = (l ++ [x]).flatMap enc := by simp
end Go.Proofs.YtnkhdofcmanipaaGreatDoor
