import Derived.Test.YtklggnglaeagpaaGreatDoorRegAp
import Derived.Deep.QuietTactic
import Derived.BigQuiet
/- Rows of slices of strings, each an own row. Out of DrawP (never in one closure with it). -/
namespace Go.Proofs.YtklggnglaeagpaaGreatDoor
open Go.RowKit
set_option linter.unusedVariables false

theorem own_tr {w w' : World} {base size n : Nat} {e : TypeId} {v : Value} {xs : List Value} (h : w.ownsRow base e size v n xs) (he : ∀ q, v.ownBlock = some q → w'.heap[q]? = w.heap[q]?) : w'.ownsRow base e size v n xs := by
  refine ⟨h.1, ?_⟩
  rcases h.2 with h0 | ⟨g, cap, cur, rfl, h1, h2, h3⟩
  · exact .inl h0
  · exact .inr ⟨g, cap, cur, rfl, h1, (he g rfl).trans h2, h3⟩
/-- the block of one's own row holds cells of its type -/
theorem own_neH {w : World} {base size n b : Nat} {e t : TypeId} {v : Value} {xs : List Value} {cs : Array Value} {fz : Nat × Nat} (h : w.ownsRow base e size v n xs) (hb : w.heap[b]? = some (.cells cs t fz)) (hne : e ≠ t) : v.ownBlock ≠ some b := by
  intro hv
  rcases h.2 with ⟨rfl, _⟩ | ⟨g, cap, cur, rfl, h1, h2, h3⟩
  · simp [Value.ownBlock] at hv
  · simp only [Value.ownBlock, Option.some.injEq] at hv
    subst hv
    rw [hb] at h2
    injection h2 with h2
    injection h2 with _ h2
    exact hne h2.symm
/-- a slice of names, its row one's own -/
structure Hb where
  A : Option Addr
  c : Nat
  l : List ByteArray
def hbE (x : Hb) : Value := .slice x.A x.l.length x.c
def strsH (l : List ByteArray) : List Value := l.map Value.string
/-- in block b lie the slices -/
structure Hts (base b : Nat) (L : List Hb) (w : World) : Prop where
  row : w.heap[b]? = some (.cells (L.map hbE).toArray 97 (0, 0))
  own : ∀ (i : Nat) (x : Hb), L[i]? = some x → w.ownsRow base 9 1 (hbE x) x.l.length (strsH x.l)
  dis : ∀ (i j : Nat) (x y : Hb), i ≠ j → L[i]? = some x → L[j]? = some y → Dis (hbE x) (hbE y)
section
variable {base b i g cap : Nat} {L : List Hb} {w w' w1 : World} {x : Hb} {s : ByteArray}
theorem Hts.below (h : Hts base b L w) (B : Below w.heap.size w w') : Hts base b L w' := ⟨blk_below h.row B, fun i x hx => own_below (h.own i x hx) B, h.dis⟩
theorem Hts.start (n : Nat) (h : w.heap[b]? = some (.cells (Array.replicate n (.slice none 0 0)) 97 (0, 0))) : Hts base b (List.replicate n ⟨none, 0, []⟩) w := by
  refine ⟨?_, fun i x hx => ?_, fun i j x y _ hx _ q hq => ?_⟩
  · rw [h]; congr 2; simp [hbE]
  · have := List.mem_of_getElem? hx
    obtain ⟨_, rfl⟩ := List.mem_replicate.1 this
    exact World.ownsRow_nil _ _ _ _
  · have := List.mem_of_getElem? hx
    obtain ⟨_, rfl⟩ := List.mem_replicate.1 this
    simp [hbE, Value.ownBlock] at hq
theorem Hts.cell (h : Hts base b L w) (hx : L[i]? = some x) : w.cell? ⟨b, i, none⟩ = some (hbE x) := blk_cell h.row i (by simp [hx])
theorem Hts.frozen (h : Hts base b L w) (i : Nat) : w.frozen? ⟨b, i, none⟩ = false := (blk_facts h.row).2 i
theorem Hts.len (h : Hts base b L w) (hx : L[i]? = some x) : i < L.length := (List.getElem?_eq_some_iff.1 hx).1
theorem strs_lenH (l : List ByteArray) : (strsH l).length = l.length := by simp [strsH]
/-- a name is put at the end of one of them -/
theorem Hts.app (h : Hts base b L w) (hx : L[i]? = some x) (ho : w1.ownsRow base 9 1 (.slice (some ⟨g, 0, none⟩) (x.l.length + 1) cap) (x.l.length + 1) (strsH x.l ++ [.string s])) (hg : w.grownBy w1 (hbE x).ownBlock) (hat : (hbE x).ownBlock = some g ∨ w.heap.size = g) :
    Hts base b (L.set i ⟨some ⟨g, 0, none⟩, cap, x.l ++ [s]⟩) (w1.setCell ⟨b, i, none⟩ (.slice (some ⟨g, 0, none⟩) (x.l.length + 1) cap)) := by
  have hil := h.len hx
  have hb1 : w1.heap[b]? = some (.cells (L.map hbE).toArray 97 (0, 0)) := blk_grown h.row hg (fun e => own_neH (h.own i x hx) h.row (by decide) e.symm)
  have hgb : g ≠ b := fun e => own_neH ho (b := g) (e ▸ hb1) (by decide) rfl
  have hr := blk_set hb1 i (.slice (some ⟨g, 0, none⟩) (x.l.length + 1) cap)
  have hset : ∀ q, q ≠ b → (w1.setCell ⟨b, i, none⟩ (.slice (some ⟨g, 0, none⟩) (x.l.length + 1) cap)).heap[q]? = w1.heap[q]? := fun q hq => Below.heap_setCell w1 _ _ q hq
  have hnew : (hbE ⟨some ⟨g, 0, none⟩, cap, x.l ++ [s]⟩) = .slice (some ⟨g, 0, none⟩) (x.l.length + 1) cap := by simp [hbE]
  -- another one's block is not the one that turned
  have hoth : ∀ j y, j ≠ i → L[j]? = some y → ∀ q, (hbE y).ownBlock = some q → q < w.heap.size ∧ q ≠ b ∧ (hbE x).ownBlock ≠ some q ∧ q ≠ g := by
    intro j y hj hy q hq
    have hlt := ((h.own j y hy).lt q hq).2
    refine ⟨hlt, fun e => own_neH (h.own j y hy) h.row (by decide) (e ▸ hq), fun e => h.dis i j x y (fun e2 => hj e2.symm) hx hy q e hq, fun e => ?_⟩
    rcases hat with h1 | h1
    · exact h.dis i j x y (fun e2 => hj e2.symm) hx hy q (e ▸ h1) hq
    · omega
  refine ⟨?_, ?_, ?_⟩
  · rw [hr]
    congr 2
    rw [List.setIfInBounds_toArray, List.map_set, hnew]
  · intro j y hy
    by_cases hj : j = i
    · subst hj
      rw [List.getElem?_set_self hil] at hy
      obtain rfl := Option.some.inj hy
      rw [hnew]
      refine own_tr (w := w1) ?_ (fun q hq => hset q ?_)
      · simpa [strsH] using ho
      · simp only [Value.ownBlock, Option.some.injEq] at hq
        rw [← hq]; exact hgb
    · rw [List.getElem?_set_ne (fun e => hj e.symm)] at hy
      refine own_tr (h.own j y hy) (fun q hq => ?_)
      obtain ⟨a1, a2, a3, a4⟩ := hoth j y hj hy q hq
      rw [hset q a2]
      exact hg.block q a1 (fun e => a3 e.symm)
  · intro j k y z hjk hy hz q hq1 hq2
    by_cases hj : j = i
    · subst hj
      rw [List.getElem?_set_self hil] at hy
      obtain rfl := Option.some.inj hy
      rw [List.getElem?_set_ne hjk] at hz
      rw [hnew] at hq1
      simp only [Value.ownBlock, Option.some.injEq] at hq1
      exact (hoth k z (fun e => hjk e.symm) hz q hq2).2.2.2 hq1.symm
    · rw [List.getElem?_set_ne (fun e => hj e.symm)] at hy
      by_cases hk : k = i
      · subst hk
        rw [List.getElem?_set_self hil] at hz
        obtain rfl := Option.some.inj hz
        rw [hnew] at hq2
        simp only [Value.ownBlock, Option.some.injEq] at hq2
        exact (hoth j y hj hy q hq1).2.2.2 hq2.symm
      · rw [List.getElem?_set_ne (fun e => hk e.symm)] at hz
        exact h.dis j k y z hjk hy hz q hq1 hq2
theorem Hts.app_below {w0 : World} (h : Hts base b L w) (hx : L[i]? = some x) (hg : w.grownBy w1 (hbE x).ownBlock) (B : Below w0.heap.size w0 w) (h0 : w0.heap.size ≤ base) (hb : w0.heap.size ≤ b) (v : Value) : Below w0.heap.size w0 (w1.setCell ⟨b, i, none⟩ v) :=
  Below.setCell (below_own B (h.own i x hx) hg B.size h0) hb v
end
end Go.Proofs.YtklggnglaeagpaaGreatDoor


/- Rows of names that grow: what stays beside them; a row of names from which the first is taken. -/
namespace Go.Proofs.YtklggnglaeagpaaGreatDoor
open Go.RowKit
set_option linter.unusedVariables false

/-- all but names and slices of names is as it was -/
def KeepS (a v : World) : Prop := ∀ (b : Nat) (cs : Array Value) (e : TypeId) (fz : Nat × Nat), e ≠ 9 → e ≠ 97 → a.heap[b]? = some (.cells cs e fz) → v.heap[b]? = some (.cells cs e fz)
theorem KeepS.of_below {a v : World} (B : Below a.heap.size a v) : KeepS a v := fun b cs e fz _ _ h => (B.block b (lt_of_heap h)).trans h
/-- rows of names under way, and what stays -/
structure Dr (w : World) (b : Nat) (X : World → Prop) (L : List Hb) (wr : World) : Prop where
  hts : Hts w.heap.size b L wr
  x : X wr
  kp : ∀ a v, X a → KeepS a v → X v
  bel : Below w.heap.size w wr
  zb : w.heap.size ≤ b
section
variable {w wr w1 w' : World} {b i g cap : Nat} {X : World → Prop} {L : List Hb} {x : Hb} {s : ByteArray}
theorem Dr.below (h : Dr w b X L wr) (B : Below wr.heap.size wr w') : Dr w b X L w' := ⟨h.hts.below B, h.kp _ _ h.x (KeepS.of_below B), h.kp, below_next h.bel B, h.zb⟩
theorem Dr.app (h : Dr w b X L wr) (hx : L[i]? = some x) (ho : w1.ownsRow w.heap.size 9 1 (.slice (some ⟨g, 0, none⟩) (x.l.length + 1) cap) (x.l.length + 1) (strsH x.l ++ [.string s])) (hg : wr.grownBy w1 (hbE x).ownBlock) (hat : (hbE x).ownBlock = some g ∨ wr.heap.size = g) :
    Dr w b X (L.set i ⟨some ⟨g, 0, none⟩, cap, x.l ++ [s]⟩) (w1.setCell ⟨b, i, none⟩ (.slice (some ⟨g, 0, none⟩) (x.l.length + 1) cap)) := by
  refine ⟨h.hts.app hx ho hg hat, h.kp _ _ h.x ?_, h.kp, h.hts.app_below hx hg h.bel (Nat.le_refl _) h.zb _, h.zb⟩
  intro q cs e fz h1 h2 hq
  have hq1 : w1.heap[q]? = some (.cells cs e fz) := blk_grown hq hg (fun e2 => own_neH (h.hts.own i x hx) hq (fun e3 => h1 e3.symm) e2.symm)
  refine (Below.heap_setCell w1 _ _ q ?_).trans hq1
  rintro rfl
  have := h.hts.row
  rw [hq] at this
  injection this with this
  injection this with _ this
  exact h2 this
end
/-- a slice of names -/
def WhN (w : World) (u : Value) (l : List ByteArray) : Prop := ∃ A c, u = .slice A l.length c ∧ RS 9 w A l.length l ∧ l.length ≤ c
theorem WhN.below {w w' : World} {u : Value} {l : List ByteArray} (h : WhN w u l) (B : Below w.heap.size w w') : WhN w' u l := by
  obtain ⟨A, c, h1, h2, h3⟩ := h
  exact ⟨A, c, h1, h2.below B, h3⟩
theorem info_slS : (Tryz.prog.info? 97).map (fun i => (i.zero, i.size, i.bytes)) = some (some (.slice none 0 0), 1, 24) := by kernel_rfl
set_option maxRecDepth 100000 in
theorem mk_rowsH (m : Nat) (hm : m ≤ 100) (W : World) : (Instr.makeSlice 100 (.int .i64 m) (.int .i64 m)).run Tryz.prog W = .ok (.slice (some ⟨W.heap.size, 0, none⟩) m m) (W.alloc (.cells (Array.replicate m (.slice none 0 0)) 97)) := by
  obtain ⟨i, hi, hz0, hz1, hz2⟩ := info_parts info_slS
  have := run_makeSlice (P := Tryz.prog) W 100 97 i _ Tryz.underlying100 hi hz0 .i64 .i64 m m (by omega) (Int.le_refl _) (by rw [hz1]; simp; omega) (by rw [hz2]; omega) (by omega)
  rw [hz1, Nat.mul_one, show (Value.slice none 0 0).cells = #[Value.slice none 0 0] from rfl, show ((m : Int).toNat) = m by omega] at this
  rw [this]
  congr 3
  apply Array.toList_inj.1
  rw [toList_madeCells_one, Array.toList_replicate]
end Go.Proofs.YtklggnglaeagpaaGreatDoor
namespace Go.Proofs.YtklggnglaeagpaaGreatDoor
open Go.RowKit
section
variable {α : Type}
def pushH (i : Nat) (s : α) (H : List (List α)) : List (List α) := H.set i (H.getD i [] ++ [s])
end
theorem map_push {L : List Hb} {i : Nat} {y : Hb} {s : ByteArray} (hy : L[i]? = some y) (A : Option Addr) (c : Nat) : (L.set i ⟨A, c, y.l ++ [s]⟩).map Hb.l = pushH i s (L.map Hb.l) := by
  unfold pushH
  rw [List.map_set, List.getD_eq_getElem?_getD, List.getElem?_map, hy]; rfl
theorem info_strH : (Tryz.prog.info? 9).map (fun i => (i.zero, i.size, i.bytes)) = some (some (.string ⟨#[]⟩), 1, 16) := by kernel_rfl
end Go.Proofs.YtklggnglaeagpaaGreatDoor
