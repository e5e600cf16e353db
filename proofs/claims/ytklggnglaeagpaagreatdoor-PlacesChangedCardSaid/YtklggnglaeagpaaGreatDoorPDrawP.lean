import Derived.Test.YtklggnglaeagpaaGreatDoorPRegAp
import Derived.Test.YtklggnglaeagpaaGreatDoorPStT
import Derived.Test.YtklggnglaeagpaaGreatDoorPSetSp
import Derived.Test.YtklggnglaeagpaaGreatDoorPStaN
import Derived.Deep.QuietTactic
import Derived.Deep.DeepCutAuto
import Derived.Deep.CutBlock
import Derived.BigQuiet
import Derived.BigGuardPart
import Derived.BigRegion
import Derived.Test.YtklggnglaeagpaaGreatDoorPRankM
import Derived.Deep.RegionHeld3
import Derived.Test.YtklggnglaeagpaaGreatDoorPOrdC
/- Rows of names that grow: a block of slices, each of which is a row of one's own. -/
namespace Go.Proofs.YtklggnglaeagpaaGreatDoor
open Go.RowKit
set_option linter.unusedVariables false

theorem own_tr {w w' : World} {base size n : Nat} {e : TypeId} {v : Value} {xs : List Value} (h : w.ownsRow base e size v n xs) (he : ∀ q, v.ownBlock = some q → w'.heap[q]? = w.heap[q]?) : w'.ownsRow base e size v n xs := by
  refine ⟨h.1, ?_⟩
  rcases h.2 with h0 | ⟨g, cap, cur, rfl, h1, h2, h3⟩
  · exact .inl h0
  · exact .inr ⟨g, cap, cur, rfl, h1, (he g rfl).trans h2, h3⟩
/-- the block of one's own row holds cells of its type -/
theorem own_neH {w : World} {base size n b : Nat} {e t : TypeId} {v : Value} {xs : List Value} {cs : Array Value} {fz : Nat × Nat} (h : w.ownsRow base e size v n xs) (hb : w.heap[b]? = some (.cells cs t fz)) (hne : e ≠ t) : v.ownBlock ≠ some b := by
  intro hv
  rcases h.2 with ⟨rfl, _⟩ | ⟨g, cap, cur, rfl, h1, h2, h3⟩
  · simp [Value.ownBlock] at hv
  · simp only [Value.ownBlock, Option.some.injEq] at hv
    subst hv
    rw [hb] at h2
    injection h2 with h2
    injection h2 with _ h2
    exact hne h2.symm
/-- a slice of names, its row one's own -/
structure Hb where
  A : Option Addr
  c : Nat
  l : List ByteArray
def hbE (x : Hb) : Value := .slice x.A x.l.length x.c
def strsH (l : List ByteArray) : List Value := l.map Value.string
/-- in block b lie the slices -/
structure Hts (base b : Nat) (L : List Hb) (w : World) : Prop where
  row : w.heap[b]? = some (.cells (L.map hbE).toArray 97 (0, 0))
  own : ∀ (i : Nat) (x : Hb), L[i]? = some x → w.ownsRow base 9 1 (hbE x) x.l.length (strsH x.l)
  dis : ∀ (i j : Nat) (x y : Hb), i ≠ j → L[i]? = some x → L[j]? = some y → Dis (hbE x) (hbE y)
section
variable {base b i g cap : Nat} {L : List Hb} {w w' w1 : World} {x : Hb} {s : ByteArray}
theorem Hts.below (h : Hts base b L w) (B : Below w.heap.size w w') : Hts base b L w' := ⟨blk_below h.row B, fun i x hx => own_below (h.own i x hx) B, h.dis⟩
theorem Hts.start (n : Nat) (h : w.heap[b]? = some (.cells (Array.replicate n (.slice none 0 0)) 97 (0, 0))) : Hts base b (List.replicate n ⟨none, 0, []⟩) w := by
  refine ⟨?_, fun i x hx => ?_, fun i j x y _ hx _ q hq => ?_⟩
  · rw [h]; congr 2; simp [hbE]
  · have := List.mem_of_getElem? hx
    obtain ⟨_, rfl⟩ := List.mem_replicate.1 this
    exact World.ownsRow_nil _ _ _ _
  · have := List.mem_of_getElem? hx
    obtain ⟨_, rfl⟩ := List.mem_replicate.1 this
    simp [hbE, Value.ownBlock] at hq
theorem Hts.cell (h : Hts base b L w) (hx : L[i]? = some x) : w.cell? ⟨b, i, none⟩ = some (hbE x) := blk_cell h.row i (by simp [hx])
theorem Hts.frozen (h : Hts base b L w) (i : Nat) : w.frozen? ⟨b, i, none⟩ = false := (blk_facts h.row).2 i
theorem Hts.len (h : Hts base b L w) (hx : L[i]? = some x) : i < L.length := (List.getElem?_eq_some_iff.1 hx).1
/-- a name is put at the end of one of them -/
theorem Hts.app (h : Hts base b L w) (hx : L[i]? = some x) (ho : w1.ownsRow base 9 1 (.slice (some ⟨g, 0, none⟩) (x.l.length + 1) cap) (x.l.length + 1) (strsH x.l ++ [.string s])) (hg : w.grownBy w1 (hbE x).ownBlock) (hat : (hbE x).ownBlock = some g ∨ w.heap.size = g) :
    Hts base b (L.set i ⟨some ⟨g, 0, none⟩, cap, x.l ++ [s]⟩) (w1.setCell ⟨b, i, none⟩ (.slice (some ⟨g, 0, none⟩) (x.l.length + 1) cap)) := by
  have hil := h.len hx
  have hb1 : w1.heap[b]? = some (.cells (L.map hbE).toArray 97 (0, 0)) := blk_grown h.row hg (fun e => own_neH (h.own i x hx) h.row (by decide) e.symm)
  have hgb : g ≠ b := fun e => own_neH ho (b := g) (e ▸ hb1) (by decide) rfl
  have hr := blk_set hb1 i (.slice (some ⟨g, 0, none⟩) (x.l.length + 1) cap)
  have hset : ∀ q, q ≠ b → (w1.setCell ⟨b, i, none⟩ (.slice (some ⟨g, 0, none⟩) (x.l.length + 1) cap)).heap[q]? = w1.heap[q]? := fun q hq => Below.heap_setCell w1 _ _ q hq
  have hnew : (hbE ⟨some ⟨g, 0, none⟩, cap, x.l ++ [s]⟩) = .slice (some ⟨g, 0, none⟩) (x.l.length + 1) cap := by simp [hbE]
  -- another one's block is not the one that turned
  have hoth : ∀ j y, j ≠ i → L[j]? = some y → ∀ q, (hbE y).ownBlock = some q → q < w.heap.size ∧ q ≠ b ∧ (hbE x).ownBlock ≠ some q ∧ q ≠ g := by
    intro j y hj hy q hq
    have hlt := ((h.own j y hy).lt q hq).2
    refine ⟨hlt, fun e => own_neH (h.own j y hy) h.row (by decide) (e ▸ hq), fun e => h.dis i j x y (fun e2 => hj e2.symm) hx hy q e hq, fun e => ?_⟩
    rcases hat with h1 | h1
    · exact h.dis i j x y (fun e2 => hj e2.symm) hx hy q (e ▸ h1) hq
    · omega
  refine ⟨?_, ?_, ?_⟩
  · rw [hr]
    congr 2
    rw [List.setIfInBounds_toArray, List.map_set, hnew]
  · intro j y hy
    by_cases hj : j = i
    · subst hj
      rw [List.getElem?_set_self hil] at hy
      obtain rfl := Option.some.inj hy
      rw [hnew]
      refine own_tr (w := w1) ?_ (fun q hq => hset q ?_)
      · simpa [strsH] using ho
      · simp only [Value.ownBlock, Option.some.injEq] at hq
        rw [← hq]; exact hgb
    · rw [List.getElem?_set_ne (fun e => hj e.symm)] at hy
      refine own_tr (h.own j y hy) (fun q hq => ?_)
      obtain ⟨a1, a2, a3, a4⟩ := hoth j y hj hy q hq
      rw [hset q a2]
      exact hg.block q a1 (fun e => a3 e.symm)
  · intro j k y z hjk hy hz q hq1 hq2
    by_cases hj : j = i
    · subst hj
      rw [List.getElem?_set_self hil] at hy
      obtain rfl := Option.some.inj hy
      rw [List.getElem?_set_ne hjk] at hz
      rw [hnew] at hq1
      simp only [Value.ownBlock, Option.some.injEq] at hq1
      exact (hoth k z (fun e => hjk e.symm) hz q hq2).2.2.2 hq1.symm
    · rw [List.getElem?_set_ne (fun e => hj e.symm)] at hy
      by_cases hk : k = i
      · subst hk
        rw [List.getElem?_set_self hil] at hz
        obtain rfl := Option.some.inj hz
        rw [hnew] at hq2
        simp only [Value.ownBlock, Option.some.injEq] at hq2
        exact (hoth j y hj hy q hq1).2.2.2 hq2.symm
      · rw [List.getElem?_set_ne (fun e => hk e.symm)] at hz
        exact h.dis j k y z hjk hy hz q hq1 hq2
theorem Hts.app_below {w0 : World} (h : Hts base b L w) (hx : L[i]? = some x) (hg : w.grownBy w1 (hbE x).ownBlock) (B : Below w0.heap.size w0 w) (h0 : w0.heap.size ≤ base) (hb : w0.heap.size ≤ b) (v : Value) : Below w0.heap.size w0 (w1.setCell ⟨b, i, none⟩ v) :=
  Below.setCell (below_own B (h.own i x hx) hg B.size h0) hb v
theorem Hts.rs (h : Hts base b L w) (hx : L[i]? = some x) (hn : x.l.length ≤ 140737488355328) : RS 9 w x.A x.l.length x.l := R1.of_own (h.own i x hx) hn
end
end Go.Proofs.YtklggnglaeagpaaGreatDoor


/- Rows of names that grow: what stays beside them; a row of names from which the first is taken. -/
namespace Go.Proofs.YtklggnglaeagpaaGreatDoor
open Go.RowKit
set_option linter.unusedVariables false

/-- all but names and slices of names is as it was -/
def KeepS (a v : World) : Prop := ∀ (b : Nat) (cs : Array Value) (e : TypeId) (fz : Nat × Nat), e ≠ 9 → e ≠ 97 → a.heap[b]? = some (.cells cs e fz) → v.heap[b]? = some (.cells cs e fz)
theorem KeepS.of_below {a v : World} (B : Below a.heap.size a v) : KeepS a v := fun b cs e fz _ _ h => (B.block b (lt_of_heap h)).trans h
theorem R1.keepS {α : Type} {enc : α → Value} {e : TypeId} {w w' : World} {A : Option Addr} {n : Nat} {l : List α} (h : R1 enc e w A n l) (h1 : e ≠ 9) (h2 : e ≠ 97) (hk : KeepS w w') : R1 enc e w' A n l :=
  ⟨h.1, h.2.1, fun hn => by
    obtain ⟨b, off, cs, fz, ha, hb, hc⟩ := h.2.2 hn
    exact ⟨b, off, cs, fz, ha, hk b cs e fz h1 h2 hb, hc⟩⟩
theorem RN.keepS {α : Type} {size : Nat} {enc : α → List Value} {e : TypeId} {w w' : World} {A : Option Addr} {n : Nat} {l : List α} (h : RN size enc e w A n l) (h1 : e ≠ 9) (h2 : e ≠ 97) (hk : KeepS w w') : RN size enc e w' A n l :=
  ⟨h.1, h.2.1, fun hn => by
    obtain ⟨b, off, cs, fz, ha, hb, hc⟩ := h.2.2 hn
    exact ⟨b, off, cs, fz, ha, hk b cs e fz h1 h2 hb, hc⟩⟩
/-- rows of names under way, and what stays -/
structure Dr (w : World) (b : Nat) (X : World → Prop) (L : List Hb) (wr : World) : Prop where
  hts : Hts w.heap.size b L wr
  x : X wr
  kp : ∀ a v, X a → KeepS a v → X v
  bel : Below w.heap.size w wr
  zb : w.heap.size ≤ b
section
variable {w wr w1 w' : World} {b i g cap : Nat} {X : World → Prop} {L : List Hb} {x : Hb} {s : ByteArray}
theorem Dr.below (h : Dr w b X L wr) (B : Below wr.heap.size wr w') : Dr w b X L w' := ⟨h.hts.below B, h.kp _ _ h.x (KeepS.of_below B), h.kp, below_next h.bel B, h.zb⟩
theorem Dr.app (h : Dr w b X L wr) (hx : L[i]? = some x) (ho : w1.ownsRow w.heap.size 9 1 (.slice (some ⟨g, 0, none⟩) (x.l.length + 1) cap) (x.l.length + 1) (strsH x.l ++ [.string s])) (hg : wr.grownBy w1 (hbE x).ownBlock) (hat : (hbE x).ownBlock = some g ∨ wr.heap.size = g) :
    Dr w b X (L.set i ⟨some ⟨g, 0, none⟩, cap, x.l ++ [s]⟩) (w1.setCell ⟨b, i, none⟩ (.slice (some ⟨g, 0, none⟩) (x.l.length + 1) cap)) := by
  refine ⟨h.hts.app hx ho hg hat, h.kp _ _ h.x ?_, h.kp, h.hts.app_below hx hg h.bel (Nat.le_refl _) h.zb _, h.zb⟩
  intro q cs e fz h1 h2 hq
  have hq1 : w1.heap[q]? = some (.cells cs e fz) := blk_grown hq hg (fun e2 => own_neH (h.hts.own i x hx) hq (fun e3 => h1 e3.symm) e2.symm)
  refine (Below.heap_setCell w1 _ _ q ?_).trans hq1
  rintro rfl
  have := h.hts.row
  rw [hq] at this
  injection this with this
  injection this with _ this
  exact h2 this
end
/-- a slice of names -/
def WhN (w : World) (u : Value) (l : List ByteArray) : Prop := ∃ A c, u = .slice A l.length c ∧ RS 9 w A l.length l ∧ l.length ≤ c
theorem WhN.below {w w' : World} {u : Value} {l : List ByteArray} (h : WhN w u l) (B : Below w.heap.size w w') : WhN w' u l := by
  obtain ⟨A, c, h1, h2, h3⟩ := h
  exact ⟨A, c, h1, h2.below B, h3⟩
theorem add_offH (b o j : Nat) : (⟨b, o, none⟩ : Addr).add j = ⟨b, o + j, none⟩ := by unfold Addr.add; split <;> simp_all
/-- the first one, and the others -/
theorem WhN.tail {w : World} {u : Value} {s : ByteArray} {r : List ByteArray} (h : WhN w u (s :: r)) : ∃ b off c, u = .slice (some ⟨b, off, none⟩) (r.length + 1) c ∧ b < w.heap.size ∧ w.cell? ⟨b, off, none⟩ = some (.string s) ∧ ∃ u',
    (∀ W, Sem.run Tryz.prog (Instr.sliceAt 97 u (some (.int .i64 1)) none none) W = .ok u' W) ∧ (∀ W, Sem.run Tryz.prog (Instr.slice 97 u (some (.int .i64 1)) none none) W = .ok u' W) ∧ WhN w u' r := by
  obtain ⟨A, c, rfl, h2, h3⟩ := h
  obtain ⟨b, off, x, rfl, hb, hx, hc⟩ := h2.at_ (k := 0) (by simp)
  obtain rfl : s = x := by simpa using hx
  rw [Nat.add_zero] at hc
  have hT := Tryz.underlying97
  have he : Tryz.prog.elem 97 = 9 := by unfold Program.elem; rw [hT]
  have hT2 : Tryz.prog.underlying 97 = some (.slice (Tryz.prog.elem 97)) := by rw [he]; exact hT
  rw [List.length_cons] at h3
  have hr : ∀ W, Sem.run Tryz.prog (Instr.slice 97 (.slice (some ⟨b, off, none⟩) (r.length + 1) c) (some (.int .i64 1)) none none) W = .ok (.slice (if c = 1 then some ⟨b, off, none⟩ else some ⟨b, off + 1, none⟩) r.length (c - 1)) W := fun W => by
    have h9 := run_slice_l (P := Tryz.prog) W 97 (some ⟨b, off, none⟩) (r.length + 1) c hT2 .i64 ((1 : Nat) : Int) (by omega) (by omega)
    rw [he, Tryz.sizeOf9] at h9
    rw [show (1 : Int) = ((1 : Nat) : Int) from rfl, h9]
    simp [Result.andThen, sliced, add_offH]
  refine ⟨b, off, c, rfl, hb, hc, _, fun W => (run_sliceAt_slice W 97 _ _ _ _ hT2).trans (hr W), hr, _, _, rfl, ?_, by omega⟩
  refine ⟨rfl, by have := h2.2.1; rw [List.length_cons] at this; omega, fun hp => ?_⟩
  obtain ⟨b', o', cs, fz, hA, hb', hc'⟩ := h2.2.2 (by simp)
  injection hA with hA
  injection hA with e1 e2
  subst e1 e2
  refine ⟨b, off + 1, cs, fz, if_neg (by omega), hb', fun j y hy => ?_⟩
  have := hc' (j + 1) y (by simpa using hy)
  rw [show off + 1 + j = off + (j + 1) by omega]
  exact this
/-- the others, as the walk writes them -/
theorem WhN.tail2 {w : World} {b off c : Nat} {s : ByteArray} {r : List ByteArray} (h : WhN w (.slice (some ⟨b, off, none⟩) (r.length + 1) c) (s :: r)) : (c = 1 → WhN w (.slice (some ⟨b, off, none⟩) r.length 0) r) ∧ (c ≠ 1 → WhN w (.slice (some ⟨b, off + 1, none⟩) r.length (c - 1)) r) := by
  obtain ⟨A, c', h1, h2, h3⟩ := h
  injection h1 with e1 _ e3
  subst e1 e3
  rw [List.length_cons] at h3
  refine ⟨fun hc => ⟨_, _, rfl, ⟨rfl, by omega, fun hp => by omega⟩, by omega⟩, fun hc => ⟨_, _, rfl, ⟨rfl, by have := h2.2.1; rw [List.length_cons] at this; omega, fun hp => ?_⟩, by omega⟩⟩
  obtain ⟨b', o', cs, fz, hA, hb', hc'⟩ := h2.2.2 (by simp)
  injection hA with hA
  injection hA with e1 e2
  subst e1 e2
  refine ⟨b, off + 1, cs, fz, rfl, hb', fun j y hy => ?_⟩
  have := hc' (j + 1) y (by simpa using hy)
  rw [show off + 1 + j = off + (j + 1) by omega]
  exact this
theorem info_slS : (Tryz.prog.info? 97).map (fun i => (i.zero, i.size, i.bytes)) = some (some (.slice none 0 0), 1, 24) := by kernel_rfl
set_option maxRecDepth 100000 in
theorem mk_rowsH (m : Nat) (hm : m ≤ 100) (W : World) : (Instr.makeSlice 100 (.int .i64 m) (.int .i64 m)).run Tryz.prog W = .ok (.slice (some ⟨W.heap.size, 0, none⟩) m m) (W.alloc (.cells (Array.replicate m (.slice none 0 0)) 97)) := by
  obtain ⟨i, hi, hz0, hz1, hz2⟩ := info_parts info_slS
  have := run_makeSlice (P := Tryz.prog) W 100 97 i _ Tryz.underlying100 hi hz0 .i64 .i64 m m (by omega) (Int.le_refl _) (by rw [hz1]; simp; omega) (by rw [hz2]; omega) (by omega)
  rw [hz1, Nat.mul_one, show (Value.slice none 0 0).cells = #[Value.slice none 0 0] from rfl, show ((m : Int).toNat) = m by omega] at this
  rw [this]
  congr 3
  apply Array.toList_inj.1
  rw [toList_madeCells_one, Array.toList_replicate]
end Go.Proofs.YtklggnglaeagpaaGreatDoor

/- PLAIN: who swims in which heat: the circle of the last heats, then the others. -/
namespace Go.Proofs.YtklggnglaeagpaaGreatDoor
set_option linter.unusedVariables false

section
variable {α : Type}
def pushH (i : Nat) (s : α) (H : List (List α)) : List (List α) := H.set i (H.getD i [] ++ [s])
def remH (S : List Int) (H : List (List α)) (i : Nat) : Int := S.getD i 0 - ((H.getD i []).length : Int)
def roomH (S : List Int) (H : List (List α)) (lo : Nat) : Nat → Int
  | 0 => 0
  | m + 1 => roomH S H lo m + remH S H (lo + m)
def befH (lo n at_ : Nat) : Nat := if at_ = lo then n - 1 else at_ - 1
/-- the circle of the heats from lo on, below n: k steps, a heat that is full is passed by -/
def Cir (S : List Int) (lo n : Nat) : Nat → Nat → List (List α) → List α → List (List α) → List α → Prop
  | 0, _, H, who, H1, w1 => (who = [] ∨ roomH S H lo (n - lo) = 0) ∧ H1 = H ∧ w1 = who
  | k + 1, at_, H, who, H1, w1 => roomH S H lo (n - lo) ≠ 0 ∧ match who with
    | [] => False
    | s :: r => if remH S H at_ ≤ 0 then Cir S lo n k (befH lo n at_) H (s :: r) H1 w1 else Cir S lo n k (befH lo n at_) (pushH at_ s H) r H1 w1
/-- the heats below i, from the last one on -/
def fillH (S : List Int) : Nat → List (List α) → List α → List (List α)
  | 0, H, _ => H
  | i + 1, H, who => fillH S i (H.set i (H.getD i [] ++ who.take (remH S H i).toNat)) (who.drop (remH S H i).toNat)
/-- what stays so: nobody is too many, and for everybody who is left there is room -/
structure InvH (S : List Int) (H : List (List α)) (who : List α) : Prop where
  len : H.length = S.length
  fit : ∀ i, 0 ≤ remH S H i
  sum : (who.length : Int) = roomH S H 0 S.length
variable {S : List Int} {H : List (List α)} {who r : List α} {s : α} {i lo n : Nat}
theorem push_len : (pushH i s H).length = H.length := by unfold pushH; rw [List.length_set]
theorem push_at (hi : i < H.length) : (pushH i s H).getD i [] = H.getD i [] ++ [s] := by
  unfold pushH
  rw [List.getD_eq_getElem?_getD, List.getElem?_set_self hi]; rfl
theorem push_ne {j : Nat} (hj : j ≠ i) : (pushH i s H).getD j [] = H.getD j [] := by
  unfold pushH
  rw [List.getD_eq_getElem?_getD, List.getElem?_set_ne (fun e => hj e.symm), ← List.getD_eq_getElem?_getD]
theorem rem_push (hi : i < H.length) : remH S (pushH i s H) i = remH S H i - 1 := by
  unfold remH
  rw [push_at hi, List.length_append]
  simp only [List.length_cons, List.length_nil]
  omega
theorem rem_push_ne {j : Nat} (hj : j ≠ i) : remH S (pushH i s H) j = remH S H j := by unfold remH; rw [push_ne hj]
theorem room_out {m : Nat} (h : i < lo ∨ lo + m ≤ i) : roomH S (pushH i s H) lo m = roomH S H lo m := by
  induction m with
  | zero => rfl
  | succ m ih => unfold roomH; rw [ih (by omega), rem_push_ne (by omega)]
theorem room_push (hi : i < H.length) : ∀ {m : Nat}, lo ≤ i → i < lo + m → roomH S (pushH i s H) lo m = roomH S H lo m - 1
  | 0, h1, h2 => absurd h2 (by omega)
  | m + 1, h1, h2 => by
    unfold roomH
    by_cases e : i = lo + m
    · subst e
      rw [room_out (by omega), rem_push hi]; omega
    · rw [room_push hi h1 (by omega), rem_push_ne (by omega)]; omega
theorem room_nonneg (h : ∀ i, 0 ≤ remH S H i) (lo : Nat) : ∀ m, 0 ≤ roomH S H lo m
  | 0 => by unfold roomH; omega
  | m + 1 => by have := room_nonneg h lo m; have := h (lo + m); unfold roomH; omega
theorem room_split (S : List Int) (H : List (List α)) (lo a : Nat) : ∀ b, roomH S H lo (a + b) = roomH S H lo a + roomH S H (lo + a) b
  | 0 => by show roomH S H lo a = _; unfold roomH; omega
  | b + 1 => by
    show roomH S H lo (a + b) + remH S H (lo + (a + b)) = _
    rw [room_split S H lo a b, show lo + (a + b) = lo + a + b by omega]
    show _ = _ + (roomH S H (lo + a) b + remH S H (lo + a + b))
    omega
theorem room_some (h : ∀ i, 0 ≤ remH S H i) : ∀ {m : Nat}, roomH S H lo m ≠ 0 → ∃ j, lo ≤ j ∧ j < lo + m ∧ 0 < remH S H j
  | 0, hr => absurd rfl hr
  | m + 1, hr => by
    by_cases h1 : 0 < remH S H (lo + m)
    · exact ⟨lo + m, by omega, by omega, h1⟩
    · have := h (lo + m)
      obtain ⟨j, a, b, c⟩ := room_some h (m := m) (by unfold roomH at hr; omega)
      exact ⟨j, a, by omega, c⟩
theorem room_ge (h : ∀ i, 0 ≤ remH S H i) {j : Nat} : ∀ {m : Nat}, lo ≤ j → j < lo + m → remH S H j ≤ roomH S H lo m
  | 0, a, b => absurd b (by omega)
  | m + 1, a, b => by
    have h0 := room_nonneg h lo m
    have h1 := h (lo + m)
    unfold roomH
    by_cases e : j = lo + m
    · subst e; omega
    · have := room_ge h (m := m) a (by omega); omega
theorem rem_far (hl : H.length = S.length) {j : Nat} (hj : S.length ≤ j) : remH S H j = 0 := by
  unfold remH
  rw [List.getD_eq_getElem?_getD, List.getD_eq_getElem?_getD, List.getElem?_eq_none (by omega), List.getElem?_eq_none (by omega)]
  simp
theorem InvH.push (h : InvH S H (s :: r)) (hr : 0 < remH S H i) : InvH S (pushH i s H) r := by
  have hi : i < S.length := by
    rcases Nat.lt_or_ge i S.length with h1 | h1
    · exact h1
    · rw [rem_far h.len h1] at hr; omega
  refine ⟨by rw [push_len]; exact h.len, fun j => ?_, ?_⟩
  · by_cases e : j = i
    · subst e; rw [rem_push (by rw [h.len]; exact hi)]; omega
    · rw [rem_push_ne e]; exact h.fit j
  · rw [room_push (by rw [h.len]; exact hi) (Nat.zero_le _) (by omega)]
    have := h.sum
    rw [List.length_cons] at this
    omega
theorem InvH.some_ (h : InvH S H who) (hr : 0 < remH S H i) : ∃ s r, who = s :: r := by
  have hi : i < S.length := by
    rcases Nat.lt_or_ge i S.length with h1 | h1
    · exact h1
    · rw [rem_far h.len h1] at hr; omega
  have h1 := room_ge h.fit (lo := 0) (j := i) (m := S.length) (Nat.zero_le _) (by omega)
  have h2 := h.sum
  cases who with
  | nil => simp at h2; omega
  | cons s r => exact ⟨s, r, rfl⟩
theorem InvH.start (hp : ∀ x ∈ S, 0 ≤ x) (hs : (who.length : Int) = S.sum) : InvH S (List.replicate S.length ([] : List α)) who := by
  have hr : ∀ i, remH S (List.replicate S.length ([] : List α)) i = S.getD i 0 := by
    intro i
    unfold remH
    rw [List.getD_eq_getElem?_getD (l := List.replicate _ _), List.getElem?_replicate]
    split <;> simp
  refine ⟨by rw [List.length_replicate], fun i => ?_, ?_⟩
  · rw [hr i, List.getD_eq_getElem?_getD]
    cases hx : S[i]? with
    | none => simp
    | some x => exact hp x (List.mem_of_getElem? hx)
  · rw [hs]
    have h2 : ∀ m, m ≤ S.length → roomH S (List.replicate S.length ([] : List α)) 0 m = (S.take m).sum := by
      intro m
      induction m with
      | zero => intro _; simp [roomH]
      | succ m ih =>
        intro hm
        unfold roomH
        rw [ih (by omega), Nat.zero_add, hr m, List.take_add_one, List.sum_append]
        obtain ⟨x, hx⟩ : ∃ x, S[m]? = some x := ⟨S[m], List.getElem?_eq_getElem (by omega)⟩
        rw [List.getD_eq_getElem?_getD, hx]; simp
    rw [h2 _ (Nat.le_refl _), List.take_length]
def dstH (lo n j at_ : Nat) : Nat := if j ≤ at_ then at_ - j else at_ - lo + 1 + (n - 1 - j)
theorem cir_skip (hlo : lo < n) {j : Nat} (hj1 : lo ≤ j) (hj2 : j < n) (hrj : 0 < remH S H j) (hro : roomH S H lo (n - lo) ≠ 0) (hput : ∀ a, lo ≤ a → a < n → 0 < remH S H a → ∃ k H1 w1, Cir S lo n k a H (s :: r) H1 w1) : ∀ d at_, lo ≤ at_ → at_ < n → dstH lo n j at_ = d → ∃ k H1 w1, Cir S lo n k at_ H (s :: r) H1 w1
  | d, at_, h1, h2, h3 => by
    by_cases hf : 0 < remH S H at_
    · exact hput at_ h1 h2 hf
    · have hne : at_ ≠ j := fun e => hf (e ▸ hrj)
      cases d with
      | zero =>
        exfalso
        unfold dstH at h3
        split at h3 <;> omega
      | succ d =>
        have hb : lo ≤ befH lo n at_ ∧ befH lo n at_ < n := by unfold befH; split <;> omega
        have hd : dstH lo n j (befH lo n at_) = d := by
          unfold dstH befH at *
          by_cases e : at_ = lo
          · rw [if_pos e]
            split at h3 <;> split <;> omega
          · rw [if_neg e]
            split at h3 <;> split <;> omega
        obtain ⟨k, H1, w1, hc⟩ := cir_skip hlo hj1 hj2 hrj hro hput d (befH lo n at_) hb.1 hb.2 hd
        refine ⟨k + 1, H1, w1, hro, ?_⟩
        dsimp only
        rw [if_pos (by omega)]
        exact hc
/-- the circle comes to its end -/
theorem cir_ex (hlo : lo < n) : ∀ (who : List α) (H : List (List α)) (at_ : Nat), InvH S H who → lo ≤ at_ → at_ < n → ∃ k H1 w1, Cir S lo n k at_ H who H1 w1
  | [], H, at_, _, _, _ => ⟨0, H, [], .inl rfl, rfl, rfl⟩
  | s :: r, H, at_, hI, h1, h2 => by
    by_cases hro : roomH S H lo (n - lo) = 0
    · exact ⟨0, H, s :: r, .inr hro, rfl, rfl⟩
    · obtain ⟨j, hj1, hj2, hj3⟩ := room_some hI.fit hro
      refine cir_skip hlo hj1 (by omega) hj3 hro (fun a ha1 ha2 ha3 => ?_) _ at_ h1 h2 rfl
      have hb : lo ≤ befH lo n a ∧ befH lo n a < n := by unfold befH; split <;> omega
      obtain ⟨k, H1, w1, hc⟩ := cir_ex hlo r (pushH a s H) (befH lo n a) (hI.push ha3) hb.1 hb.2
      refine ⟨k + 1, H1, w1, hro, ?_⟩
      dsimp only
      rw [if_neg (by omega)]
      exact hc
theorem fill_push (hi : i < H.length) (hr : 0 < remH S H i) : fillH S (i + 1) H (s :: r) = fillH S (i + 1) (pushH i s H) r := by
  have e1 : (remH S H i).toNat = (remH S (pushH i s H) i).toNat + 1 := by rw [rem_push hi]; omega
  show fillH S i (H.set i _) _ = fillH S i ((pushH i s H).set i _) _
  rw [e1, List.take_succ_cons, List.drop_succ_cons, push_at hi]
  congr 1
  unfold pushH
  rw [List.set_set, List.append_assoc]; rfl
theorem fill_full (hr : remH S H i ≤ 0) : fillH S (i + 1) H who = fillH S i H who := by
  show fillH S i (H.set i _) _ = _
  rw [show (remH S H i).toNat = 0 by omega, List.take_zero, List.drop_zero, List.append_nil]
  congr 1
  rw [List.getD_eq_getElem?_getD]
  cases hx : H[i]? with
  | none => rw [List.set_eq_of_length_le (by rw [List.getElem?_eq_none_iff] at hx; exact hx)]
  | some x =>
    have hi : i < H.length := (List.getElem?_eq_some_iff.1 hx).1
    rw [Option.getD_some, ← (List.getElem?_eq_some_iff.1 hx).2]
    exact List.set_getElem_self hi
theorem fill_keep : ∀ (i : Nat) (H : List (List α)) (who : List α) (j : Nat), i ≤ j → (fillH S i H who).getD j [] = H.getD j []
  | 0, _, _, _, _ => rfl
  | i + 1, H, who, j, h => by
    show (fillH S i _ _).getD j [] = _
    rw [fill_keep i _ _ j (by omega), List.getD_eq_getElem?_getD, List.getElem?_set_ne (by omega), ← List.getD_eq_getElem?_getD]
theorem set_flat : ∀ (H : List (List α)) (i : Nat) (t : List α), i < H.length → (H.set i (H.getD i [] ++ t)).flatten.Perm (H.flatten ++ t)
  | [], i, t, h => by simp at h
  | x :: H, 0, t, _ => by
    simp only [List.set_cons_zero, List.getD_cons_zero, List.flatten_cons, List.append_assoc]
    exact List.Perm.append_left _ List.perm_append_comm
  | x :: H, i + 1, t, h => by
    rw [List.set_cons_succ, List.getD_cons_succ, List.flatten_cons, List.flatten_cons, List.append_assoc]
    exact List.Perm.append_left _ (set_flat H i t (by simpa using h))
theorem flat_push (hi : i < H.length) : (pushH i s H).flatten.Perm (H.flatten ++ [s]) := set_flat H i [s] hi
theorem cir_inv (hlo : lo < n) (hn : n ≤ S.length) : ∀ (k : Nat) (at_ : Nat) (H : List (List α)) (who : List α) (H1 : List (List α)) (w1 : List α), InvH S H who → lo ≤ at_ → at_ < n → Cir S lo n k at_ H who H1 w1 → InvH S H1 w1 ∧ (H1.flatten ++ w1).Perm (H.flatten ++ who)
  | 0, at_, H, who, H1, w1, hI, h1, h2, hc => by
    obtain ⟨_, rfl, rfl⟩ := hc
    exact ⟨hI, List.Perm.refl _⟩
  | k + 1, at_, H, [], H1, w1, hI, h1, h2, hc => absurd hc.2 id
  | k + 1, at_, H, s :: r, H1, w1, hI, h1, h2, hc => by
    have h3 := hc.2
    dsimp only at h3
    have hb : lo ≤ befH lo n at_ ∧ befH lo n at_ < n := by unfold befH; split <;> omega
    split at h3
    · exact cir_inv hlo hn k _ H (s :: r) H1 w1 hI hb.1 hb.2 h3
    · obtain ⟨q1, q2⟩ := cir_inv hlo hn k _ (pushH at_ s H) r H1 w1 (hI.push (by omega)) hb.1 hb.2 h3
      refine ⟨q1, q2.trans ?_⟩
      refine ((flat_push (by have := hI.len; omega)).append_right r).trans ?_
      rw [List.append_assoc]; rfl
theorem rem_setH (H : List (List α)) (i j : Nat) (x : List α) (hj : j ≠ i) : remH S (H.set i x) j = remH S H j := by
  unfold remH
  rw [List.getD_eq_getElem?_getD (l := H.set i x), List.getElem?_set_ne (fun e => hj e.symm), ← List.getD_eq_getElem?_getD]
theorem room_setH (H : List (List α)) (i : Nat) (x : List α) : ∀ m, m ≤ i → roomH S (H.set i x) 0 m = roomH S H 0 m
  | 0, _ => rfl
  | m + 1, h => by unfold roomH; rw [room_setH H i x m (by omega), rem_setH H i _ x (by omega)]
/-- what the heats hold in the end: those who were there, and the others -/
theorem fill_perm : ∀ (i : Nat) (H : List (List α)) (who : List α), i ≤ H.length → (∀ j, 0 ≤ remH S H j) → (who.length : Int) = roomH S H 0 i → (fillH S i H who).flatten.Perm (H.flatten ++ who) ∧ (fillH S i H who).length = H.length ∧ ∀ j, j < i → ((fillH S i H who).getD j []).length = S.getD j 0
  | 0, H, who, _, _, hs => by
    have : who = [] := List.eq_nil_of_length_eq_zero (by unfold roomH at hs; omega)
    subst this
    refine ⟨?_, rfl, fun j h => by omega⟩
    rw [List.append_nil]; exact List.Perm.refl _
  | i + 1, H, who, hi, hf, hs => by
    have hr := hf i
    unfold roomH at hs
    rw [Nat.zero_add] at hs
    have hn0 := room_nonneg hf 0 i
    have htl : ((who.take (remH S H i).toNat).length : Int) = remH S H i := by rw [List.length_take]; omega
    have hi' : i < H.length := by omega
    have hf' : ∀ j, 0 ≤ remH S (H.set i (H.getD i [] ++ who.take (remH S H i).toNat)) j := by
      intro j
      by_cases e : j = i
      · subst e
        have h9 : remH S H j = S.getD j 0 - ((H.getD j []).length : Int) := rfl
        generalize who.take (remH S H j).toNat = T at *
        unfold remH
        rw [List.getD_eq_getElem?_getD (l := H.set j _), List.getElem?_set_self hi', Option.getD_some, List.length_append]
        push_cast
        omega
      · rw [rem_setH _ _ _ _ e]; exact hf j
    have hei : ((H.set i (H.getD i [] ++ who.take (remH S H i).toNat)).getD i []).length = S.getD i 0 := by
      have h9 : remH S H i = S.getD i 0 - ((H.getD i []).length : Int) := rfl
      generalize who.take (remH S H i).toNat = T at *
      rw [List.getD_eq_getElem?_getD, List.getElem?_set_self hi', Option.getD_some, List.length_append]
      push_cast
      omega
    obtain ⟨p1, p2, p3⟩ := fill_perm i (H.set i (H.getD i [] ++ who.take (remH S H i).toNat)) (who.drop (remH S H i).toNat) (by rw [List.length_set]; omega) hf' (by rw [room_setH _ _ _ _ (Nat.le_refl _), List.length_drop]; omega)
    refine ⟨?_, by rw [show fillH S (i + 1) H who = fillH S i _ _ from rfl, p2, List.length_set], fun j hj => ?_⟩
    · show (fillH S i _ _).flatten.Perm _
      refine p1.trans ?_
      refine ((set_flat H i _ hi').append_right _).trans ?_
      rw [List.append_assoc, List.take_append_drop]
    · show ((fillH S i _ _).getD j []).length = S.getD j 0
      by_cases e : j = i
      · subst e
        rw [fill_keep _ _ _ _ (Nat.le_refl _)]
        exact hei
      · exact p3 j (by omega)
end
end Go.Proofs.YtklggnglaeagpaaGreatDoor

/- tumbref1.drawn. -/
namespace Go.Proofs.YtklggnglaeagpaaGreatDoor
open Go.RowKit Go.Shelf Go.Lib Go.Sort
set_option linter.unusedVariables false

section
variable {α : Type} {S : List Int} {H : List (List α)} {who : List α}
theorem room_le (h : ∀ i, 0 ≤ remH S H i) (lo m : Nat) (hm : lo + m ≤ S.length) : 0 ≤ roomH S H lo m ∧ roomH S H lo m ≤ roomH S H 0 S.length := by
  have h1 := room_split S H 0 lo m
  have h2 := room_split S H 0 (lo + m) (S.length - (lo + m))
  have h3 := room_nonneg h 0 lo
  have h4 := room_nonneg h (0 + (lo + m)) (S.length - (lo + m))
  have h5 := room_nonneg h lo m
  rw [show lo + m + (S.length - (lo + m)) = S.length by omega] at h2
  rw [Nat.zero_add] at h1
  omega
theorem InvH.room (h : InvH S H who) (lo m : Nat) (hm : lo + m ≤ S.length) : 0 ≤ roomH S H lo m ∧ roomH S H lo m ≤ who.length := by
  have := room_le h.fit lo m hm
  have := h.sum
  omega
end
theorem map_push {L : List Hb} {i : Nat} {y : Hb} {s : ByteArray} (hy : L[i]? = some y) (A : Option Addr) (c : Nat) : (L.set i ⟨A, c, y.l ++ [s]⟩).map Hb.l = pushH i s (L.map Hb.l) := by
  unfold pushH
  rw [List.map_set, List.getD_eq_getElem?_getD, List.getElem?_map, hy]; rfl
theorem info_strH : (Tryz.prog.info? 9).map (fun i => (i.zero, i.size, i.bytes)) = some (some (.string ⟨#[]⟩), 1, 16) := by kernel_rfl
/-- who is where in the end -/
def DrawR (S : List Int) (ci : Int) (who : List ByteArray) (R : List (List ByteArray)) : Prop :=
  if 2 ≤ min ci (S.length : Int) then ∃ k H1 w1, Cir S (S.length - (min ci (S.length : Int)).toNat) S.length k (S.length - 1) (List.replicate S.length []) who H1 w1 ∧ fillH S S.length H1 w1 = R
  else fillH S S.length (List.replicate S.length []) who = R
set_option maxHeartbeats 12800000 in
set_option maxRecDepth 100000 in
theorem drawn_c (lo hi le ci : Int) (LV : List Int)
    (hLa : ∀ W, Calls Tryz.prog 201 #[.agg #[.int .i64 lo, .int .i64 hi, .int .i64 le, .int .i64 ci]] W fun e w' => ∃ A n c, e = .returned (.slice A n c) ∧ RI 3 w' A n LV ∧ LV.length = n ∧ Below W.heap.size W w')
    (Aw : Option Addr) (nw cw : Nat) (who : List ByteArray) (AS : Option Addr) (nS cS : Nat) (S : List Int) (R : List (List ByteArray)) (w : World)
    (hw : RS 9 w Aw nw who) (hcw : nw ≤ cw) (hS : RI 3 w AS nS S) (hI : InvH S (List.replicate S.length ([] : List ByteArray)) who) (hSb : ∀ x ∈ S, x ≤ LV.length) (hci : 1 ≤ ci ∧ ci ≤ 10) (hn : nS ≤ 60) (hwn : nw ≤ 300) (hLV : LV.length ≤ 10)
    (hR : DrawR S ci who R) :
    Calls Tryz.prog 276 #[.agg #[.int .i64 lo, .int .i64 hi, .int .i64 le, .int .i64 ci], .slice Aw nw cw, .slice AS nS cS] w fun e w' => ∃ A' n' c' D, e = .returned (.slice A' n' c') ∧ w'.ownsRow w.heap.size 153 3 (.slice A' n' c') n' (D.flatMap spE) ∧ n' ≤ 1000 ∧ SpSortF (stOut LV 0 R) D ∧ Below w.heap.size w w' := by
  have hSl := hS.len
  have hwl := hw.len
  subst hSl
  subst hwl
  have hLa' := Lib.hid hLa
  have hWh := Lib.hid (fun W (B : Below w.heap.size w W) => show WhN W (.slice Aw who.length cw) who from ⟨Aw, cw, rfl, hw.below B, hcw⟩)
  have hSB := Lib.hid (fun W (B : Below w.heap.size w W) => hS.below (w' := W) B)
  have hSb' := Lib.hid hSb
  have hp0 : (w.alloc (.cells #[.int .i64 lo, .int .i64 hi, .int .i64 le, .int .i64 ci] 131)).heap[w.heap.size]? = some (.cells #[.int .i64 lo, .int .i64 hi, .int .i64 le, .int .i64 ci] 131 (0, 0)) := heap_alloc_new w _
  have hB0 := below_new w (.cells #[.int .i64 lo, .int .i64 hi, .int .i64 le, .int .i64 ci] 131)
  have z0 := (blk_facts hp0).1 0
  have z1 := (blk_facts hp0).1 1
  have z2 := (blk_facts hp0).1 2
  have z3 := (blk_facts hp0).1 3
  have hI' := Lib.hid hI
  have hR' := Lib.hid hR
  have hmk := mk_rowsH S.length (by omega)
  clear hLa hw hS hSb hI hR
  go_enter Tryz.func276, Tryz.ntmps276
  go_wp2_with fail
  refine (hLa'.out _).mono ?_; rintro e w1 ⟨AL, nL, cL, rfl, rl1, hlL, B1⟩
  have hB1 := below_next hB0 B1
  have hp1 := blk_below hp0 B1
  have hz1 := hB1.size
  have hD0 := Hts.start (base := w.heap.size) (b := w1.heap.size) (w := w1.alloc (.cells (Array.replicate S.length (.slice none 0 0)) 97)) S.length (heap_alloc_new w1 _)
  have hBn := below_new w1 (.cells (Array.replicate S.length (.slice none 0 0)) 97)
  have hp2 := blk_below hp1 hBn
  have hB2 := below_next hB1 hBn
  obtain ⟨X, D0, hX⟩ : ∃ X : World → Prop, Dr w w1.heap.size X (List.replicate S.length ⟨none, 0, []⟩) (w1.alloc (.cells (Array.replicate S.length (.slice none 0 0)) 97)) ∧ Hid (∀ v, X v → RI 3 v AL nL LV) := ⟨fun v => RI 3 v AL nL LV, ⟨hD0, rl1.below hBn, fun a v h hk => h.keepS (by decide) (by decide) hk, hB2, hz1⟩, Lib.hid (fun v h => h)⟩
  have y3 := (blk_facts hp2).1 3
  have hL0 : Hid ((List.replicate S.length (⟨none, 0, []⟩ : Hb)).map Hb.l = List.replicate S.length []) := Lib.hid (by simp)
  go_upto_block 0 with (fail)
  obtain ⟨C, hC⟩ : ∃ C, (if (S.length : Int) < ci then (S.length : Int) else ci) = C := ⟨_, rfl⟩
  have hC2 : min ci (S.length : Int) = C := by rw [← hC]; split <;> omega
  have hC0 : 0 ≤ C ∧ C ≤ S.length := by omega
  have hCn : S.length = 0 → C = 0 := by omega
  unfold DrawR at hR'
  rw [hC2] at hR'
  first | rw [hC2] | rw [hC]
  have hWl : who.length ≤ 300 := hwn
  clear hC hC2
  clear hLa' hp0 hB0 B1 z0 z1 z2 z3 hp1 hp2 hD0 rl1 hBn hB1 hB2
  generalize List.replicate S.length (⟨none, 0, []⟩ : Hb) = L0 at *
  generalize hw2 : w1.alloc (.cells (Array.replicate S.length (.slice none 0 0)) 97) = w2 at *
  generalize w1.heap.size = b at *
  clear hw2
  go_cut [1] (fun u wx => ∃ L wl, Dr w b X L wx ∧ WhN w u wl ∧ wl.length ≤ 300 ∧ InvH S (L.map Hb.l) wl ∧ Hid (fillH S S.length (L.map Hb.l) wl = R))
  case first =>
    have hW2 := hWh.out _ (Below.refl _ _)
    have hI2 := hI'.out
    rw [← hL0.out] at hI2
    have hSl := Lib.hid (fun (k : Nat) (x : Int) (h : S[k]? = some x) (L : List Hb) (y : Hb) (hy : L[k]? = some y) => show remH S (L.map Hb.l) k = x - (y.l.length : Int) by
      unfold remH; rw [List.getD_eq_getElem?_getD, List.getD_eq_getElem?_getD, h, List.getElem?_map, hy]; rfl)
    by_cases hc2 : 2 ≤ C
    · have hR2 := hR'.out
      rw [if_pos hc2] at hR2
      obtain ⟨k0, H1, w1', hCir, hfill⟩ := hR2
      rw [← hL0.out] at hCir
      obtain ⟨c, rfl⟩ : ∃ c : Nat, C = c := ⟨C.toNat, by omega⟩
      have hCir' := Lib.hid hCir
      have hfill' := Lib.hid hfill
      have e1 : (c : Int).toNat = c := by omega
      rw [e1] at hCir'
      have hcN : c ≤ S.length := by omega
      have hc2' : 2 ≤ c := by omega
      clear hCir hfill hR' hL0 hI' e1
      go_wp2_with fail
      go_loopg [1, 10] k0 (fun k u h wr => ∃ (L : List Hb) (wl : List ByteArray) (hv : Int) (at_ : Nat), h = .int .i64 hv ∧ ((at_ : Int) = if hv < (S.length : Int) - (c : Int) then (S.length : Int) - 1 else hv) ∧ S.length - c ≤ at_ ∧ at_ < S.length ∧ -1 ≤ hv ∧ Dr w b X L wr ∧ WhN w u wl ∧ wl.length ≤ 300 ∧ Hid (InvH S (L.map Hb.l) wl) ∧ Hid (Cir S (S.length - c) S.length k at_ (L.map Hb.l) wl H1 w1'))
      case atStart => exact ⟨L0, who, (S.length : Int) - 1, S.length - 1, rfl, by rw [if_neg (by omega)]; omega, by omega, by omega, by omega, D0, hW2, hWl, Lib.hid hI2, hCir'⟩
      case round =>
        clear D0 hW2 hI2 hCir'
        obtain ⟨L, wl, hv, at_, rfl, hat, ha1, ha2, hv1, K, hW, hwl, hI, hCir⟩ := hrel
        cases wl with
        | nil =>
          obtain ⟨A9, c9, rfl, hA9, hc9⟩ := hW
          have hfin := Lib.hid (show fillH S S.length (L.map Hb.l) [] = R by
            have h := hCir.out
            cases gk with
            | zero => obtain ⟨_, e1, e2⟩ := h; rw [← hfill'.out, e1, e2]
            | succ k => exact absurd h.2 id)
          have hW9 : WhN w (.slice A9 0 c9) [] := ⟨A9, c9, rfl, hA9, hc9⟩
          clear hCir hA9
          dsimp only [List.length_nil] at *
          go_wp2
          go_meet
          case rel => exact ⟨L, [], K, hW9, hwl, hI.out, hfin⟩
        | cons s r =>
          have hWt := Lib.hid hW
          obtain ⟨bW, oW, cW, rfl, hbW, hcW, u2, hs1, hs2, hW2⟩ := hW.tail
          obtain ⟨q, hq⟩ : ∃ q, r.length + 1 = q := ⟨_, rfl⟩
          have hq0 : 0 < q := by omega
          have hql : q ≤ 300 := by rw [← hq]; simpa using hwl
          rw [hq] at hWt hs1 hs2 ⊢
          have hq' := Lib.hid hq
          clear hq hbW hcW hs1 hs2 hW2
          go_upto_if 46 with (fail)
          go_cut [10] (fun h wx => h = .int .i64 at_ ∧ wr = wx)
          case first =>
            by_cases h : hv < (S.length : Int) - (c : Int)
            · rw [if_pos h] at hat
              go_wp2
              go_meet
              case rel => first | exact ⟨by rw [hat], rfl⟩ | exact ⟨_, ⟨by rw [hat], rfl⟩, rfl⟩
            · rw [if_neg h] at hat
              go_wp2
              go_meet
              case rel => first | exact ⟨by rw [hat], rfl⟩ | exact ⟨_, ⟨by rw [hat], rfl⟩, rfl⟩
          case rest =>
            obtain ⟨rfl, rfl⟩ := hcut
            clear hat hv1
            have hIo := hI.out
            have hLl := Lib.hid (show L.length = S.length by have := hIo.len; rwa [List.length_map] at this)
            have hrb := Lib.hid (fun m (hm : S.length - c + m ≤ S.length) => hIo.room (S.length - c) m hm)
            rw [List.length_cons, hq'.out] at hrb
            clear hIo
            go_wp2_with fail
            go_loopw [11, 12] (fun sv iv wx => ∃ k : Nat, S.length - c ≤ k ∧ k ≤ S.length ∧ iv = .int .i64 k ∧ sv = .int .i64 (roomH S (L.map Hb.l) (S.length - c) (k - (S.length - c))) ∧ Dr w b X L wx) (fun _ iv _ => S.length - (intOf iv).toNat)
            case atStart => exact ⟨S.length - c, Nat.le_refl _, by omega, by congr 1; omega, by rw [Nat.sub_self]; rfl, K⟩
            case round =>
              clear K
              rename World => wx
              obtain ⟨k, hk1, hk2, rfl, rfl, K⟩ := hrel
              by_cases hkn : k < S.length
              · obtain ⟨bS, oS, x, rfl, hbS, hx, cx⟩ := (hSB.out _ K.bel).at_ hkn
                obtain ⟨y, hy⟩ := at_of_lt (l := L) (k := k) (by have := hLl.out; omega)
                have cy := K.hts.cell hy
                have hrm := hSl.out k x hx L y hy
                have hst : roomH S (L.map Hb.l) (S.length - c) (k + 1 - (S.length - c)) = roomH S (L.map Hb.l) (S.length - c) (k - (S.length - c)) + (x - (y.l.length : Int)) := by
                  rw [show k + 1 - (S.length - c) = (k - (S.length - c)) + 1 by omega, ← hrm]
                  show _ + remH S _ (S.length - c + (k - (S.length - c))) = _
                  rw [show S.length - c + (k - (S.length - c)) = k by omega]
                have hb1 := hrb.out (k - (S.length - c)) (by omega)
                have hb2 := hrb.out (k + 1 - (S.length - c)) (by omega)
                rw [hst] at hb2
                have hst' := Lib.hid hst
                have hxb : 0 ≤ x - (y.l.length : Int) ∧ x - (y.l.length : Int) ≤ 10 := by
                  have h1 := hI.out.fit k
                  rw [hrm] at h1
                  have h2 := hSb'.out x (List.mem_of_getElem? hx)
                  omega
                obtain ⟨yA, yc, yl⟩ := y
                dsimp only [hbE] at *
                clear hst hrm hx hy
                generalize hsm : roomH S (L.map Hb.l) (S.length - c) (k - (S.length - c)) = sm at *
                generalize yl.length = yn at *
                have i0 : (0 : Int) ≤ (k : Int) := by omega
                have i1 : (k : Int) < (S.length : Int) := by omega
                clear hsm
                go_wp2
                go_quiet (fail)
                go_wp2
                go_roundw
                case rel => exact ⟨k + 1, by omega, by omega, by go_num, by (rw [hst'.out]; try go_num), K.below (below_drewN (Below.refl _ _) _)⟩
                case measure => simp [intOf]; omega
              · obtain rfl : k = S.length := by omega
                have hsub : S.length - (S.length - c) = c := by omega
                rw [hsub]
                have hb1 := hrb.out c (by omega)
                clear hrb hsub
                by_cases hro : roomH S (L.map Hb.l) (S.length - c) c = 0
                · have hfin := Lib.hid (show fillH S S.length (L.map Hb.l) (s :: r) = R by
                    have h := hCir.out
                    cases gk with
                    | zero => obtain ⟨_, e1, e2⟩ := h; rw [← hfill'.out, e1, e2]
                    | succ k => exact absurd (show roomH S (L.map Hb.l) (S.length - c) (S.length - (S.length - c)) = 0 by rw [show S.length - (S.length - c) = c by omega]; exact hro) h.1)
                  rw [hro]
                  clear hro hCir
                  go_wp2
                  go_meet
                  case rel => exact ⟨L, s :: r, K, hWt.out, hwl, hI.out, hfin⟩
                · have hro' : (roomH S (L.map Hb.l) (S.length - c) c == 0) = false := beq_eq_false_iff_ne.2 hro
                  obtain ⟨k, rfl⟩ : ∃ k, gk = k + 1 := by
                    cases gk with
                    | zero =>
                      rcases hCir.out.1 with h | h
                      · cases h
                      · rw [show S.length - (S.length - c) = c by omega] at h; exact absurd h hro
                    | succ k => exact ⟨k, rfl⟩
                  have hC2 := Lib.hid (show (if remH S (L.map Hb.l) at_ ≤ 0 then Cir S (S.length - c) S.length k (befH (S.length - c) S.length at_) (L.map Hb.l) (s :: r) H1 w1' else Cir S (S.length - c) S.length k (befH (S.length - c) S.length at_) (pushH at_ s (L.map Hb.l)) r H1 w1') from hCir.out.2)
                  have hro2 := hro
                  generalize roomH S (L.map Hb.l) (S.length - c) c = rm at *
                  clear hCir hro
                  obtain ⟨bS, oS, x, rfl, hbS, hx, cx⟩ := (hSB.out _ K.bel).at_ ha2
                  obtain ⟨y, hy⟩ := at_of_lt (l := L) (k := at_) (by have := hLl.out; omega)
                  have cy := K.hts.cell hy
                  have hrm := Lib.hid (hSl.out at_ x hx L y hy)
                  have hy' := Lib.hid hy
                  obtain ⟨yA, yc, yl⟩ := y
                  dsimp only [hbE] at *
                  have hx' := Lib.hid hx
                  clear hx hy
                  have i0 : (0 : Int) ≤ (at_ : Int) := by omega
                  have i1 : (at_ : Int) < (S.length : Int) := by omega
                  have hbf : Hid (((befH (S.length - c) S.length at_ : Nat) : Int) = if (at_ : Int) - 1 < (S.length : Int) - (c : Int) then (S.length : Int) - 1 else (at_ : Int) - 1) := Lib.hid (by unfold befH; split <;> split <;> omega)
                  have hbf2 : S.length - c ≤ befH (S.length - c) S.length at_ ∧ befH (S.length - c) S.length at_ < S.length := by unfold befH; split <;> omega
                  by_cases hfu : x - (yl.length : Int) ≤ 0
                  · have hC3 := hC2.out
                    rw [hrm.out, if_pos hfu] at hC3
                    have hC4 := Lib.hid hC3
                    have hlt : ¬ (yl.length : Int) < x := by omega
                    clear hC2 hC3 hrm
                    go_wp2
                    go_quiet (fail)
                    go_wp2
                    go_roundg k
                    case measure => omega
                    case rel => exact ⟨L, s :: r, (at_ : Int) - 1, _, rfl, hbf.out, hbf2.1, hbf2.2, by omega, K.below (below_drewN (Below.refl _ _) _), hWt.out, hwl, hI, hC4⟩
                  · have hC3 := hC2.out
                    rw [hrm.out, if_neg hfu] at hC3
                    have hC4 := Lib.hid hC3
                    have hlt : (yl.length : Int) < x := by omega
                    clear hC2 hC3
                    obtain ⟨bW', oW', cW', hWe, hbW, hcW, u2, hs1, hs2, hW2⟩ := hWt.out.tail
                    have hcW9 : wx.cell? ⟨bW', oW', none⟩ = some (.string s) := (K.bel.cell (p := ⟨bW', oW', none⟩) hbW).trans hcW
                    injection hWe with e1 e2 e3
                    injection e1 with e1
                    injection e1 with e1 e4
                    subst e1 e3 e4
                    have hWt1 := hWt.out
                    rw [← hq'.out] at hWt1
                    have hWt2 := Lib.hid hWt1.tail2
                    clear hWt1
                    clear hs1 hs2 hW2 u2
                    have hbn' : bW ≠ b := by have := K.zb; omega
                    go_wp2
                    go_quiet (fail)
                    go_wp2
                    have K9 := K.below (below_drewN (below_drewN (Below.refl _ _) nq) 1)
                    have cy9 := K9.hts.cell hy'.out
                    have fy9 := K9.hts.frozen at_
                    have lb9 := lt_of_heap K9.hts.row
                    have hz9' := K9.bel.size
                    have hyl : yl.length ≤ 1000 := by have := hSb'.out x (List.mem_of_getElem? hx'.out); omega
                    obtain ⟨i0, hi0, hz0, hz1, hz2⟩ := info_parts info_strH
                    clear cy cx
                    have hC4x := hC4.out
                    refine wp_region_inv (by kernel_rfl) (fun listed a w' => ∃ xs : Nat → Value, a = { tmps := #[.agg #[.int .i64 lo, .int .i64 hi, .int .i64 le, .int .i64 ci], .slice (some ⟨bW, oW, none⟩) (r.length + 1) cW, .slice (some ⟨bS, oS, none⟩) S.length cS, .pointer (some ⟨w.heap.size, 0, none⟩), undef, undef, .slice none 0 0, .slice AL nL cL, .slice (some ⟨b, 0, none⟩) S.length S.length, .int .i64 ↑c, .int .i64 ↑at_, .int .i64 rm, .int .i64 ↑S.length, undef, undef, undef, undef, undef, undef, .agg #[.int .i64 lo, .int .i64 hi, .int .i64 le, .int .i64 ci], .slice AL nL cL, .slice (some ⟨bS, oS, none⟩) S.length cS, .int .i64 ↑S.length, .slice (some ⟨b, 0, none⟩) S.length S.length, .pointer (some ⟨w.heap.size, 3, none⟩), .int .i64 ci, .slice (some ⟨bS, oS, none⟩) S.length cS, .int .i64 ↑S.length, .int .i64 ↑c, .slice (some ⟨bS, oS, none⟩) S.length cS, .int .i64 ↑S.length, .int .i64 (↑S.length - 1), u32, u33, u34, u35, u36, u37, u38, u39, u40, u41, u42, u43, u44, u45, u46, u47, u48, u49, .slice (some ⟨bS, oS, none⟩) S.length cS, .int .i64 ↑S.length, .int .i64 ↑c, .int .i64 (↑S.length - ↑c), .int .i64 ↑S.length, .slice (some ⟨bS, oS, none⟩) S.length cS, .int .i64 ↑S.length, .bool false, u58, u59, u60, u61, u62, u63, u64, u65, u66, u67, u68, u69, u70, u71, .int .i64 rm, .bool false, .slice (some ⟨b, 0, none⟩) S.length S.length, .int .i64 ↑at_, .pointer (some ⟨b, at_, none⟩), .slice yA yl.length yc, .int .i64 ↑yl.length, .slice (some ⟨bS, oS, none⟩) S.length cS, .int .i64 ↑at_, .pointer (some ⟨bS, oS + at_, none⟩), .int .i64 x, .bool true, xs 0, xs 1, xs 2, xs 3, xs 4, xs 5, xs 6, xs 7, xs 8, xs 9, xs 10, xs 11, u96, u97, undef, undef, undef, undef, undef, undef, undef, undef, undef, undef, undef, undef, undef, undef, undef, undef, undef, undef, undef, undef, undef, undef, undef, undef, undef, undef, undef, undef, undef, undef, undef, undef, undef, undef, undef, undef, undef, undef, undef, undef, undef, undef, undef, undef, undef, undef, undef, undef, undef, undef, undef, undef, undef, undef, undef, undef, undef, undef, undef, undef, undef], defers := [] } ∧ (∀ j, listed.getD j false = true → CV [some (.slice (some ⟨b, 0, none⟩) S.length S.length), some (.int .i64 ↑at_), some (.slice (some ⟨b, 0, none⟩) S.length S.length), some (.int .i64 ↑at_), some (.pointer (some ⟨b, at_, none⟩)), some (.slice yA yl.length yc), some (.slice (some ⟨bW, oW, none⟩) (r.length + 1) cW), some (.pointer (some ⟨bW, oW, none⟩)), some (.string s), none, none, some (.pointer (some ⟨b, at_, none⟩)), none] j w' (xs j)) ∧ ApSt (w.heap.size) 9 1 (yl.length) (strsH yl) ([.string s]) ((wx.drewN nq).drew) 5 9 10 12 ⟨b, at_, none⟩ listed xs w') ?h0 (AllOps.of ?hs) ?he
                    case h0 => exact ⟨fun j => match j with | 0 => u84 | 1 => u85 | 2 => u86 | 3 => u87 | 4 => u88 | 5 => u89 | 6 => u90 | 7 => u91 | 8 => u92 | 9 => u93 | 10 => u94 | 11 => u95 | _ => undef, rfl, (fun j hj => by rw [rep_falseA] at hj; cases hj), ApSt.start⟩
                    case hs =>
                      refine ⟨?_, ?_, ?_, ?_, ?_, ?_, ?_, ?_, ?_, ?_, ?_, ?_, ?_, trivial⟩
                      · intro listed a w' hs hI h0 hd K2 hK
                        obtain ⟨xs, rfl, hC, hW⟩ := hI
                        have hK2 := Lib.hid hK
                        have hC2 := Lib.hid hC
                        clear hd hK hC h0
                        go_simp
                        exact hK2.out _ _ ⟨updV xs 0 (.slice (some ⟨b, 0, none⟩) S.length S.length), by simp [updV], cond_set hC2.out (fun _ _ h => h) (CV.of rfl rfl), hW.keep (by decide) (by decide) (by decide) (by decide)⟩
                      · intro listed a w' hs hI h0 hd K2 hK
                        obtain ⟨xs, rfl, hC, hW⟩ := hI
                        have hK2 := Lib.hid hK
                        have hC2 := Lib.hid hC
                        clear hd hK hC h0
                        go_simp
                        exact hK2.out _ _ ⟨updV xs 1 (.int .i64 ↑at_), by simp [updV], cond_set hC2.out (fun _ _ h => h) (CV.of rfl rfl), hW.keep (by decide) (by decide) (by decide) (by decide)⟩
                      · intro listed a w' hs hI h0 hd K2 hK
                        obtain ⟨xs, rfl, hC, hW⟩ := hI
                        have hK2 := Lib.hid hK
                        have hC2 := Lib.hid hC
                        clear hd hK hC h0
                        go_simp
                        exact hK2.out _ _ ⟨updV xs 2 (.slice (some ⟨b, 0, none⟩) S.length S.length), by simp [updV], cond_set hC2.out (fun _ _ h => h) (CV.of rfl rfl), hW.keep (by decide) (by decide) (by decide) (by decide)⟩
                      · intro listed a w' hs hI h0 hd K2 hK
                        obtain ⟨xs, rfl, hC, hW⟩ := hI
                        have hK2 := Lib.hid hK
                        have hC2 := Lib.hid hC
                        clear hd hK hC h0
                        go_simp
                        exact hK2.out _ _ ⟨updV xs 3 (.int .i64 ↑at_), by simp [updV], cond_set hC2.out (fun _ _ h => h) (CV.of rfl rfl), hW.keep (by decide) (by decide) (by decide) (by decide)⟩
                      · intro listed a w' hs hI h0 hd K2 hK
                        obtain ⟨xs, rfl, hC, hW⟩ := hI
                        have e2 : xs 2 = .slice (some ⟨b, 0, none⟩) S.length S.length := (hC 2 (hd ⟨2, .data⟩ (by simp) rfl)) _ rfl
                        have e3 : xs 3 = .int .i64 ↑at_ := (hC 3 (hd ⟨3, .data⟩ (by simp) rfl)) _ rfl
                        have hK2 := Lib.hid hK
                        have hC2 := Lib.hid hC
                        clear hd hK hC h0
                        go_simp
                        exact hK2.out _ _ ⟨updV xs 4 (.pointer (some ⟨b, at_, none⟩)), by simp [updV, e2, e3], cond_set hC2.out (fun _ _ h => h) (CV.of rfl rfl), hW.keep (by decide) (by decide) (by decide) (by decide)⟩
                      · intro listed a w' hs hI h0 hd K2 hK
                        obtain ⟨xs, rfl, hC, hW⟩ := hI
                        have e4 : xs 4 = .pointer (some ⟨b, at_, none⟩) := (hC 4 (hd ⟨4, .data⟩ (by simp) rfl)) _ rfl
                        have hK2 := Lib.hid hK
                        have hC2 := Lib.hid hC
                        have B9 := hW.below h0
                        have c9 : w'.cell? ⟨b, at_, none⟩ = some (.slice yA yl.length yc) := (B9.cell (p := ⟨b, at_, none⟩) lb9).trans cy9
                        have hU9 := Lib.hid (hW.row h0 (Below.refl _ _) (v := .slice yA yl.length yc) (own_below (K9.hts.own at_ _ hy'.out) B9) (by decide) (by decide) (by decide))
                        clear hd hK hC h0
                        go_simp
                        exact hK2.out _ _ ⟨updV xs 5 (.slice yA yl.length yc), by simp [updV, e4], cond_set hC2.out (fun _ _ h => h) (CV.of rfl rfl), hU9.out⟩
                      · intro listed a w' hs hI h0 hd K2 hK
                        obtain ⟨xs, rfl, hC, hW⟩ := hI
                        have hK2 := Lib.hid hK
                        have hC2 := Lib.hid hC
                        clear hd hK hC h0
                        go_simp
                        exact hK2.out _ _ ⟨updV xs 6 (.slice (some ⟨bW, oW, none⟩) (r.length + 1) cW), by simp [updV], cond_set hC2.out (fun _ _ h => h) (CV.of rfl rfl), hW.keep (by decide) (by decide) (by decide) (by decide)⟩
                      · intro listed a w' hs hI h0 hd K2 hK
                        obtain ⟨xs, rfl, hC, hW⟩ := hI
                        have e6 : xs 6 = .slice (some ⟨bW, oW, none⟩) (r.length + 1) cW := (hC 6 (hd ⟨6, .data⟩ (by simp) rfl)) _ rfl
                        have hK2 := Lib.hid hK
                        have hC2 := Lib.hid hC
                        clear hd hK hC h0
                        go_simp
                        exact hK2.out _ _ ⟨updV xs 7 (.pointer (some ⟨bW, oW, none⟩)), by simp [updV, e6], cond_set hC2.out (fun _ _ h => h) (CV.of rfl rfl), hW.keep (by decide) (by decide) (by decide) (by decide)⟩
                      · intro listed a w' hs hI h0 hd K2 hK
                        obtain ⟨xs, rfl, hC, hW⟩ := hI
                        have e7 : xs 7 = .pointer (some ⟨bW, oW, none⟩) := (hC 7 (hd ⟨7, .data⟩ (by simp) rfl)) _ rfl
                        have hK2 := Lib.hid hK
                        have hC2 := Lib.hid hC
                        have c9 := hW.cellLow (q := bW) (o := oW) hcW9 hbW (Nat.lt_of_lt_of_le hbW hz9') hbn'
                        clear hd hK hC h0
                        go_simp
                        exact hK2.out _ _ ⟨updV xs 8 (.string s), by simp [updV, e7], cond_set hC2.out (fun _ _ h => h) (CV.of rfl rfl), hW.keep (by decide) (by decide) (by decide) (by decide)⟩
                      · intro listed a w' hs hI h0 hd K2 hK
                        obtain ⟨xs, rfl, hC, hW⟩ := hI
                        have e8 : xs 8 = .string s := (hC 8 (hd ⟨8, .data⟩ (by simp) rfl)) _ rfl
                        have hK2 := Lib.hid hK
                        have hC2 := Lib.hid hC
                        have hL9 := Lib.hid (hW.lay h0 (by decide) (by decide) (by decide))
                        clear hd hK hC h0
                        go_simp
                        exact hK2.out _ _ ⟨updV xs 9 (.slice (some ⟨w'.heap.size, 0, none⟩) 1 1), by simp [updV, e8], cond_set hC2.out (fun _ _ h => h) (CV.free rfl), hL9.out⟩
                      · intro listed a w' hs hI h0 hd K2 hK
                        obtain ⟨xs, rfl, hC, hW⟩ := hI
                        have e5 : xs 5 = .slice yA yl.length yc := (hC 5 (hd ⟨5, .data⟩ (by simp) rfl)) _ rfl
                        have hK2 := Lib.hid hK
                        have hC2 := Lib.hid hC
                        obtain ⟨o9, B9, z9, q9, hz9, hnx⟩ := hW.app h0 (hd ⟨5, .data⟩ (by simp) rfl) (hd ⟨9, .data⟩ (by simp) rfl) (by decide) (by decide) (by decide)
                        rw [e5] at o9 hnx
                        have hnx' := Lib.hid hnx
                        clear hd hK hC hnx
                        refine step_append_lies _ rfl (.tmp 89) (.tmp 93) 97 (by rfl) _ 9 i0 _ 1 16 Tryz.underlying97 hi0 hz0 hz1 hz2 (by rfl) (by omega) _ _ _ (by show xs 5 = _; exact e5) o9 _ 1 1 ([.string s]) (by show xs 9 = _; exact q9) rfl (World.news_of_block hz9) (by simp [Value.oneCell']) (by omega) (by unfold maxLen; omega) (by omega) (Nat.le_trans hz9' B9.size) _ rfl ?_
                        intro g cap w2 ho hg hat hlt
                        clear h0
                        exact hK2.out _ _ ⟨updV xs 10 (.slice (some ⟨g, 0, none⟩) ((yl.length) + 1) cap), by first | rfl | simp [updV, Act.put], cond_set hC2.out (fun _ _ h => h) (CV.free rfl), hnx'.out g cap w2 ho hg hat⟩
                      · intro listed a w' hs hI h0 hd K2 hK
                        obtain ⟨xs, rfl, hC, hW⟩ := hI
                        have e0 : xs 0 = .slice (some ⟨b, 0, none⟩) S.length S.length := (hC 0 (hd ⟨0, .data⟩ (by simp) rfl)) _ rfl
                        have e1 : xs 1 = .int .i64 ↑at_ := (hC 1 (hd ⟨1, .data⟩ (by simp) rfl)) _ rfl
                        have hK2 := Lib.hid hK
                        have hC2 := Lib.hid hC
                        clear hd hK hC h0
                        go_simp
                        exact hK2.out _ _ ⟨updV xs 11 (.pointer (some ⟨b, at_, none⟩)), by simp [updV, e0, e1], cond_set hC2.out (fun _ _ h => h) (CV.of rfl rfl), hW.keep (by decide) (by decide) (by decide) (by decide)⟩
                      · intro listed a w' hs hI h0 hd K2 hK
                        obtain ⟨xs, rfl, hC, hW⟩ := hI
                        have e11 : xs 11 = .pointer (some ⟨b, at_, none⟩) := (hC 11 (hd ⟨11, .data⟩ (by simp) rfl)) _ rfl
                        have hK2 := Lib.hid hK
                        have hC2 := Lib.hid hC
                        obtain ⟨w1, g, cap, b1, b2, b3, b4, hnx⟩ := hW.store h0 (hd ⟨10, .data⟩ (by simp) rfl) (by decide) (by decide) (by decide)
                        have K1 := K9.below b1
                        have r9 := blk_grown K1.hts.row b3 (fun e => own_neH b2 K1.hts.row (by decide) e.symm)
                        have f9 := (blk_facts r9).2 at_
                        have c9 : w'.cell? ⟨b, at_, none⟩ = some (.slice yA yl.length yc) := by rw [(blk_facts r9).1 at_]; simp [hy'.out, hbE]
                        clear r9 K1
                        have hnx' := Lib.hid hnx
                        clear hd hK hC h0
                        go_simp
                        exact hK2.out _ _ ⟨updV xs 12 (undef), by simp [updV, e11, b4], cond_set hC2.out (fun _ _ h => h) (CV.free rfl), hnx'.out _⟩
                    case he =>
                      intro listed a w' hs hI hr
                      obtain ⟨xs, rfl, hC, hW⟩ := hI
                      have hal := all_listed hs hr ⟨rfl, rfl, rfl, rfl, rfl, rfl, rfl, rfl, rfl, rfl, rfl, rfl, rfl, trivial⟩
                      have e0 : xs 0 = .slice (some ⟨b, 0, none⟩) S.length S.length := (hC 0 (hal 0 (by simp))) _ rfl
                      have e1 : xs 1 = .int .i64 ↑at_ := (hC 1 (hal 1 (by simp))) _ rfl
                      have e2 : xs 2 = .slice (some ⟨b, 0, none⟩) S.length S.length := (hC 2 (hal 2 (by simp))) _ rfl
                      have e3 : xs 3 = .int .i64 ↑at_ := (hC 3 (hal 3 (by simp))) _ rfl
                      have e4 : xs 4 = .pointer (some ⟨b, at_, none⟩) := (hC 4 (hal 4 (by simp))) _ rfl
                      have e5 : xs 5 = .slice yA yl.length yc := (hC 5 (hal 5 (by simp))) _ rfl
                      have e6 : xs 6 = .slice (some ⟨bW, oW, none⟩) (r.length + 1) cW := (hC 6 (hal 6 (by simp))) _ rfl
                      have e7 : xs 7 = .pointer (some ⟨bW, oW, none⟩) := (hC 7 (hal 7 (by simp))) _ rfl
                      have e8 : xs 8 = .string s := (hC 8 (hal 8 (by simp))) _ rfl
                      have e11 : xs 11 = .pointer (some ⟨b, at_, none⟩) := (hC 11 (hal 11 (by simp))) _ rfl
                      obtain ⟨w1, w2, g, cap, b1, b2, b3, b4, b5, b6, b7⟩ := hW.done (hal 10 (by simp)) (hal 12 (by simp))
                      clear hC hs hr hal hW
                      rw [e5] at b5 b6
                      have K1 := (K9.below b1).app (s := s) hy'.out b4 b5 b6
                      subst b7
                      try dsimp only
                      have hmp := map_push (s := s) hy'.out (some ⟨g, 0, none⟩) cap
                      have hI9 := hI.out.push (by rw [hrm.out]; omega) (i := at_)
                      rw [← hmp] at hI9 hC4x
                      clear e0 e1 e2 e3 e4 e5 e6 e7 e8 e11 b1 b2 b3 b4 b5 b6 hmp K9 K cy9 fy9 hbn' lb9 hi0 hz0 hz1 hz2
                      generalize w2.setCell ⟨b, at_, none⟩ (.slice (some ⟨g, 0, none⟩) (yl.length + 1) cap) = w8 at *
                      generalize L.set at_ ⟨some ⟨g, 0, none⟩, cap, yl ++ [s]⟩ = L8 at *
                      have hI9' := Lib.hid hI9
                      have hC9 := Lib.hid hC4x
                      clear hI9 hC4x
                      by_cases hc1 : cW = 1
                      · have hW3 := hWt2.out.1 hc1
                        subst hc1
                        clear hWt2
                        go_wp2
                        go_roundg k
                        case measure => omega
                        case rel => exact ⟨L8, r, (at_ : Int) - 1, _, rfl, hbf.out, hbf2.1, hbf2.2, by omega, K1, hW3, by omega, hI9', hC9⟩
                      · have hW3 := hWt2.out.2 hc1
                        clear hWt2
                        go_wp2
                        go_roundg k
                        case measure => omega
                        case rel => exact ⟨L8, r, (at_ : Int) - 1, _, rfl, hbf.out, hbf2.1, hbf2.2, by omega, K1, hW3, by omega, hI9', hC9⟩
    · have hR2 := hR'.out
      rw [if_neg hc2] at hR2
      have hfin : Hid (fillH S S.length (L0.map Hb.l) who = R) := Lib.hid (by rw [hL0.out]; exact hR2)
      clear hR' hR2 hL0
      go_wp2_with fail
      refine wp_loop_rounds 1 ?_
      rw [rounds_succ]
      go_wp2
      all_goals go_meet
      all_goals exact ⟨L0, who, D0, hW2, hWl, hI2, hfin⟩
  case rest =>
    clear D0 hR' hL0 hI' hCn hC0
    rename World => w3
    obtain ⟨L, wl, K, hW, hwl, hI, hfin⟩ := hcut
    have hI0 := Lib.hid hI
    clear hI
    go_wp2_with fail
    go_loopw [1, 13] (fun u iv wr => ∃ (m : Nat) (L : List Hb) (wl : List ByteArray), m ≤ S.length ∧ iv = .int .i64 ((m : Int) - 1) ∧ Dr w b X L wr ∧ WhN w u wl ∧ wl.length ≤ 300 ∧ Hid (InvH S (L.map Hb.l) wl) ∧ Hid (fillH S m (L.map Hb.l) wl = R)) (fun _ iv _ => (intOf iv + 1).toNat)
    case atStart => exact ⟨S.length, L, wl, Nat.le_refl _, rfl, K, hW, hwl, hI0, hfin⟩
    case round =>
      clear K hW hI0 hfin
      rename World => wr
      obtain ⟨m, L, wl, hm, rfl, K, hW, hwl, hI, hfin⟩ := hrel
      cases m with
      | zero =>
        rw [show ((0 : Nat) : Int) - 1 = -1 from rfl]
        have hR9 : L.map Hb.l = R := hfin.out
        have hll : Hid (∀ x ∈ L.map (fun x : Hb => (⟨x.A, x.l.length, x.c, x.l⟩ : Hn)), (x.l.length : Int) ≤ LV.length) := Lib.hid (fun x hx => by
          obtain ⟨y, hy, rfl⟩ := List.mem_map.1 hx
          obtain ⟨i, hi, rfl⟩ := List.getElem_of_mem hy
          have h1 := hI.out.fit i
          unfold remH at h1
          have hil : i < S.length := by have := hI.out.len; rw [List.length_map] at this; omega
          rw [List.getD_eq_getElem?_getD, List.getD_eq_getElem?_getD, List.getElem?_map, List.getElem?_eq_getElem hi, List.getElem?_eq_getElem hil] at h1
          have h2 := hSb'.out S[i] (List.getElem_mem hil)
          simp only [Option.map_some, Option.getD_some] at h1
          dsimp only
          omega)
        have hHn : (L.map (fun x : Hb => (⟨x.A, x.l.length, x.c, x.l⟩ : Hn))).map Hn.l = R := by rw [← hR9, List.map_map]; rfl
        have hHl : (L.map (fun x : Hb => (⟨x.A, x.l.length, x.c, x.l⟩ : Hn))).length = S.length := by have := hI.out.len; rw [List.length_map] at this ⊢; exact this
        have hRH : RHn wr (some ⟨b, 0, none⟩) S.length (L.map (fun x : Hb => (⟨x.A, x.l.length, x.c, x.l⟩ : Hn))) := by
          refine ⟨⟨hHl, by omega, fun hp => ⟨b, 0, _, _, rfl, K.hts.row, fun k x hx i u hu => ?_⟩⟩, fun x hx => ?_⟩
          · rw [List.getElem?_map] at hx
            cases hy : L[k]? with
            | none => rw [hy] at hx; cases hx
            | some y =>
              rw [hy] at hx
              obtain rfl := Option.some.inj hx
              cases i with
              | zero =>
                obtain rfl : (.slice y.A y.l.length y.c : Value) = u := by simpa [hnE] using hu
                simp [hy, hbE]
              | succ i => simp [hnE] at hu
          · obtain ⟨y, hy, rfl⟩ := List.mem_map.1 hx
            obtain ⟨i, hi⟩ := List.mem_iff_getElem?.1 hy
            have hyl : y.l.length ≤ 1000 := by
              have := hll.out _ hx
              dsimp only at this
              omega
            exact K.hts.rs hi (by omega)
        have hrl := hX.out _ K.x
        have hRb := Lib.hid (fun W (B : Below wr.heap.size wr W) => hrl.below B)
        have hR1 := Lib.hid (fun W (B : Below wr.heap.size wr W) => hRH.below B)
        have hB9 := K.bel
        have hz9 := K.bel.size
        have hSo := Lib.hid (fun k x (hx : (L.map (fun x : Hb => (⟨x.A, x.l.length, x.c, x.l⟩ : Hn)))[k]? = some x) => stOut_at (LV := LV) hx)
        have hSi := Lib.hid (fun (x : Hn) h k s (hx : x.l[k]? = some s) => stIn_at (LV := LV) (h := h) hx)
        have hSz := Lib.hid (fun h k => show stIn LV h k [] = [] from rfl)
        have hOz := Lib.hid (fun k => show stOut LV k (([] : List Hn).map Hn.l) = [] from rfl)
        have hSF := Lib.hid (fun l w base n u hown hn => sortFSp_c 203 (enters_of Tryz.func203 (by kernel_rfl) rfl) (fun x y W => byStart_c x y W) l w base n u hown hn)
        have hHl' := Lib.hid hHl
        have hSn := Lib.hid hn
        have hHn' := Lib.hid hHn
        generalize L.map (fun x : Hb => (⟨x.A, x.l.length, x.c, x.l⟩ : Hn)) = H at *
        clear hfin hR9 hHn hHl hRH K hW hI hrl hwl hX hSB hSb' hWh L wl hWl
        generalize stIn LV = SI at *
        generalize hSU : stOut LV = SU at hSo hOz
        have hSU' := Lib.hid hSU
        clear hSU
        obtain ⟨n, hnS⟩ : ∃ n, S.length = n := ⟨_, rfl⟩
        rw [hnS] at hHl' hR1 hSn ⊢
        have hn60 : n ≤ 60 := hSn.out
        clear hnS hm hmk
        go_wp2_with fail
        go_loopw [14, 131] (fun u i wx => ∃ (k : Nat) (acc : List Sp), k ≤ n ∧ i = .int .i64 k ∧ acc.length ≤ 10 * k ∧ SO wr u acc wx ∧ Hid (acc ++ SU k ((H.drop k).map Hn.l) = SU 0 (H.map Hn.l))) (fun _ i _ => n - (intOf i).toNat)
        case atStart => exact ⟨0, [], Nat.zero_le _, rfl, Nat.zero_le _, SO.start wr, Lib.hid rfl⟩
        case round =>
          rename World => wx
          obtain ⟨k, acc0, hk, rfl, hal0, K, hG⟩ := hrel
          by_cases hlt : k < n
          · obtain ⟨b', off, x, hAb, hx, c0, hIx⟩ := RHn_at (hR1.out _ K.bel) hlt
            injection hAb with hAb
            injection hAb with e1 e2
            subst e1 e2
            rw [Nat.mul_one, Nat.zero_add] at c0
            have hG2 := Lib.hid (show acc0 ++ (SI ((k : Int) + 1) 0 x.l ++ SU (k + 1) ((H.drop (k + 1)).map Hn.l)) = SU 0 (H.map Hn.l) by rw [← hG.out, hSo.out k x hx])
            have hxl := hll.out x (List.mem_of_getElem? hx)
            have hnl := hIx.len
            have hSx := Lib.hid (fun h j s hs => hSi.out x h j s hs)
            obtain ⟨xA, xn, xc, xl⟩ := x
            dsimp only at *
            have hz := K.bel.size
            clear hx hG
            go_wp2_with fail
            clear c0
            go_loopw [14, 138] (fun u i wx => ∃ (j : Nat) (acc : List Sp), j ≤ xn ∧ i = .int .i64 j ∧ acc.length ≤ 10 * k + j ∧ SO wr u acc wx ∧ RS 9 wx xA xn xl ∧ Hid (acc ++ (SI ((k : Int) + 1) j (xl.drop j) ++ SU (k + 1) ((H.drop (k + 1)).map Hn.l)) = SU 0 (H.map Hn.l))) (fun _ i _ => xn - (intOf i).toNat)
            case atStart => exact ⟨0, acc0, Nat.zero_le _, rfl, by omega, K, hIx, hG2⟩
            case round =>
              clear K hG2 hIx
              rename World => wx
              obtain ⟨j, acc, hj, rfl, hal, K, hBx, hG⟩ := hrel
              obtain ⟨Ao, co, rfl⟩ := own_shape K.own
              by_cases hlt2 : j < xn
              · obtain ⟨bs, os, s, hA, hbs, hs, cs⟩ := hBx.at_ hlt2
                subst hA
                obtain ⟨bl, ol, lv, hAl, _, hlv, cl⟩ := (hRb.out _ K.bel).at_ (k := j) (by omega)
                subst hAl
                have hget : LV.getD j 0 = lv := getD_of hlv
                have hG2 := Lib.hid (show (acc ++ [⟨s, (k : Int) + 1, lv⟩]) ++ (SI ((k : Int) + 1) (j + 1) (xl.drop (j + 1)) ++ SU (k + 1) ((H.drop (k + 1)).map Hn.l)) = SU 0 (H.map Hn.l) by rw [← hG.out, hSx.out _ j s hs, hget, List.append_assoc]; rfl)
                have hown := K.own
                have hsz := K.bel.size
                have hA := Lib.hid (fun v' w' ho hg => K.app (v' := v') (x := ⟨s, (k : Int) + 1, lv⟩) (w' := w') ho hg)
                have hIk := Lib.hid (fun w' (hg : wx.grownBy w' (Value.slice Ao acc.length co).ownBlock) => show RS 9 w' (some ⟨bs, os, none⟩) xn xl from hBx.keep (T := 153) (by decide) (keep_row hown hg))
                have l0 : (0 : Int) ≤ (j : Int) := by omega
                have l1 : (j : Int) < (nL : Int) := by omega
                have e1 : IntKind.i64.wrap ((k : Int) + 1) = (k : Int) + 1 := IntWalk.i64_in _ (by omega)
                clear hG hs hlv hget
                go_wp2_with (at_builtin; refine wpList_app rfl (.tmp 143) (.tmp 152) 146 rfl Tryz.underlying146 info_start rfl (by omega) (by omega) hown rfl rfl (by first | rfl | (simp; done)) (by rfl) (by simp [Value.oneCell']) (by omega) hsz ?_; intro v6 w6 hown6 hg6)
                have K6 := hA.out v6 w6 hown6 hg6
                have hI6 := hIk.out w6 hg6
                clear hown6 hg6 hown hA hIk cs cl K
                go_roundw
                case rel => exact ⟨j + 1, acc ++ [⟨s, (k : Int) + 1, lv⟩], by omega, by go_num, by rw [List.length_append]; simp; omega, K6, hI6, hG2⟩
                case measure => simp [intOf]; omega
              · obtain rfl : j = xn := by omega
                have hG3 := Lib.hid (show acc ++ SU (k + 1) ((H.drop (k + 1)).map Hn.l) = SU 0 (H.map Hn.l) by have h := hG.out; rw [drop_end (by rw [hnl]; exact Nat.le_refl _), hSz.out, List.nil_append] at h; exact h)
                clear hG
                go_wp2
                go_roundw
                case rel => exact ⟨k + 1, acc, by omega, by go_num, by omega, K, hG3⟩
                case measure => simp [intOf]; omega
          · obtain rfl : k = n := by omega
            have hfin : acc0 = SU 0 (H.map Hn.l) := by have h := hG.out; rw [drop_end (by rw [hHl'.out]; exact Nat.le_refl _), hOz.out, List.append_nil] at h; exact h
            obtain ⟨Ao, co, rfl⟩ := own_shape K.own
            have hSS := Lib.hid (hSF.out acc0 _ _ _ _ K.own (by omega))
            have hbe := Lib.hid (fun w' (hg : wx.grownBy w' (Value.slice Ao acc0.length co).ownBlock) => below_next hB9 (below_own K.bel K.own hg K.bel.size (Nat.le_refl _)))
            have hal9 : acc0.length ≤ 1000 := by omega
            rw [hfin] at hSS
            clear K hG
            rw [hfin] at hbe hal9 ⊢
            go_wp2_with fail
            refine hSS.out.mono ?_; rintro e w7 ⟨rfl, D, hoD, hsD, hgD⟩
            have hBf := hbe.out _ hgD
            have hsD' := Lib.hid hsD
            have ho9 := own_mono hoD hz9
            clear hsD hoD hSS
            go_wp2
            go_ret
            exact ⟨Ao, _, co, D, rfl, ho9, hal9, by rw [hSU'.out, ← hHn'.out]; exact hsD'.out, hBf⟩
      | succ m =>
        have q1 : ((m + 1 : Nat) : Int) - 1 = (m : Int) := by omega
        have q2 : (0 : Int) ≤ (m : Int) := by omega
        rw [q1]
        clear q1
        go_wp2_with fail
        go_loopg [1] wl.length (fun k u wx => ∃ (L : List Hb) (wl : List ByteArray), wl.length = k ∧ Dr w b X L wx ∧ WhN w u wl ∧ wl.length ≤ 300 ∧ Hid (InvH S (L.map Hb.l) wl) ∧ Hid (fillH S (m + 1) (L.map Hb.l) wl = R))
        case atStart => exact ⟨L, wl, rfl, K, hW, hwl, hI, hfin⟩
        case round =>
          clear K hW hI hfin
          rename World => wx
          obtain ⟨L, wl, rfl, K, hW, hwl, hI, hfin⟩ := hrel
          have hLl := Lib.hid (show L.length = S.length by have := hI.out.len; rwa [List.length_map] at this)
          obtain ⟨bS, oS, x, rfl, hbS, hx, cx⟩ := (hSB.out _ K.bel).at_ (k := m) (by omega)
          obtain ⟨y, hy⟩ := at_of_lt (l := L) (k := m) (by have := hLl.out; omega)
          have cy := K.hts.cell hy
          have hrm := Lib.hid (show remH S (L.map Hb.l) m = x - (y.l.length : Int) by
            unfold remH; rw [List.getD_eq_getElem?_getD, List.getD_eq_getElem?_getD, hx, List.getElem?_map, hy]; rfl)
          have hy' := Lib.hid hy
          have hx' := Lib.hid hx
          obtain ⟨yA, yc, yl⟩ := y
          dsimp only [hbE] at *
          clear hx hy
          have i1 : (m : Int) < (S.length : Int) := by omega
          by_cases hfu : x - (yl.length : Int) ≤ 0
          · have hlt : ¬ (yl.length : Int) < x := by omega
            have hfin2 := Lib.hid (show fillH S m (L.map Hb.l) wl = R by rw [← hfin.out, fill_full (by rw [hrm.out]; exact hfu)])
            obtain ⟨A9, c9, rfl, hA9, hc9⟩ := hW
            have hW9 : WhN w (.slice A9 wl.length c9) wl := ⟨A9, c9, rfl, hA9, hc9⟩
            clear hfin
            go_wp2
            go_quiet (fail)
            go_wp2
            go_roundw
            case rel => exact ⟨m, L, wl, by omega, by go_num, K.below (below_drewN (Below.refl _ _) _), hW9, hwl, hI, hfin2⟩
            case measure => simp [intOf] <;> omega
          · have hlt : (yl.length : Int) < x := by omega
            obtain ⟨s, r, rfl⟩ := hI.out.some_ (i := m) (by rw [hrm.out]; omega)
            obtain ⟨bW, oW, cW, rfl, hbW, hcW, _⟩ := hW.tail
            have hcW9 : wx.cell? ⟨bW, oW, none⟩ = some (.string s) := (K.bel.cell (p := ⟨bW, oW, none⟩) hbW).trans hcW
            have hbn' : bW ≠ b := by have := K.zb; omega
            have hWt2 := Lib.hid hW.tail2
            have hfin2 : fillH S (m + 1) (pushH m s (L.map Hb.l)) r = R := by rw [← hfin.out, fill_push (by rw [List.length_map, hLl.out]; omega) (by rw [hrm.out]; omega)]
            have hrl : r.length + 1 ≤ 300 := by simpa using hwl
            have hq0 : (0 : Int) < ((r.length + 1 : Nat) : Int) := by omega
            clear hfin hW hwl
            go_wp2
            go_quiet (fail)
            go_wp2
            have K9 := K.below (below_drewN (below_drewN (Below.refl _ _) nq) 1)
            have cy9 := K9.hts.cell hy'.out
            have lb9 := lt_of_heap K9.hts.row
            have hz9' := K9.bel.size
            have hyl : yl.length ≤ 1000 := by have := hSb'.out x (List.mem_of_getElem? hx'.out); omega
            obtain ⟨i0, hi0, hz0, hz1, hz2⟩ := info_parts info_strH
            clear cy cx
            refine wp_region_inv (by kernel_rfl) (fun listed a w' => ∃ xs : Nat → Value, a = { tmps := #[.agg #[.int .i64 lo, .int .i64 hi, .int .i64 le, .int .i64 ci], .slice (some ⟨bW, oW, none⟩) (r.length + 1) cW, .slice (some ⟨bS, oS, none⟩) S.length cS, .pointer (some ⟨w.heap.size, 0, none⟩), undef, undef, .slice none 0 0, .slice AL nL cL, .slice (some ⟨b, 0, none⟩) S.length S.length, .int .i64 C, u10, u11, u12, .int .i64 ↑m, undef, undef, undef, undef, undef, .agg #[.int .i64 lo, .int .i64 hi, .int .i64 le, .int .i64 ci], .slice AL nL cL, .slice (some ⟨bS, oS, none⟩) S.length cS, .int .i64 ↑S.length, .slice (some ⟨b, 0, none⟩) S.length S.length, .pointer (some ⟨w.heap.size, 3, none⟩), .int .i64 ci, .slice (some ⟨bS, oS, none⟩) S.length cS, .int .i64 ↑S.length, .int .i64 C, .slice (some ⟨bS, oS, none⟩) S.length cS, .int .i64 ↑S.length, .int .i64 (↑S.length - 1), u32, u33, u34, u35, u36, u37, u38, u39, u40, u41, u42, u43, u44, u45, u46, u47, u48, u49, u50, u51, u52, u53, u54, u55, u56, u57, u58, u59, u60, u61, u62, u63, u64, u65, u66, u67, u68, u69, u70, u71, u72, u73, u74, u75, u76, u77, u78, u79, u80, u81, u82, u83, u84, u85, u86, u87, u88, u89, u90, u91, u92, u93, u94, u95, u96, u97, .slice (some ⟨bS, oS, none⟩) S.length cS, .int .i64 ↑S.length, .int .i64 (↑S.length - 1), .int .i64 ↑m, .bool true, u103, u104, .slice (some ⟨b, 0, none⟩) S.length S.length, .int .i64 ↑m, .pointer (some ⟨b, m, none⟩), .slice yA yl.length yc, .int .i64 ↑yl.length, .slice (some ⟨bS, oS, none⟩) S.length cS, .int .i64 ↑m, .pointer (some ⟨bS, oS + m, none⟩), .int .i64 x, .bool true, xs 0, xs 1, xs 2, xs 3, xs 4, xs 5, xs 6, xs 7, xs 8, xs 9, xs 10, xs 11, u127, u128, undef, undef, undef, undef, undef, undef, undef, undef, undef, undef, undef, undef, undef, undef, undef, undef, undef, undef, undef, undef, undef, undef, undef, undef, undef, undef, undef, undef, undef, undef], defers := [] } ∧ (∀ j, listed.getD j false = true → CV [some (.slice (some ⟨b, 0, none⟩) S.length S.length), some (.int .i64 ↑m), some (.slice (some ⟨b, 0, none⟩) S.length S.length), some (.int .i64 ↑m), some (.pointer (some ⟨b, m, none⟩)), some (.slice yA yl.length yc), some (.slice (some ⟨bW, oW, none⟩) (r.length + 1) cW), some (.pointer (some ⟨bW, oW, none⟩)), some (.string s), none, none, some (.pointer (some ⟨b, m, none⟩)), none] j w' (xs j)) ∧ ApSt (w.heap.size) 9 1 (yl.length) (strsH yl) ([.string s]) ((wx.drewN nq).drew) 5 9 10 12 ⟨b, m, none⟩ listed xs w') ?h0 (AllOps.of ?hs) ?he
            case h0 => exact ⟨fun j => match j with | 0 => u115 | 1 => u116 | 2 => u117 | 3 => u118 | 4 => u119 | 5 => u120 | 6 => u121 | 7 => u122 | 8 => u123 | 9 => u124 | 10 => u125 | 11 => u126 | _ => undef, rfl, (fun j hj => by rw [rep_falseA] at hj; cases hj), ApSt.start⟩
            case hs =>
              refine ⟨?_, ?_, ?_, ?_, ?_, ?_, ?_, ?_, ?_, ?_, ?_, ?_, ?_, trivial⟩
              · intro listed a w' hs hI h0 hd K2 hK
                obtain ⟨xs, rfl, hC, hW⟩ := hI
                have hK2 := Lib.hid hK
                have hC2 := Lib.hid hC
                clear hd hK hC h0
                go_simp
                exact hK2.out _ _ ⟨updV xs 0 (.slice (some ⟨b, 0, none⟩) S.length S.length), by simp [updV], cond_set hC2.out (fun _ _ h => h) (CV.of rfl rfl), hW.keep (by decide) (by decide) (by decide) (by decide)⟩
              · intro listed a w' hs hI h0 hd K2 hK
                obtain ⟨xs, rfl, hC, hW⟩ := hI
                have hK2 := Lib.hid hK
                have hC2 := Lib.hid hC
                clear hd hK hC h0
                go_simp
                exact hK2.out _ _ ⟨updV xs 1 (.int .i64 ↑m), by simp [updV], cond_set hC2.out (fun _ _ h => h) (CV.of rfl rfl), hW.keep (by decide) (by decide) (by decide) (by decide)⟩
              · intro listed a w' hs hI h0 hd K2 hK
                obtain ⟨xs, rfl, hC, hW⟩ := hI
                have hK2 := Lib.hid hK
                have hC2 := Lib.hid hC
                clear hd hK hC h0
                go_simp
                exact hK2.out _ _ ⟨updV xs 2 (.slice (some ⟨b, 0, none⟩) S.length S.length), by simp [updV], cond_set hC2.out (fun _ _ h => h) (CV.of rfl rfl), hW.keep (by decide) (by decide) (by decide) (by decide)⟩
              · intro listed a w' hs hI h0 hd K2 hK
                obtain ⟨xs, rfl, hC, hW⟩ := hI
                have hK2 := Lib.hid hK
                have hC2 := Lib.hid hC
                clear hd hK hC h0
                go_simp
                exact hK2.out _ _ ⟨updV xs 3 (.int .i64 ↑m), by simp [updV], cond_set hC2.out (fun _ _ h => h) (CV.of rfl rfl), hW.keep (by decide) (by decide) (by decide) (by decide)⟩
              · intro listed a w' hs hI h0 hd K2 hK
                obtain ⟨xs, rfl, hC, hW⟩ := hI
                have e2 : xs 2 = .slice (some ⟨b, 0, none⟩) S.length S.length := (hC 2 (hd ⟨2, .data⟩ (by simp) rfl)) _ rfl
                have e3 : xs 3 = .int .i64 ↑m := (hC 3 (hd ⟨3, .data⟩ (by simp) rfl)) _ rfl
                have hK2 := Lib.hid hK
                have hC2 := Lib.hid hC
                clear hd hK hC h0
                go_simp
                exact hK2.out _ _ ⟨updV xs 4 (.pointer (some ⟨b, m, none⟩)), by simp [updV, e2, e3], cond_set hC2.out (fun _ _ h => h) (CV.of rfl rfl), hW.keep (by decide) (by decide) (by decide) (by decide)⟩
              · intro listed a w' hs hI h0 hd K2 hK
                obtain ⟨xs, rfl, hC, hW⟩ := hI
                have e4 : xs 4 = .pointer (some ⟨b, m, none⟩) := (hC 4 (hd ⟨4, .data⟩ (by simp) rfl)) _ rfl
                have hK2 := Lib.hid hK
                have hC2 := Lib.hid hC
                have B9 := hW.below h0
                have c9 : w'.cell? ⟨b, m, none⟩ = some (.slice yA yl.length yc) := (B9.cell (p := ⟨b, m, none⟩) lb9).trans cy9
                have hU9 := Lib.hid (hW.row h0 (Below.refl _ _) (v := .slice yA yl.length yc) (own_below (K9.hts.own m _ hy'.out) B9) (by decide) (by decide) (by decide))
                clear hd hK hC h0
                go_simp
                exact hK2.out _ _ ⟨updV xs 5 (.slice yA yl.length yc), by simp [updV, e4], cond_set hC2.out (fun _ _ h => h) (CV.of rfl rfl), hU9.out⟩
              · intro listed a w' hs hI h0 hd K2 hK
                obtain ⟨xs, rfl, hC, hW⟩ := hI
                have hK2 := Lib.hid hK
                have hC2 := Lib.hid hC
                clear hd hK hC h0
                go_simp
                exact hK2.out _ _ ⟨updV xs 6 (.slice (some ⟨bW, oW, none⟩) (r.length + 1) cW), by simp [updV], cond_set hC2.out (fun _ _ h => h) (CV.of rfl rfl), hW.keep (by decide) (by decide) (by decide) (by decide)⟩
              · intro listed a w' hs hI h0 hd K2 hK
                obtain ⟨xs, rfl, hC, hW⟩ := hI
                have e6 : xs 6 = .slice (some ⟨bW, oW, none⟩) (r.length + 1) cW := (hC 6 (hd ⟨6, .data⟩ (by simp) rfl)) _ rfl
                have hK2 := Lib.hid hK
                have hC2 := Lib.hid hC
                clear hd hK hC h0
                go_simp
                exact hK2.out _ _ ⟨updV xs 7 (.pointer (some ⟨bW, oW, none⟩)), by simp [updV, e6], cond_set hC2.out (fun _ _ h => h) (CV.of rfl rfl), hW.keep (by decide) (by decide) (by decide) (by decide)⟩
              · intro listed a w' hs hI h0 hd K2 hK
                obtain ⟨xs, rfl, hC, hW⟩ := hI
                have e7 : xs 7 = .pointer (some ⟨bW, oW, none⟩) := (hC 7 (hd ⟨7, .data⟩ (by simp) rfl)) _ rfl
                have hK2 := Lib.hid hK
                have hC2 := Lib.hid hC
                have c9 := hW.cellLow (q := bW) (o := oW) hcW9 hbW (Nat.lt_of_lt_of_le hbW hz9') hbn'
                clear hd hK hC h0
                go_simp
                exact hK2.out _ _ ⟨updV xs 8 (.string s), by simp [updV, e7], cond_set hC2.out (fun _ _ h => h) (CV.of rfl rfl), hW.keep (by decide) (by decide) (by decide) (by decide)⟩
              · intro listed a w' hs hI h0 hd K2 hK
                obtain ⟨xs, rfl, hC, hW⟩ := hI
                have e8 : xs 8 = .string s := (hC 8 (hd ⟨8, .data⟩ (by simp) rfl)) _ rfl
                have hK2 := Lib.hid hK
                have hC2 := Lib.hid hC
                have hL9 := Lib.hid (hW.lay h0 (by decide) (by decide) (by decide))
                clear hd hK hC h0
                go_simp
                exact hK2.out _ _ ⟨updV xs 9 (.slice (some ⟨w'.heap.size, 0, none⟩) 1 1), by simp [updV, e8], cond_set hC2.out (fun _ _ h => h) (CV.free rfl), hL9.out⟩
              · intro listed a w' hs hI h0 hd K2 hK
                obtain ⟨xs, rfl, hC, hW⟩ := hI
                have e5 : xs 5 = .slice yA yl.length yc := (hC 5 (hd ⟨5, .data⟩ (by simp) rfl)) _ rfl
                have hK2 := Lib.hid hK
                have hC2 := Lib.hid hC
                obtain ⟨o9, B9, z9, q9, hz9, hnx⟩ := hW.app h0 (hd ⟨5, .data⟩ (by simp) rfl) (hd ⟨9, .data⟩ (by simp) rfl) (by decide) (by decide) (by decide)
                rw [e5] at o9 hnx
                have hnx' := Lib.hid hnx
                clear hd hK hC hnx
                refine step_append_lies _ rfl (.tmp 120) (.tmp 124) 97 (by rfl) _ 9 i0 _ 1 16 Tryz.underlying97 hi0 hz0 hz1 hz2 (by rfl) (by omega) _ _ _ (by show xs 5 = _; exact e5) o9 _ 1 1 ([.string s]) (by show xs 9 = _; exact q9) rfl (World.news_of_block hz9) (by simp [Value.oneCell']) (by omega) (by unfold maxLen; omega) (by omega) (Nat.le_trans hz9' B9.size) _ rfl ?_
                intro g cap w2 ho hg hat hlt
                clear h0
                exact hK2.out _ _ ⟨updV xs 10 (.slice (some ⟨g, 0, none⟩) ((yl.length) + 1) cap), by first | rfl | simp [updV, Act.put], cond_set hC2.out (fun _ _ h => h) (CV.free rfl), hnx'.out g cap w2 ho hg hat⟩
              · intro listed a w' hs hI h0 hd K2 hK
                obtain ⟨xs, rfl, hC, hW⟩ := hI
                have e0 : xs 0 = .slice (some ⟨b, 0, none⟩) S.length S.length := (hC 0 (hd ⟨0, .data⟩ (by simp) rfl)) _ rfl
                have e1 : xs 1 = .int .i64 ↑m := (hC 1 (hd ⟨1, .data⟩ (by simp) rfl)) _ rfl
                have hK2 := Lib.hid hK
                have hC2 := Lib.hid hC
                clear hd hK hC h0
                go_simp
                exact hK2.out _ _ ⟨updV xs 11 (.pointer (some ⟨b, m, none⟩)), by simp [updV, e0, e1], cond_set hC2.out (fun _ _ h => h) (CV.of rfl rfl), hW.keep (by decide) (by decide) (by decide) (by decide)⟩
              · intro listed a w' hs hI h0 hd K2 hK
                obtain ⟨xs, rfl, hC, hW⟩ := hI
                have e11 : xs 11 = .pointer (some ⟨b, m, none⟩) := (hC 11 (hd ⟨11, .data⟩ (by simp) rfl)) _ rfl
                have hK2 := Lib.hid hK
                have hC2 := Lib.hid hC
                obtain ⟨w1, g, cap, b1, b2, b3, b4, hnx⟩ := hW.store h0 (hd ⟨10, .data⟩ (by simp) rfl) (by decide) (by decide) (by decide)
                have K1 := K9.below b1
                have r9 := blk_grown K1.hts.row b3 (fun e => own_neH b2 K1.hts.row (by decide) e.symm)
                have f9 := (blk_facts r9).2 m
                have c9 : w'.cell? ⟨b, m, none⟩ = some (.slice yA yl.length yc) := by rw [(blk_facts r9).1 m]; simp [hy'.out, hbE]
                clear r9 K1
                have hnx' := Lib.hid hnx
                clear hd hK hC h0
                go_simp
                exact hK2.out _ _ ⟨updV xs 12 (undef), by simp [updV, e11, b4], cond_set hC2.out (fun _ _ h => h) (CV.free rfl), hnx'.out _⟩
            case he =>
              intro listed a w' hs hI hr
              obtain ⟨xs, rfl, hC, hW⟩ := hI
              have hal := all_listed hs hr ⟨rfl, rfl, rfl, rfl, rfl, rfl, rfl, rfl, rfl, rfl, rfl, rfl, rfl, trivial⟩
              have e0 : xs 0 = .slice (some ⟨b, 0, none⟩) S.length S.length := (hC 0 (hal 0 (by simp))) _ rfl
              have e1 : xs 1 = .int .i64 ↑m := (hC 1 (hal 1 (by simp))) _ rfl
              have e2 : xs 2 = .slice (some ⟨b, 0, none⟩) S.length S.length := (hC 2 (hal 2 (by simp))) _ rfl
              have e3 : xs 3 = .int .i64 ↑m := (hC 3 (hal 3 (by simp))) _ rfl
              have e4 : xs 4 = .pointer (some ⟨b, m, none⟩) := (hC 4 (hal 4 (by simp))) _ rfl
              have e5 : xs 5 = .slice yA yl.length yc := (hC 5 (hal 5 (by simp))) _ rfl
              have e6 : xs 6 = .slice (some ⟨bW, oW, none⟩) (r.length + 1) cW := (hC 6 (hal 6 (by simp))) _ rfl
              have e7 : xs 7 = .pointer (some ⟨bW, oW, none⟩) := (hC 7 (hal 7 (by simp))) _ rfl
              have e8 : xs 8 = .string s := (hC 8 (hal 8 (by simp))) _ rfl
              have e11 : xs 11 = .pointer (some ⟨b, m, none⟩) := (hC 11 (hal 11 (by simp))) _ rfl
              obtain ⟨w1, w2, g, cap, b1, b2, b3, b4, b5, b6, b7⟩ := hW.done (hal 10 (by simp)) (hal 12 (by simp))
              clear hC hs hr hal hW
              rw [e5] at b5 b6
              have K1 := (K9.below b1).app (s := s) hy'.out b4 b5 b6
              subst b7
              try dsimp only
              have hmp := map_push (s := s) hy'.out (some ⟨g, 0, none⟩) cap
              have hI9 := hI.out.push (by rw [hrm.out]; omega) (i := m)
              rw [← hmp] at hI9 hfin2
              clear e0 e1 e2 e3 e4 e5 e6 e7 e8 e11 b1 b2 b3 b4 b5 b6 hmp K9 K cy9 hbn' lb9 hi0 hz0 hz1 hz2
              generalize w2.setCell ⟨b, m, none⟩ (.slice (some ⟨g, 0, none⟩) (yl.length + 1) cap) = w8 at *
              generalize L.set m ⟨some ⟨g, 0, none⟩, cap, yl ++ [s]⟩ = L8 at *
              have hI9' := Lib.hid hI9
              have hC9 := Lib.hid hfin2
              clear hI9 hfin2
              by_cases hc1 : cW = 1
              · have hW3 := hWt2.out.1 hc1
                subst hc1
                clear hWt2
                go_wp2
                go_roundg r.length
                case measure => simp
                case rel => exact ⟨L8, r, rfl, K1, hW3, by omega, hI9', hC9⟩
              · have hW3 := hWt2.out.2 hc1
                clear hWt2
                go_wp2
                go_roundg r.length
                case measure => simp
                case rel => exact ⟨L8, r, rfl, K1, hW3, by omega, hI9', hC9⟩
end Go.Proofs.YtklggnglaeagpaaGreatDoor

/- tumbref1.DrawOf. -/
namespace Go.Proofs.YtklggnglaeagpaaGreatDoor
open Go.RowKit Go.Shelf Go.Lib Go.Sort
set_option linter.unusedVariables false

theorem szS_two (a lanes : Int) : ∀ k, szS a lanes (k + 1) = a :: List.replicate k lanes
  | 0 => rfl
  | k + 1 => by
    have h := szS_two a lanes k
    show szS a lanes (k + 1) ++ [if k + 1 = 0 then a else lanes] = _
    rw [h, if_neg (by omega), List.cons_append, ← List.replicate_succ']
theorem sum_rep (x : Int) : ∀ k, (List.replicate k x).sum = x * k
  | 0 => by simp
  | k + 1 => by rw [List.replicate_succ, List.sum_cons, sum_rep x k]; push_cast; rw [Int.mul_add]; omega
/-- what the sizes of the heats are -/
theorem szV_facts {lanes le many : Int} (h1 : 1 ≤ lanes) (h2 : 1 ≤ le ∧ le ≤ lanes) (h0 : 0 ≤ many) (he : szErr lanes many = 0) : (∀ x ∈ szV lanes le many, 0 ≤ x ∧ x ≤ lanes) ∧ (szV lanes le many).sum = many ∧ (szV lanes le many).length ≤ 60 := by
  have hN : ¬ 60 < szN lanes many := fun h => by unfold szErr at he; rw [if_pos h] at he; omega
  unfold szV
  rw [if_neg hN]
  by_cases hz : szN lanes many = 0
  · rw [hz]
    have hm : many = 0 := by
      rcases sz_bd h1 h0 with ⟨_, b1, b2⟩ | ⟨b0, _, _⟩
      · rw [hz] at b2; simp at b2; omega
      · exact b0
    subst hm
    simp [szS]
  rcases sz_bd h1 h0 with ⟨_, b1, b2⟩ | ⟨b0, b1, _⟩
  · obtain ⟨k, hk⟩ : ∃ k, szN lanes many = k + 1 := by
      rcases Nat.eq_zero_or_pos (szN lanes many) with h | h
      · exfalso; exact hz h
      · exact ⟨szN lanes many - 1, by omega⟩
    have hA : szA lanes many = many - lanes * k := by unfold szA; rw [hk]; push_cast; rw [show (k : Int) + 1 - 1 = k by omega]
    rw [hk] at b1 b2
    push_cast at b1 b2
    rw [Int.mul_sub, Int.mul_add] at b1
    rw [Int.mul_add] at b2
    have a0 : 0 < szA lanes many := by omega
    have a1 : szA lanes many ≤ lanes := by omega
    generalize hP : lanes * (k : Int) = P at *
    rw [hk, szS_two]
    have hb : ∀ x ∈ szA lanes many :: List.replicate k lanes, 0 ≤ x ∧ x ≤ lanes := by
      intro x hx
      rcases List.mem_cons.1 hx with rfl | hx
      · omega
      · obtain ⟨_, rfl⟩ := List.mem_replicate.1 hx; omega
    split
    · rename_i hc
      obtain ⟨j, rfl⟩ : ∃ j, k = j + 1 := ⟨k - 1, by omega⟩
      have hK : 0 ≤ szK lanes le many ∧ szA lanes many + szK lanes le many ≤ le ∧ le ≤ lanes - szK lanes le many := by
        unfold szK
        rw [if_pos ⟨by omega, hc.2⟩]
        omega
      rw [List.replicate_succ, List.set_cons_zero, List.set_cons_succ, List.set_cons_zero]
      refine ⟨fun x hx => ?_, ?_, ?_⟩
      · rcases List.mem_cons.1 hx with rfl | hx
        · omega
        · rcases List.mem_cons.1 hx with rfl | hx
          · omega
          · obtain ⟨_, rfl⟩ := List.mem_replicate.1 hx; omega
      · rw [List.sum_cons, List.sum_cons, sum_rep, hA]
        push_cast at hP
        rw [Int.mul_add] at hP
        omega
      · simp; omega
    · refine ⟨hb, ?_, by simp; omega⟩
      rw [List.sum_cons, sum_rep, hA, hP]; omega
  · exact absurd b1 hz
theorem drawR_ex {S : List Int} {ci : Int} {who : List ByteArray} (hci : 1 ≤ ci) (hI : InvH S (List.replicate S.length ([] : List ByteArray)) who) : ∃ R, DrawR S ci who R := by
  unfold DrawR
  split
  · rename_i hC
    obtain ⟨c, hc⟩ : ∃ c : Nat, min ci (S.length : Int) = c := ⟨(min ci (S.length : Int)).toNat, by omega⟩
    rw [hc] at hC ⊢
    have h1 : c ≤ S.length := by omega
    obtain ⟨k, H1, w1, h⟩ := cir_ex (S := S) (lo := S.length - (c : Int).toNat) (n := S.length) (by omega) who _ (S.length - 1) hI (by omega) (by omega)
    exact ⟨_, k, H1, w1, h, rfl⟩
  · exact ⟨_, rfl⟩
theorem flat_repH (n : Nat) : (List.replicate n ([] : List ByteArray)).flatten = [] := by
  induction n with
  | zero => rfl
  | succ n ih => rw [List.replicate_succ, List.flatten_cons, ih]; rfl
/-- everybody is in a heat, and the heats are as great as they must be -/
theorem drawR_inv {S : List Int} {ci : Int} {who : List ByteArray} {R : List (List ByteArray)} (hI : InvH S (List.replicate S.length ([] : List ByteArray)) who) (hR : DrawR S ci who R) : R.flatten.Perm who ∧ R.length = S.length ∧ ∀ j, j < S.length → ((R.getD j []).length : Int) = S.getD j 0 := by
  unfold DrawR at hR
  split at hR
  · rename_i hC
    obtain ⟨k, H1, w1, hc, rfl⟩ := hR
    obtain ⟨c, hce⟩ : ∃ c : Nat, min ci (S.length : Int) = c := ⟨(min ci (S.length : Int)).toNat, by omega⟩
    rw [hce] at hC hc
    have h1 : c ≤ S.length := by omega
    obtain ⟨q1, q2⟩ := cir_inv (S := S) (lo := S.length - (c : Int).toNat) (n := S.length) (by omega) (Nat.le_refl _) k (S.length - 1) _ who H1 w1 hI (by omega) (by omega) hc
    obtain ⟨p1, p2, p3⟩ := fill_perm S.length H1 w1 (by rw [q1.len]; exact Nat.le_refl _) q1.fit q1.sum
    refine ⟨p1.trans (q2.trans ?_), p2.trans q1.len, p3⟩
    rw [flat_repH, List.nil_append]
  · obtain ⟨p1, p2, p3⟩ := fill_perm S.length _ who (by rw [hI.len]; exact Nat.le_refl _) hI.fit hI.sum
    rw [hR] at p1 p2 p3
    refine ⟨p1.trans ?_, p2.trans hI.len, p3⟩
    rw [flat_repH, List.nil_append]
theorem stIn_lenH (LV : List Int) (h : Int) : ∀ (j : Nat) (l : List ByteArray), (stIn LV h j l).length = l.length
  | _, [] => rfl
  | j, s :: r => by unfold stIn; rw [List.length_cons, stIn_lenH LV h (j + 1) r]; rfl
theorem stOut_lenH (LV : List Int) : ∀ (i : Nat) (R : List (List ByteArray)), (stOut LV i R).length = R.flatten.length
  | _, [] => rfl
  | i, l :: r => by unfold stOut; rw [List.length_append, stIn_lenH, stOut_lenH LV (i + 1) r, List.flatten_cons, List.length_append]
/-- what DrawOf hands back -/
def RetDw (w : World) (p : Pl) (O : List ByteArray) (R : List (List ByteArray)) (e : Ending) (w' : World) : Prop := (szErr (p.hi - p.lo + 1) O.length ≠ 0 ∧ e = .returned (.tuple #[.slice none 0 0, .int .i64 2]) ∧ Below w.heap.size w w') ∨ (szErr (p.hi - p.lo + 1) O.length = 0 ∧ ∃ A' n' c' D, e = .returned (.tuple #[.slice A' n' c', .int .i64 0]) ∧ w'.ownsRow w.heap.size 153 3 (.slice A' n' c') n' (D.flatMap spE) ∧ n' ≤ 1000 ∧ SpSortF (stOut (laneV p.lo p.hi) 0 R) D ∧ Below w.heap.size w w')
set_option maxHeartbeats 3200000 in
set_option maxRecDepth 100000 in
theorem drawOf_c (p : Pl) (hp : PlOk p) (A : Option Addr) (n c : Nat) (O : List ByteArray) (w : World) (hO : ∀ W, Below w.heap.size w W → Calls Tryz.prog 277 #[.slice A n c] W fun e w' => ∃ A' c', e = .returned (.slice A' n c') ∧ RS 9 w' A' n O ∧ n ≤ c' ∧ Below W.heap.size W w') (hol : O.length = n) (hn : n ≤ 300) (R : List (List ByteArray)) (hR : szErr (p.hi - p.lo + 1) n = 0 → DrawR (szV (p.hi - p.lo + 1) p.le n) p.ci O R) :
    Calls Tryz.prog 204 #[p.val, .slice A n c] w (RetDw w p O R) := by
  have hSz := Lib.hid (fun W => sizesRef_c p hp n (by omega) W)
  have hLa := Lib.hid (fun W => show Calls Tryz.prog 201 #[p.val] W fun e w' => ∃ A n c, e = .returned (.slice A n c) ∧ RI 3 w' A n (laneV p.lo p.hi) ∧ (laneV p.lo p.hi).length = n ∧ Below W.heap.size W w' from (lanesRef_c p hp W).mono fun e w' ⟨A, n, c, h1, h2, h3, h4⟩ => ⟨A, n, c, h1, R1.of_own h2 (by have := laneV_len hp.1.2; have := hp.2.1; have := hp.1.1; omega), h3, h4⟩)
  have hLl := laneV_len hp.1.2
  have hF := Lib.hid (fun h => szV_facts (lanes := p.hi - p.lo + 1) (le := p.le) (many := (n : Int)) (by have := hp.1.2; omega) hp.2.2.1 (by omega) h)
  have hP0 : (w.alloc (.cells p.cells 131)).heap[w.heap.size]? = some (.cells p.cells 131 (0, 0)) := heap_alloc_new w _
  have hB0 := below_new w (.cells p.cells 131)
  have hO' := Lib.hid hO
  have hR' := Lib.hid hR
  have hpo := Lib.hid hp
  clear hO hR
  subst hol
  unfold RetDw
  obtain ⟨lo, hi, le, ci⟩ := p
  dsimp only [Pl.val, Pl.cells] at *
  have z0 := (blk_facts hP0).1 0
  have z1 := (blk_facts hP0).1 1
  have z2 := (blk_facts hP0).1 2
  have z3 := (blk_facts hP0).1 3
  have hDr := Lib.hid (fun Aw cw AS nS cS W hw hcw hS hI hSb hn60 hLV hRR => drawn_c lo hi le ci (laneV lo hi) (fun W => hLa.out W) Aw O.length cw O AS nS cS (szV (hi - lo + 1) le (O.length : Int)) R W hw hcw hS hI hSb hpo.out.2.2.2 hn60 hn hLV hRR)
  generalize szV (hi - lo + 1) le (O.length : Int) = S at *
  clear hp
  by_cases hE : szErr (hi - lo + 1) (O.length : Int) = 0
  · have hRR := hR'.out hE
    obtain ⟨hS1, hS2, hS3⟩ := hF.out hE
    rw [hE] at hSz
    have hI := InvH.start (S := S) (who := O) (fun x hx => (hS1 x hx).1) hS2.symm
    have hSb : ∀ x ∈ S, x ≤ ((laneV lo hi).length : Int) := fun x hx => by rw [hLl]; exact (hS1 x hx).2
    have hLV10 : (laneV lo hi).length ≤ 10 := by have := hpo.out.2.1; have := hpo.out.1.1; dsimp only at *; omega
    have hI' := Lib.hid hI
    have hSb' := Lib.hid hSb
    have hRR' := Lib.hid hRR
    have hS3' := Lib.hid hS3
    clear hR' hF hI hSb hRR hS1 hS2 hS3 hLl hLa
    have hE' := Lib.hid hE
    clear hE
    go_enter Tryz.func204, Tryz.ntmps204
    go_wp2_with fail
    refine (hSz.out _).mono ?_; rintro e w1 ⟨AS, nS, cS, rfl, rS, B1⟩
    have hP1 := blk_below hP0 B1
    have hB1 := below_next hB0 B1
    have y0 := (blk_facts hP1).1 0
    have y1 := (blk_facts hP1).1 1
    have y2 := (blk_facts hP1).1 2
    have y3 := (blk_facts hP1).1 3
    have hB1' := Lib.hid (fun v (B : Below w1.heap.size w1.drew v) => below_next (below_drewN hB1 1) B)
    clear hSz hP0 hB0 B1 z0 z1 z2 z3
    go_wp2_with fail
    go_region_held3 (fun w' => w'.cell? ⟨w.heap.size, 0, none⟩ = some (.int .i64 lo) ∧ w'.cell? ⟨w.heap.size, 1, none⟩ = some (.int .i64 hi) ∧ w'.cell? ⟨w.heap.size, 2, none⟩ = some (.int .i64 le) ∧ w'.cell? ⟨w.heap.size, 3, none⟩ = some (.int .i64 ci))
      (first | go_keep | with_reducible exact ⟨y30, y31, y32, y33⟩ | with_reducible exact ⟨y20, y21, y22, y23⟩)
      (first
        | (go_at_call 277; refine (hO'.out w1.drew (below_drewN hB1 1)).mono ?_; rintro e w2 ⟨A2, c2, rfl, r2, hc2, B2⟩; have hB2 := hB1'.out _ B2; have hP2 := blk_below (w := w1.drew) hP1 B2; have y20 := (blk_facts hP2).1 0; have y21 := (blk_facts hP2).1 1; have y22 := (blk_facts hP2).1 2; have y23 := (blk_facts hP2).1 3; have rS2 := rS.drew.below B2)
        | (go_at_call 276; refine (hDr.out _ _ _ nS _ _ r2 hc2 rS2 hI'.out hSb'.out (by have := rS2.len; have := hS3'.out; omega) hLV10 hRR'.out).mono ?_; rintro e w3 ⟨A3, n3, c3, D, rfl, ho3, hn3, hs3, B3⟩; have hB3 := below_next hB2 B3; have hP3 := blk_below hP2 B3; have y30 := (blk_facts hP3).1 0; have y31 := (blk_facts hP3).1 1; have y32 := (blk_facts hP3).1 2; have y33 := (blk_facts hP3).1 3; have ho4 := own_mono ho3 hB2.size))
    clear hP2 hP3 hB2 hB1' hDr hO' r2 rS2 ho3 B3
    go_wp2
    go_ret2
    exact .inr ⟨hE'.out, A3, n3, c3, D, rfl, ho4, hn3, hs3, hB3⟩
  · have hE2 : szErr (hi - lo + 1) (O.length : Int) = 2 := by unfold szErr at hE ⊢; split at hE <;> simp_all
    have hE' := Lib.hid hE
    rw [hE2] at hSz
    clear hR' hF hE hE2 hDr hO' hLa
    go_enter Tryz.func204, Tryz.ntmps204
    go_wp2_with fail
    refine (hSz.out _).mono ?_; rintro e w1 ⟨AS, nS, cS, rfl, rS, B1⟩
    have hB1 := below_next hB0 B1
    clear hSz hP0 hB0 B1 z0 z1 z2 z3
    go_wp2
    go_ret2
    exact .inl ⟨hE'.out, rfl, hB1⟩
end Go.Proofs.YtklggnglaeagpaaGreatDoor

/- heat.sizes, with the room of the slice: made of SizeM by wip/mksizep.py. -/
namespace Go.Proofs.YtklggnglaeagpaaGreatDoor
open Go.RowKit Go.Shelf Go.Lib Go.Sort
set_option linter.unusedVariables false

end Go.Proofs.YtklggnglaeagpaaGreatDoor

/- heat.draw: who swims in which heat: the walk. Printed by wip/mkdrawp.py. -/
namespace Go.Proofs.YtklggnglaeagpaaGreatDoor
open Go.RowKit Go.Shelf Go.Lib Go.Sort
set_option linter.unusedVariables false

section
variable {α : Type} {S : List Int} {H : List (List α)} {who : List α}
end
end Go.Proofs.YtklggnglaeagpaaGreatDoor
