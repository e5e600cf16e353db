import Derived.Test.YtnkhdofcmanipaaGreatDoorFaStructs
import Derived.Test.YtnkhdofcmanipaaGreatDoorFaReady4
import Derived.Deep.LoopGhost
import Derived.Deep.RegionHeld3
import Derived.BigGuardPart
import Derived.IntWalk
import Derived.Test.YtnkhdofcmanipaaGreatDoorFaRows2
import Derived.Deep.AppendLies
import Derived.Test.YtnkhdofcmanipaaGreatDoorProg
import Derived.Laws.StructEq
import Derived.Test.YtnkhdofcmanipaaGreatDoorSortG
import Derived.Test.YtnkhdofcmanipaaGreatDoorFaSortB
import Derived.Sort.LotA
import Derived.Test.YtnkhdofcmanipaaGreatDoorFaSeedM
import Derived.Test.YtnkhdofcmanipaaGreatDoorFaApp2
import Derived.Test.YtnkhdofcmanipaaGreatDoorFaRegAp
import Derived.Test.YtnkhdofcmanipaaGreatDoorFaTxtP
import Derived.Test.YtnkhdofcmanipaaGreatDoorFaTimeR
import Derived.Test.YtnkhdofcmanipaaGreatDoorFaSigD
/- Fractions in lowest terms: words.Fraction, the reference's divisor and Lowest. -/
namespace Go.Proofs.YtnkhdofcmanipaaGreatDoor
open Go.RowKit
set_option linter.unusedVariables false

end Go.Proofs.YtnkhdofcmanipaaGreatDoor

/- timing.Laps and the reference's LapsOf. -/
namespace Go.Proofs.YtnkhdofcmanipaaGreatDoor
open Go.RowKit
set_option linter.unusedVariables false

end Go.Proofs.YtnkhdofcmanipaaGreatDoor

/- Even and proportional splits: race.Even, Like; the references EvenOf, LikeOf, rising. -/
namespace Go.Proofs.YtnkhdofcmanipaaGreatDoor
open Go.RowKit
set_option linter.unusedVariables false

end Go.Proofs.YtnkhdofcmanipaaGreatDoor

/- Splits in proportion: race.Like and the reference's LikeOf. -/
namespace Go.Proofs.YtnkhdofcmanipaaGreatDoor
open Go.RowKit
set_option linter.unusedVariables false

end Go.Proofs.YtnkhdofcmanipaaGreatDoor

/- How far somebody is: race.where, far, LineAt; the reference's farAt, FarOf. -/
namespace Go.Proofs.YtnkhdofcmanipaaGreatDoor
open Go.RowKit
set_option linter.unusedVariables false

end Go.Proofs.YtnkhdofcmanipaaGreatDoor

/- race.far, LineAt; the reference's farAt, FarOf. -/
namespace Go.Proofs.YtnkhdofcmanipaaGreatDoor
open Go.RowKit
set_option linter.unusedVariables false

end Go.Proofs.YtnkhdofcmanipaaGreatDoor

/- Halves, and how the second one compares: timing.Halves, race.Fade; the reference's HalvesOf. -/
namespace Go.Proofs.YtnkhdofcmanipaaGreatDoor
open Go.RowKit
set_option linter.unusedVariables false

end Go.Proofs.YtnkhdofcmanipaaGreatDoor

/- The fastest and the slowest length: race.Turns, the reference's TurnsOf; halves and race.Fade. -/
namespace Go.Proofs.YtnkhdofcmanipaaGreatDoor
open Go.RowKit
set_option linter.unusedVariables false

end Go.Proofs.YtnkhdofcmanipaaGreatDoor
/- Fields of swimmers: as data; the checks of a field. -/
namespace Go.Proofs.YtnkhdofcmanipaaGreatDoor
open Go.RowKit
set_option linter.unusedVariables false

structure Sw where
  who : ByteArray
  A : Option Addr
  n : Nat
  c : Nat
  sp : List Int
section
variable {w w' : World} {A : Option Addr} {n : Nat} {l : List Sw}
end
/-! ## the checks -/
end Go.Proofs.YtnkhdofcmanipaaGreatDoor

/- Fields of swimmers: the reference's check. -/
namespace Go.Proofs.YtnkhdofcmanipaaGreatDoor
open Go.RowKit
set_option linter.unusedVariables false

end Go.Proofs.YtnkhdofcmanipaaGreatDoor

/- How many hundredths all were before a line: the reference's and the program's. -/
namespace Go.Proofs.YtnkhdofcmanipaaGreatDoor
open Go.RowKit
set_option linter.unusedVariables false

end Go.Proofs.YtnkhdofcmanipaaGreatDoor

/- How many hundredths all were before a line: the program's. -/
namespace Go.Proofs.YtnkhdofcmanipaaGreatDoor
open Go.RowKit
set_option linter.unusedVariables false

end Go.Proofs.YtnkhdofcmanipaaGreatDoor

/- api.Gap as data; slices.Equal over it. -/
namespace Go.Proofs.YtnkhdofcmanipaaGreatDoor
open Go.RowKit
set_option linter.unusedVariables false

structure Gp where
  who : ByteArray
  length : Int
  behind : Int
deriving DecidableEq
end Go.Proofs.YtnkhdofcmanipaaGreatDoor

/- Best laps, plain: column by column (the reference), swim by swim (the program). -/
namespace Go.Proofs.YtnkhdofcmanipaaGreatDoor
open Go.RowKit
set_option linter.unusedVariables false

end Go.Proofs.YtnkhdofcmanipaaGreatDoor

/- The reference's BestLaps. (UNDER WAY) -/
namespace Go.Proofs.YtnkhdofcmanipaaGreatDoor
open Go.RowKit
set_option linter.unusedVariables false

end Go.Proofs.YtnkhdofcmanipaaGreatDoor
/- slices.SortStableFunc of gaps by how far behind, at most 19 of them: a permutation, ascending. -/
namespace Go.Proofs.YtnkhdofcmanipaaGreatDoor
open Go.RowKit Go.Shelf Go.Lib Go.Sort
set_option linter.unusedVariables false


abbrev GpB := { g : Gp // -1000000 ≤ g.behind ∧ g.behind ≤ 1000000 }
instance : Inhabited GpB := ⟨⟨⟨⟨#[]⟩, 0, 0⟩, by decide, by decide⟩⟩
end Go.Proofs.YtnkhdofcmanipaaGreatDoor

/- slices.SortStableFunc and slices.SortFunc of few structs: the insertion sort; over any comparison. Printed by wip/gensort.py. -/
namespace Go.Proofs.YtnkhdofcmanipaaGreatDoor
open Go.RowKit Go.Shelf Go.Lib Go.Sort
set_option linter.unusedVariables false
end Go.Proofs.YtnkhdofcmanipaaGreatDoor

/- slices.SortStableFunc of ranks and of seeds (at most 19). Printed by gensort.py. -/
namespace Go.Proofs.YtnkhdofcmanipaaGreatDoor
open Go.RowKit Go.Shelf Go.Lib Go.Sort
set_option linter.unusedVariables false
end Go.Proofs.YtnkhdofcmanipaaGreatDoor
/- api.Where as data; the order of wheres and of swims; plain lemmas on the insertion sort. -/
namespace Go.Proofs.YtnkhdofcmanipaaGreatDoor
open Go.RowKit Go.Shelf Go.Lib Go.Sort
set_option linter.unusedVariables false

section
variable {α β : Type} [Inhabited α] [Inhabited β]
end
structure Wh where
  who : ByteArray
  num : Int
  den : Int
deriving DecidableEq
instance : Inhabited Wh := ⟨⟨⟨#[]⟩, 0, 0⟩⟩
def whOk (x : Wh) : Prop := 0 ≤ x.num ∧ x.num ≤ 4400000000 ∧ 0 < x.den ∧ x.den ≤ 360000
abbrev WhB := { x : Wh // whOk x }
instance : Inhabited WhB := ⟨⟨⟨⟨#[]⟩, 0, 1⟩, by decide, by decide, by decide, by decide⟩⟩
/-! ## where somebody is -/
instance : Inhabited Sw := ⟨⟨⟨#[]⟩, none, 0, 0, []⟩⟩
/-! ## the closure -/
end Go.Proofs.YtnkhdofcmanipaaGreatDoor

/- race.at: where all are at a time, from the farthest on; checkTime, At, Order. -/
namespace Go.Proofs.YtnkhdofcmanipaaGreatDoor
open Go.RowKit Go.Sort
set_option linter.unusedVariables false

def strs (l : List ByteArray) : List Value := l.map Value.string
end Go.Proofs.YtnkhdofcmanipaaGreatDoor

/- Who leads, and for how long: as data. -/
namespace Go.Proofs.YtnkhdofcmanipaaGreatDoor
open Go.RowKit
set_option linter.unusedVariables false

section
variable {α : Type}
end
end Go.Proofs.YtnkhdofcmanipaaGreatDoor

/- Phases: what they are like; who leads is who is farthest. Plain. -/
namespace Go.Proofs.YtnkhdofcmanipaaGreatDoor
open Go.RowKit
set_option linter.unusedVariables false

section
variable {α : Type}
structure PhOk (L : Nat → List α) (out : List (Nat × Nat × List α)) (n : Nat) : Prop where
  emp : out = [] → n = 0
  at_ : ∀ j y, out[j]? = some y → y.1 < y.2.1 ∧ y.2.1 ≤ n ∧ (j = 0 → y.1 = 0) ∧ (∀ t, y.1 ≤ t → t < y.2.1 → L t = y.2.2) ∧ (j + 1 = out.length → y.2.1 = n)
  nxt : ∀ j y z, out[j]? = some y → out[j + 1]? = some z → y.2.1 = z.1 ∧ y.2.2 ≠ z.2.2
theorem snoc_at {β : Type} {l : List β} {x y : β} {j : Nat} (h : (l ++ [x])[j]? = some y) : (j < l.length ∧ l[j]? = some y) ∨ (j = l.length ∧ x = y) := by
  rcases Nat.lt_trichotomy j l.length with h1 | h1 | h1
  · rw [List.getElem?_append_left h1] at h; exact .inl ⟨h1, h⟩
  · subst h1; rw [List.getElem?_append_right (Nat.le_refl _)] at h; simp at h; exact .inr ⟨rfl, h⟩
  · rw [List.getElem?_eq_none (by simp; omega)] at h; cases h
theorem snoc_last {β : Type} (l : List β) (x : β) : (l ++ [x])[l.length]? = some x := by rw [List.getElem?_append_right (Nat.le_refl _)]; simp
theorem PhOk.ext {L : Nat → List α} {out : List (Nat × Nat × List α)} {n a : Nat} (h : PhOk L (out ++ [(a, n, L n)]) n) : PhOk L (out ++ [(a, n + 1, L n)]) (n + 1) := by
  obtain ⟨p1, p2, p3, p4, p5⟩ := h.at_ _ _ (snoc_last out (a, n, L n))
  refine ⟨fun e => by simp at e, fun j y hy => ?_, fun j y z hy hz => ?_⟩
  · rcases snoc_at hy with ⟨h1, h2⟩ | ⟨rfl, rfl⟩
    · obtain ⟨q1, q2, q3, q4, q5⟩ := h.at_ j y (by rw [List.getElem?_append_left h1]; exact h2)
      exact ⟨q1, by omega, q3, q4, fun e => by simp at e; omega⟩
    · refine ⟨by simp at p1 ⊢; omega, Nat.le_refl _, p3, fun t t0 t1 => ?_, fun _ => rfl⟩
      simp at t0 t1 ⊢
      rcases Nat.lt_or_ge t n with h1 | h1
      · exact p4 t t0 h1
      · rw [show t = n by omega]
  · rcases snoc_at hz with ⟨h1, h2⟩ | ⟨h1, rfl⟩
    · exact h.nxt j y z (by rw [List.getElem?_append_left (by omega)]; rw [List.getElem?_append_left (by omega)] at hy; exact hy) (by rw [List.getElem?_append_left h1]; exact h2)
    · exact h.nxt j y (a, n, L n) (by rw [List.getElem?_append_left (by omega)] at hy ⊢; exact hy) (by rw [h1]; exact snoc_last _ _)
theorem PhOk.app {L : Nat → List α} {out : List (Nat × Nat × List α)} {n : Nat} (h : PhOk L out n) (hne : ∀ y, out[out.length - 1]? = some y → y.2.2 ≠ L n) : PhOk L (out ++ [(n, n + 1, L n)]) (n + 1) := by
  refine ⟨fun e => by simp at e, fun j y hy => ?_, fun j y z hy hz => ?_⟩
  · rcases snoc_at hy with ⟨h1, h2⟩ | ⟨rfl, rfl⟩
    · obtain ⟨q1, q2, q3, q4, q5⟩ := h.at_ j y h2
      exact ⟨q1, by omega, q3, q4, fun e => by simp at e; omega⟩
    · refine ⟨by simp, Nat.le_refl _, fun e => h.emp (List.eq_nil_of_length_eq_zero e), fun t t0 t1 => ?_, fun _ => rfl⟩
      simp at t0 t1 ⊢
      rw [show t = n by omega]
  · rcases snoc_at hz with ⟨h1, h2⟩ | ⟨h1, rfl⟩
    · exact h.nxt j y z (by rw [List.getElem?_append_left (by omega)] at hy; exact hy) h2
    · rw [List.getElem?_append_left (by omega)] at hy
      obtain ⟨q1, q2, q3, q4, q5⟩ := h.at_ j y hy
      exact ⟨q5 h1, hne y (by rw [← h1]; exact hy)⟩
end
section
variable {α : Type}
def far_le (x y : Int × Int) : Prop := x.1 * y.2 ≤ y.1 * x.2
/-- the farthest ones: those of the list than whom nobody is farther -/
structure LdOk (f : α → Int × Int) (seen acc : List α) (b : Int × Int) : Prop where
  emp : acc = [] → seen = []
  pos : acc ≠ [] → 0 < b.2
  top : ∀ y ∈ seen, acc ≠ [] → far_le (f y) b
  mem : ∀ x, x ∈ acc ↔ x ∈ seen ∧ far_le b (f x)
end
end Go.Proofs.YtnkhdofcmanipaaGreatDoor

/- The insertion sort: a permutation, ascending; stable where the list stood in a second order. Plain. -/
namespace Go.Proofs.YtnkhdofcmanipaaGreatDoor
open Go.RowKit Go.Sort
set_option linter.unusedVariables false

/-! ## who is farther is first; of equals, whose name is less -/
end Go.Proofs.YtnkhdofcmanipaaGreatDoor
/- slices.Equal over ranks. -/
namespace Go.Proofs.YtnkhdofcmanipaaGreatDoor
open Go.RowKit
set_option linter.unusedVariables false

structure Rk where
  who : ByteArray
  rank : Int
  time : Int
  fault : Int
deriving DecidableEq
def rkE (p : Rk) : List Value := [.string p.who, .int .i64 p.rank, .int .i64 p.time, .int .i64 p.fault]
abbrev RRk (w : World) (A : Option Addr) (n : Nat) (l : List Rk) : Prop := RN 4 rkE 48 w A n l
theorem RRk.at4 {w : World} {A : Option Addr} {n : Nat} {l : List Rk} (h : RRk w A n l) {k : Nat} (hk : k < n) : ∃ b off x, A = some ⟨b, off, none⟩ ∧ b < w.heap.size ∧ l[k]? = some x ∧ w.cell? ⟨b, off + k * 4, none⟩ = some (.string x.who) ∧ w.cell? ⟨b, off + k * 4 + 1, none⟩ = some (.int .i64 x.rank) ∧ w.cell? ⟨b, off + k * 4 + 2, none⟩ = some (.int .i64 x.time) ∧ w.cell? ⟨b, off + k * 4 + 3, none⟩ = some (.int .i64 x.fault) := by
  obtain ⟨b, off, x, hA, hb, hx, hc⟩ := h.at_ hk
  exact ⟨b, off, x, hA, hb, hx, hc 0 _ rfl, hc 1 _ rfl, hc 2 _ rfl, hc 3 _ rfl⟩
end Go.Proofs.YtnkhdofcmanipaaGreatDoor

/- judge.rank: seeds ranked by their times, verdicts told by a map; plain functions and the walk of its sort. -/
namespace Go.Proofs.YtnkhdofcmanipaaGreatDoor
open Go.RowKit Go.Shelf Go.Lib Go.Sort
set_option linter.unusedVariables false

instance : Inhabited Rk := ⟨⟨⟨#[]⟩, 0, 0, 0⟩⟩
theorem rk_set : ∀ (l : List Rk) (k : Nat) (v : Int) (x : Rk), l[k]? = some x →
    (l.flatMap rkE).set (k * 4 + 1) (.int .i64 v) = (l.set k ⟨x.who, v, x.time, x.fault⟩).flatMap rkE
  | [], _, _, _, h => by simp at h
  | x :: l, 0, v, t, h => by
    obtain rfl : x = t := by simpa using h
    simp [rkE]
  | x :: l, k + 1, v, t, h => by
    rw [List.set_cons_succ, List.flatMap_cons, List.flatMap_cons, ← rk_set l k v t (by simpa using h), List.set_append_right _ _ (by show 4 ≤ _; omega)]
    congr 2
    show (k + 1) * 4 + 1 - 4 = _; omega
end Go.Proofs.YtnkhdofcmanipaaGreatDoor

/- Verdicts as data; judge.checkVerdicts; judge.rank: the walk. -/
namespace Go.Proofs.YtnkhdofcmanipaaGreatDoor
open Go.RowKit
open Go.Maps (Keyed string_keyed)
open Go.WideMaps (keyOf_string_mk)
set_option linter.unusedVariables false

structure Vd where
  who : ByteArray
  fault : Int
  A : Option Addr
  n : Nat
  c : Nat
/-- the fault that the last verdict on somebody tells -/
def faultV (v : List Vd) (s : ByteArray) : Int := v.foldl (fun f x => if x.who = s then x.fault else f) 0
def FaultM (D : DataW Unit) (v : List Vd) : Prop := Go.Maps.IsMap D ∧ ∀ s : ByteArray, D.atKey (.string s.data.toList) (.lit (.int .i64 0)) = .lit (.int .i64 (faultV v s))
theorem FaultM.nil : FaultM (.map []) [] := ⟨Go.Maps.isMap_empty, fun s => by rw [atKey_nil]; rfl⟩
structure GB (w : World) (bm q : Nat) (D : DataW Unit) (d : Int) (base : Nat) (u1 u2 : Value) (g b : List Rk) (wx : World) : Prop where
  o1 : wx.ownsRow base 48 4 u1 g.length (g.flatMap rkE)
  o2 : wx.ownsRow base 48 4 u2 b.length (b.flatMap rkE)
  dis : Dis u1 u2
  m : MI wx bm q D
  h5 : wx.heap[w.heap.size]? = some (.cells #[.int .i64 d] 3 (0, 0))
  l1 : w.heap.size < bm
  l2 : bm < base
  l3 : base ≤ wx.heap.size
  bel : Below w.heap.size w wx
section
variable {w wx w' : World} {bm q base : Nat} {D : DataW Unit} {d : Int} {u1 u2 : Value} {g b : List Rk}
theorem GB.below (h : GB w bm q D d base u1 u2 g b wx) (B : Below wx.heap.size wx w') : GB w bm q D d base u1 u2 g b w' :=
  ⟨own_below h.o1 B, own_below h.o2 B, h.dis, h.m.kept (row := none) (grown_of_below B) (by simp), blk_below h.h5 B, h.l1, h.l2, Nat.le_trans h.l3 B.size, below_next h.bel B⟩
theorem GB.turn {v' : Value} {g' : List Rk} (h : GB w bm q D d base u1 u2 g b wx) (ho : w'.ownsRow base 48 4 v' g'.length (g'.flatMap rkE)) (hg : wx.grownBy w' u1.ownBlock) (hat : v'.ownBlock = u1.ownBlock ∨ ∃ p, v'.ownBlock = some p ∧ wx.heap.size ≤ p) : GB w bm q D d base v' u2 g' b w' := by
  have hb : ∀ i, u1.ownBlock = some i → base ≤ i := own_row_lt h.o1
  have hl1 := h.l1
  have hl2 := h.l2
  have hl3 := h.l3
  refine ⟨ho, h.o2.kept hg h.dis.ne, ?_, h.m.kept hg (fun e => by have := hb _ e.symm; omega), blk_grown h.h5 hg (fun e => by have := hb _ e.symm; omega), hl1, hl2, Nat.le_trans hl3 hg.size, below_own h.bel h.o1 hg h.bel.size (by omega)⟩
  intro i h1 h2
  rcases hat with e | ⟨p, e, hp⟩
  · exact h.dis i (e ▸ h1) h2
  · rw [e] at h1
    injection h1 with h1
    have := (h.o2.lt i h2).2
    omega
theorem GB.set {gb n c k : Nat} {x : Rk} (h : GB w bm q D d base (.slice (some ⟨gb, 0, none⟩) n c) u2 g b wx) (hn : g.length = n) (hk : g[k]? = some x) (v : Int) : GB w bm q D d base (.slice (some ⟨gb, 0, none⟩) n c) u2 (g.set k ⟨x.who, v, x.time, x.fault⟩) b (wx.setCell ⟨gb, k * 4 + 1, none⟩ (.int .i64 v)) := by
  subst hn
  have h2 := h.o1.stored (k * 4 + 1) (.int .i64 v)
  rw [rk_set g k v x hk] at h2
  exact h.turn (by rw [List.length_set]; exact h2.1) h2.2 (.inl rfl)
end
end Go.Proofs.YtnkhdofcmanipaaGreatDoor

/- Ranks without verdicts: plain. -/
namespace Go.Proofs.YtnkhdofcmanipaaGreatDoor
open Go.RowKit Go.Shelf Go.Lib Go.Sort
set_option linter.unusedVariables false

end Go.Proofs.YtnkhdofcmanipaaGreatDoor
/- A field as text: the plain law (what is written is read as it was; what is read is written so). -/
namespace Go.Proofs.YtnkhdofcmanipaaGreatDoor
open Go.Lib
set_option linter.unusedVariables false

end Go.Proofs.YtnkhdofcmanipaaGreatDoor

/- Ranks as text: the plain law. -/
namespace Go.Proofs.YtnkhdofcmanipaaGreatDoor
open Go.Lib
set_option linter.unusedVariables false

end Go.Proofs.YtnkhdofcmanipaaGreatDoor
/- Signals as text: the plain law. -/
namespace Go.Proofs.YtnkhdofcmanipaaGreatDoor
open Go.Lib
set_option linter.unusedVariables false

/-- the words of the kinds: start, pad, button, watch -/
def sgWord (k : Int) : List UInt8 := if k = 1 then [115, 116, 97, 114, 116] else if k = 2 then [112, 97, 100] else if k = 3 then [98, 117, 116, 116, 111, 110] else [119, 97, 116, 99, 104]
def sgKind (w : List UInt8) : Int := if w = [115, 116, 97, 114, 116] then 1 else if w = [112, 97, 100] then 2 else if w = [98, 117, 116, 116, 111, 110] then 3 else if w = [119, 97, 116, 99, 104] then 4 else 0
def sgWs (x : Sg) : List (List UInt8) := [x.dev.data.toList, itoa x.no, sgWord x.kind, itoa x.tm, itoa x.lane] ++ if x.kind = 4 then [itoa x.time] else []
/-- a line of signals, without its end -/
def sgLine (x : Sg) : List UInt8 := join (sgWs x) [32]
def sgFin (d : List UInt8) (k : Int) (ns : Option (List Int)) : Option Sg := match ns with
  | some [a, b, c] => if 1 ≤ k ∧ k ≠ 4 then some ⟨⟨d.toArray⟩, a, k, b, c, 0⟩ else none
  | some [a, b, c, t] => if k = 4 then some ⟨⟨d.toArray⟩, a, k, b, c, t⟩ else none
  | _ => none
def sgParse (a : List UInt8) : Option Sg := if [] ∈ spl 32 a then none else match spl 32 a with
  | d :: n :: k :: p :: q :: r => sgFin d (sgKind k) (numsP (n :: p :: q :: r) 12)
  | _ => none
def sgText (l : List Sg) : List UInt8 := l.flatMap fun x => sgLine x ++ [10]
theorem sgKind_word {k : Int} (h1 : 1 ≤ k) (h2 : k ≤ 4) : sgKind (sgWord k) = k := by
  have h : k = 1 ∨ k = 2 ∨ k = 3 ∨ k = 4 := by omega
  rcases h with rfl | rfl | rfl | rfl <;> decide
theorem sgWord_kind {w : List UInt8} (h : 1 ≤ sgKind w) : sgWord (sgKind w) = w ∧ sgKind w ≤ 4 := by
  unfold sgKind at *
  split
  · rename_i e; rw [e]; decide
  · split
    · rename_i e; rw [e]; decide
    · split
      · rename_i e; rw [e]; decide
      · split
        · rename_i e; rw [e]; decide
        · rename_i a b c d; rw [if_neg a, if_neg b, if_neg c, if_neg d] at h; exact absurd h (by decide)
/-- what a signal must be to be read as it was -/
structure SgT (x : Sg) : Prop where
  key : keyB x.dev = true
  k1 : 1 ≤ x.kind
  k2 : x.kind ≤ 4
  no : x.no.natAbs < 10 ^ 12
  tm : x.tm.natAbs < 10 ^ 12
  lane : x.lane.natAbs < 10 ^ 12
  time : x.time.natAbs < 10 ^ 12
  t0 : x.kind ≠ 4 → x.time = 0
end Go.Proofs.YtnkhdofcmanipaaGreatDoor
