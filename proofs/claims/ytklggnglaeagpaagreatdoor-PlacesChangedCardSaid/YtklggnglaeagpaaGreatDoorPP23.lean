import Derived.Test.YtklggnglaeagpaaGreatDoorPStructs
import Derived.Laws.AppendOwnNone
import Derived.Test.YtklggnglaeagpaaGreatDoorProg
import Derived.BigGuardPart
import Derived.Laws.StructEq
import Derived.Test.YtklggnglaeagpaaGreatDoorPSortR
import Derived.Test.YtklggnglaeagpaaGreatDoorPSeedM
import Derived.Test.YtklggnglaeagpaaGreatDoorPSortSt
import Derived.Test.YtklggnglaeagpaaGreatDoorPRegAp
/- append of a slice that was read (nil, empty or not) onto a row of the call's own. Over any program. -/
namespace Go.Proofs.YtklggnglaeagpaaGreatDoor
open Go.RowKit
set_option linter.unusedVariables false

theorem add_flat (b o j : Nat) : (⟨b, o, none⟩ : Addr).add j = ⟨b, o + j, none⟩ := by unfold Addr.add; split <;> simp_all
section
variable {P : Program} {w : World}
/-- `v = append(v, l...)` -/
theorem wpList_appR {ops : Array Oper} {rest : List Oper} {o : Oper} {a : Act} {Q : Exit → Act → World → Prop} (hgd : o.guard = none) (s x : Operand) (t : TypeId)
    (ho : o.op = .call { callee := .builtin .append, args := #[s, x], argTypes := #[t, t] })
    {e : TypeId} {z : Value} {size bytes : Nat} (ht : P.underlying t = some (.slice e)) (hinfo : (P.info? e).map (fun i => (i.zero, i.size, i.bytes)) = some (some z, size, bytes))
    (hzs : z.cells.size = size) (hsz : 0 < size) (hby : bytes ≤ 1024)
    {base : Nat} {v : Value} {n : Nat} {xs : List Value} (hown : w.ownsRow base e size v n xs) (hs : a.eval s = v)
    {A : Option Addr} {m c : Nat} {news : List Value} (hA : A = none → c = 0) (hr : 0 < m → ∃ b off, A = some ⟨b, off, none⟩ ∧ ∀ j u, news[j]? = some u → w.cell? ⟨b, off + j, none⟩ = some u)
    (hx : a.eval x = .slice A m c) (hl : news.length = m * size) (h1 : ∀ u ∈ news, u.oneCell' = true) (hn : n + m ≤ 1000000) (hbase : base ≤ w.heap.size)
    (h : ∀ v' w', w'.ownsRow base e size v' (n + m) (xs ++ news) → w.grownBy w' v.ownBlock → wpList P ops Q rest (a.put o.dst v') w') :
    wpList P ops Q (o :: rest) a w := by
  obtain ⟨i, hi, hz0, hz1, hz2⟩ := info_parts hinfo
  rcases A with _ | ad
  · obtain rfl := hA rfl
    have hm : m = 0 := by
      rcases Nat.eq_zero_or_pos m with h0 | hp
      · exact h0
      · obtain ⟨b, off, e, _⟩ := hr hp; cases e
    subst hm
    obtain rfl : news = [] := List.eq_nil_of_length_eq_zero (by simpa using hl)
    refine wpList_append_own_none hgd s x t ho base e i size ht hi v n xs hs hown hx (h v w (by simpa using hown) (World.grownBy.refl w _))
  · have hm : (n + m) * bytes ≤ 1000000 * 1024 := Nat.mul_le_mul hn hby
    refine wpList_append_own w hgd s x t ho base e i z size bytes ht hi hz0 hz1 hz2 hzs hsz v n xs hs hown ad m c news hx hl ?_ h1 (by unfold maxLen; omega) (by omega) hbase (fun v' w' h1 h2 _ => h v' w' h1 h2)
    intro j u hj
    have hp : 0 < m := by
      rcases Nat.eq_zero_or_pos m with h0 | hp
      · subst h0
        obtain rfl : news = [] := List.eq_nil_of_length_eq_zero (by simpa using hl)
        simp at hj
      · exact hp
    obtain ⟨b, off, e, hc⟩ := hr hp
    injection e with e
    subst e
    rw [add_flat]
    exact hc j u hj
end
end Go.Proofs.YtklggnglaeagpaaGreatDoor
/- slices.Equal over ranks. -/
namespace Go.Proofs.YtklggnglaeagpaaGreatDoor
open Go.RowKit
set_option linter.unusedVariables false

theorem str_ne {a b : ByteArray} (h : a ≠ b) : (a.toList == b.toList) = false := by
  rw [beq_eq_false_iff_ne, ByteArray.toList_eq, ByteArray.toList_eq]
  intro e
  exact h (by cases a; cases b; congr 1; exact Array.toList_inj.mp e)
structure Rk where
  who : ByteArray
  rank : Int
  time : Int
  fault : Int
deriving DecidableEq
def rkE (p : Rk) : List Value := [.string p.who, .int .i64 p.rank, .int .i64 p.time, .int .i64 p.fault]
end Go.Proofs.YtklggnglaeagpaaGreatDoor

/- judge.rank: seeds ranked by their times, verdicts told by a map; plain functions and the walk of its sort. -/
namespace Go.Proofs.YtklggnglaeagpaaGreatDoor
open Go.RowKit Go.Shelf Go.Lib Go.Sort
set_option linter.unusedVariables false

instance : Inhabited Rk := ⟨⟨⟨#[]⟩, 0, 0, 0⟩⟩
theorem rk_set : ∀ (l : List Rk) (k : Nat) (v : Int) (x : Rk), l[k]? = some x →
    (l.flatMap rkE).set (k * 4 + 1) (.int .i64 v) = (l.set k ⟨x.who, v, x.time, x.fault⟩).flatMap rkE
  | [], _, _, _, h => by simp at h
  | x :: l, 0, v, t, h => by
    obtain rfl : x = t := by simpa using h
    simp [rkE]
  | x :: l, k + 1, v, t, h => by
    rw [List.set_cons_succ, List.flatMap_cons, List.flatMap_cons, ← rk_set l k v t (by simpa using h), List.set_append_right _ _ (by show 4 ≤ _; omega)]
    congr 2
    show (k + 1) * 4 + 1 - 4 = _; omega
end Go.Proofs.YtklggnglaeagpaaGreatDoor

/- Verdicts as data; judge.checkVerdicts; judge.rank: the walk. -/
namespace Go.Proofs.YtklggnglaeagpaaGreatDoor
open Go.RowKit
open Go.Maps (Keyed string_keyed)
open Go.WideMaps (keyOf_string_mk)
set_option linter.unusedVariables false

structure Vd where
  who : ByteArray
  fault : Int
  A : Option Addr
  n : Nat
  c : Nat
/-- the fault that the last verdict on somebody tells -/
def faultV (v : List Vd) (s : ByteArray) : Int := v.foldl (fun f x => if x.who = s then x.fault else f) 0
def FaultM (D : DataW Unit) (v : List Vd) : Prop := Go.Maps.IsMap D ∧ ∀ s : ByteArray, D.atKey (.string s.data.toList) (.lit (.int .i64 0)) = .lit (.int .i64 (faultV v s))
theorem FaultM.nil : FaultM (.map []) [] := ⟨Go.Maps.isMap_empty, fun s => by rw [atKey_nil]; rfl⟩
theorem FaultM.snoc {D : DataW Unit} {v : List Vd} (h : FaultM D v) (x : Vd) : FaultM (D.put (.string x.who.data.toList) (.lit (.int .i64 x.fault))) (v ++ [x]) := by
  refine ⟨h.1.put _ _, fun t => ?_⟩
  have e : faultV (v ++ [x]) t = if x.who = t then x.fault else faultV v t := by unfold faultV; rw [List.foldl_append]; rfl
  rw [e]
  by_cases e2 : x.who = t
  · subst e2
    rw [Go.Maps.atKey_put_same h.1 (by trivial), if_pos rfl]
  · rw [Go.Maps.atKey_put_other (by intro e3; injection e3 with e3; exact e2 (bytes_inj e3).symm), h.2 t, if_neg e2]
structure GB (w : World) (bm q : Nat) (D : DataW Unit) (d : Int) (base : Nat) (u1 u2 : Value) (g b : List Rk) (wx : World) : Prop where
  o1 : wx.ownsRow base 48 4 u1 g.length (g.flatMap rkE)
  o2 : wx.ownsRow base 48 4 u2 b.length (b.flatMap rkE)
  dis : Dis u1 u2
  m : MI wx bm q D
  h5 : wx.heap[w.heap.size]? = some (.cells #[.int .i64 d] 3 (0, 0))
  l1 : w.heap.size < bm
  l2 : bm < base
  l3 : base ≤ wx.heap.size
  bel : Below w.heap.size w wx
section
variable {w wx w' : World} {bm q base : Nat} {D : DataW Unit} {d : Int} {u1 u2 : Value} {g b : List Rk}
theorem GB.below (h : GB w bm q D d base u1 u2 g b wx) (B : Below wx.heap.size wx w') : GB w bm q D d base u1 u2 g b w' :=
  ⟨own_below h.o1 B, own_below h.o2 B, h.dis, h.m.kept (row := none) (grown_of_below B) (by simp), blk_below h.h5 B, h.l1, h.l2, Nat.le_trans h.l3 B.size, below_next h.bel B⟩
theorem GB.turn {v' : Value} {g' : List Rk} (h : GB w bm q D d base u1 u2 g b wx) (ho : w'.ownsRow base 48 4 v' g'.length (g'.flatMap rkE)) (hg : wx.grownBy w' u1.ownBlock) (hat : v'.ownBlock = u1.ownBlock ∨ ∃ p, v'.ownBlock = some p ∧ wx.heap.size ≤ p) : GB w bm q D d base v' u2 g' b w' := by
  have hb : ∀ i, u1.ownBlock = some i → base ≤ i := own_row_lt h.o1
  have hl1 := h.l1
  have hl2 := h.l2
  have hl3 := h.l3
  refine ⟨ho, h.o2.kept hg h.dis.ne, ?_, h.m.kept hg (fun e => by have := hb _ e.symm; omega), blk_grown h.h5 hg (fun e => by have := hb _ e.symm; omega), hl1, hl2, Nat.le_trans hl3 hg.size, below_own h.bel h.o1 hg h.bel.size (by omega)⟩
  intro i h1 h2
  rcases hat with e | ⟨p, e, hp⟩
  · exact h.dis i (e ▸ h1) h2
  · rw [e] at h1
    injection h1 with h1
    have := (h.o2.lt i h2).2
    omega
theorem GB.set {gb n c k : Nat} {x : Rk} (h : GB w bm q D d base (.slice (some ⟨gb, 0, none⟩) n c) u2 g b wx) (hn : g.length = n) (hk : g[k]? = some x) (v : Int) : GB w bm q D d base (.slice (some ⟨gb, 0, none⟩) n c) u2 (g.set k ⟨x.who, v, x.time, x.fault⟩) b (wx.setCell ⟨gb, k * 4 + 1, none⟩ (.int .i64 v)) := by
  subst hn
  have h2 := h.o1.stored (k * 4 + 1) (.int .i64 v)
  rw [rk_set g k v x hk] at h2
  exact h.turn (by rw [List.length_set]; exact h2.1) h2.2 (.inl rfl)
end
theorem seedGo_ok : ∀ (l : List Sd) (seen : List ByteArray) (tw : Bool), seedGo seen tw l = 0 → ∀ x ∈ l, keyB x.who = true ∧ 0 ≤ x.time ∧ x.time ≤ 360000
  | [], _, _, _, x, hx => by cases hx
  | y :: l, seen, tw, h, x, hx => by
    unfold seedGo at h
    cases hk : keyB y.who
    · rw [hk] at h; simp at h
    · rw [hk, if_neg (by simp)] at h
      by_cases ht : 0 ≤ y.time ∧ y.time ≤ 360000
      · rw [if_neg (by simpa using ht)] at h
        rcases List.mem_cons.1 hx with rfl | hx
        · exact ⟨hk, ht⟩
        · exact seedGo_ok l _ _ h x hx
      · rw [if_pos ht] at h; simp at h
theorem seedErr_ok {l : List Sd} (h : seedErr l = 0) : l.length ≤ 300 ∧ ∀ x ∈ l, keyB x.who = true ∧ 0 ≤ x.time ∧ x.time ≤ 360000 := by
  unfold seedErr at h
  by_cases hb : 300 < l.length
  · rw [if_pos hb] at h; simp at h
  · rw [if_neg hb] at h; exact ⟨by omega, seedGo_ok l _ _ h⟩
end Go.Proofs.YtklggnglaeagpaaGreatDoor

/- Ranks without verdicts: plain. -/
namespace Go.Proofs.YtklggnglaeagpaaGreatDoor
open Go.RowKit Go.Shelf Go.Lib Go.Sort
set_option linter.unusedVariables false

end Go.Proofs.YtklggnglaeagpaaGreatDoor
