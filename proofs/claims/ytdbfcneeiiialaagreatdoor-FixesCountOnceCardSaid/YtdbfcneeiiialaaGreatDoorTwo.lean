/- Two rows of int of the call's own, side by side, beside a stream and a race in a cell. Over any program. -/
import Derived.Test.YtdbfcneeiiialaaGreatDoorStructs
import Derived.Test.YtdbfcneeiiialaaGreatDoorStream
import Derived.Maps.AppendAt
namespace Go.Proofs.YtdbfcneeiiialaaGreatDoor
open Go.RowKit
set_option linter.unusedVariables false

section
variable {P : Program} {w : World}
/-- append of one element, with the new row's whereabouts -/
theorem wpList_appAt {ops : Array Oper} {rest : List Oper} {o : Oper} {a : Act} {Q : Exit → Act → World → Prop} (hgd : o.guard = none) (s x : Operand) (t : TypeId)
    (ho : o.op = .call { callee := .builtin .append, args := #[s, x], argTypes := #[t, t] })
    {e : TypeId} {z : Value} {size bytes : Nat} (ht : P.underlying t = some (.slice e)) (hinfo : (P.info? e).map (fun i => (i.zero, i.size, i.bytes)) = some (some z, size, bytes))
    (hzs : z.cells.size = size) (hsz : 0 < size) (hby : bytes ≤ 1024)
    {base : Nat} {v : Value} {n : Nat} {xs : List Value} (hown : w.ownsRow base e size v n xs) (hs : a.eval s = v)
    {cs : Array Value} {b c : Nat} (hx : a.eval x = .slice (some ⟨b, 0, none⟩) 1 c) (hb : w.heap.size = b)
    (hcs : cs.size = size) (h1 : ∀ u ∈ cs.toList, u.oneCell' = true) (hn : n ≤ 1000000) (hbase : base ≤ w.heap.size)
    (h : ∀ v' w', w'.ownsRow base e size v' (n + 1) (xs ++ cs.toList) → w.grownBy w' v.ownBlock → (v'.ownBlock = v.ownBlock ∨ ∃ q, v'.ownBlock = some q ∧ w.heap.size ≤ q) → wpList P ops Q rest (a.put o.dst v') w') :
    wpList P ops Q (o :: rest) a (w.alloc (.cells cs e)) := by
  subst hb
  obtain ⟨i, hi, hz0, hz1, hz2⟩ := info_parts hinfo
  have hm : (n + 1) * bytes ≤ 1000001 * 1024 := Nat.mul_le_mul (by omega) hby
  refine wpList_append_own_at (w.alloc (.cells cs e)) hgd s x t ho base e i z size bytes ht hi hz0 hz1 hz2 hzs hsz v n xs hs (hown.alloc _) ⟨w.heap.size, 0, none⟩ 1 c cs.toList hx ?_ ?_ h1 ?_ ?_ ?_ ?_
  · simp [hcs]
  · intro j u hj
    have hadd : (⟨w.heap.size, 0, none⟩ : Addr).add j = ⟨w.heap.size, j, none⟩ := by unfold Addr.add; split <;> simp_all
    rw [hadd]
    exact blk_cell (heap_alloc_new w _) j (by simpa using hj)
  · unfold maxLen; omega
  · omega
  · simp; omega
  · intro v' w' hown' hg _ hat
    have hsize : (w.alloc (.cells cs e)).heap.size = w.heap.size + 1 := by simp
    refine h v' w' hown' ?_ ?_
    · exact ⟨hg.os, hg.tape, hg.output, by have := hg.size; omega, fun k hk hne => (hg.block k (by omega) hne).trans (Below.heap_alloc w _ k hk)⟩
    · rcases hat with h1 | h1
      · exact .inl h1
      · exact .inr ⟨_, h1, by omega⟩
end

def Dis (v1 v2 : Value) : Prop := ∀ i, v1.ownBlock = some i → v2.ownBlock = some i → False
theorem Dis.symm {v1 v2 : Value} (h : Dis v1 v2) : Dis v2 v1 := fun i h1 h2 => h i h2 h1
theorem Dis.ne {v1 v2 : Value} (h : Dis v1 v2) : v2.ownBlock = none ∨ v2.ownBlock ≠ v1.ownBlock := by
  cases hv : v2.ownBlock with
  | none => exact .inl rfl
  | some i => exact .inr (fun e => h i e.symm hv)
structure D3 (w : World) (b4 base : Nat) (cs : Array Value) (zs : Zs) (u1 u2 : Value) (n1 n2 : Nat) (l1 l2 : List Int) (k : Nat) (wx : World) : Prop where
  o1 : wx.ownsRow base 3 1 u1 n1 (ints l1)
  o2 : wx.ownsRow base 3 1 u2 n2 (ints l2)
  dis : Dis u1 u2
  st : St wx w.heap.size zs k
  rc : wx.heap[b4]? = some (.cells cs 51 (0, 0))
  b4l : b4 < base
  gl : w.heap.size < base
  bs : base ≤ wx.heap.size
  bel : Below w.heap.size w wx

section
variable {w wx w' : World} {b4 base : Nat} {cs : Array Value} {zs : Zs} {u1 u2 : Value} {n1 n2 : Nat} {l1 l2 : List Int} {k : Nat}
theorem D3.len1 (h : D3 w b4 base cs zs u1 u2 n1 n2 l1 l2 k wx) : l1.length = n1 := by have := h.o1.1; rw [ints_len] at this; omega
theorem D3.len2 (h : D3 w b4 base cs zs u1 u2 n1 n2 l1 l2 k wx) : l2.length = n2 := by have := h.o2.1; rw [ints_len] at this; omega
theorem D3.below (h : D3 w b4 base cs zs u1 u2 n1 n2 l1 l2 k wx) (B : Below wx.heap.size wx w') : D3 w b4 base cs zs u1 u2 n1 n2 l1 l2 k w' :=
  ⟨own_below h.o1 B, own_below h.o2 B, h.dis, h.st.below B, blk_below h.rc B, h.b4l, h.gl, Nat.le_trans h.bs B.size, below_next h.bel B⟩
theorem D3.alloc (h : D3 w b4 base cs zs u1 u2 n1 n2 l1 l2 k wx) (o : Obj) : D3 w b4 base cs zs u1 u2 n1 n2 l1 l2 k (wx.alloc o) := h.below (below_new wx o)
theorem D3.drewN (h : D3 w b4 base cs zs u1 u2 n1 n2 l1 l2 k wx) (q : Nat) : D3 w b4 base cs zs u1 u2 n1 n2 l1 l2 k (wx.drewN q) := h.below (below_drewN (Below.refl _ _) q)
theorem D3.drew (h : D3 w b4 base cs zs u1 u2 n1 n2 l1 l2 k wx) : D3 w b4 base cs zs u1 u2 n1 n2 l1 l2 k wx.drew := ⟨h.o1, h.o2, h.dis, h.st, h.rc, h.b4l, h.gl, h.bs, ⟨h.bel.os, h.bel.tape, h.bel.output, h.bel.size, h.bel.block⟩⟩
theorem D3.stream {k' : Nat} (h : D3 w b4 base cs zs u1 u2 n1 n2 l1 l2 k wx) (hs : St w' w.heap.size zs k') (hg : wx.grownBy w' (some w.heap.size)) : D3 w b4 base cs zs u1 u2 n1 n2 l1 l2 k' w' :=
  ⟨own_keep h.o1 h.gl hg, own_keep h.o2 h.gl hg, h.dis, hs, h.st.keep hg b4 cs _ (0, 0) (by decide) h.rc, h.b4l, h.gl, Nat.le_trans h.bs hg.size, h.bel.trans (grown_below hg (Nat.le_refl _) h.bel.size)⟩
theorem D3.flip (h : D3 w b4 base cs zs u1 u2 n1 n2 l1 l2 k wx) : D3 w b4 base cs zs u2 u1 n2 n1 l2 l1 k wx := ⟨h.o2, h.o1, h.dis.symm, h.st, h.rc, h.b4l, h.gl, h.bs, h.bel⟩
theorem D3.app1 {v' : Value} {m : Nat} {l' : List Int} (h : D3 w b4 base cs zs u1 u2 n1 n2 l1 l2 k wx) (ho : w'.ownsRow base 3 1 v' m (ints l')) (hg : wx.grownBy w' u1.ownBlock) (hat : v'.ownBlock = u1.ownBlock ∨ ∃ q, v'.ownBlock = some q ∧ wx.heap.size ≤ q) : D3 w b4 base cs zs v' u2 m n2 l' l2 k w' := by
  have hb : ∀ i, u1.ownBlock = some i → base ≤ i := own_row_lt h.o1
  refine ⟨ho, h.o2.kept hg h.dis.ne, ?_, h.st.grown hg (fun i hi => by have := hb i hi; have := h.gl; omega), blk_grown h.rc hg (fun e => by have := hb _ e.symm; have := h.b4l; omega), h.b4l, h.gl, Nat.le_trans h.bs hg.size, below_own h.bel h.o1 hg h.bel.size (Nat.le_of_lt h.gl)⟩
  intro i h1 h2
  rcases hat with e | ⟨q, e, hq⟩
  · exact h.dis i (e ▸ h1) h2
  · rw [e] at h1
    injection h1 with h1
    have := (h.o2.lt i h2).2
    omega
theorem D3.app2 {v' : Value} {m : Nat} {l' : List Int} (h : D3 w b4 base cs zs u1 u2 n1 n2 l1 l2 k wx) (ho : w'.ownsRow base 3 1 v' m (ints l')) (hg : wx.grownBy w' u2.ownBlock) (hat : v'.ownBlock = u2.ownBlock ∨ ∃ q, v'.ownBlock = some q ∧ wx.heap.size ≤ q) : D3 w b4 base cs zs u1 v' n1 m l1 l' k w' := (h.flip.app1 ho hg hat).flip
theorem D3.cell1 {b c j : Nat} (h : D3 w b4 base cs zs (.slice (some ⟨b, 0, none⟩) n1 c) u2 n1 n2 l1 l2 k wx) (hj : j < n1) : ∃ x : Int, l1[j]? = some x ∧ wx.cell? ⟨b, j, none⟩ = some (.int .i64 x) := by
  obtain ⟨x, hx⟩ := at_of_lt (l := l1) (k := j) (by rw [h.len1]; exact hj)
  refine ⟨x, hx, ?_⟩
  rw [h.o1.cellAt _ (by omega), ints_at, hx]; rfl
theorem D3.cell2 {b c j : Nat} (h : D3 w b4 base cs zs u1 (.slice (some ⟨b, 0, none⟩) n2 c) n1 n2 l1 l2 k wx) (hj : j < n2) : ∃ x : Int, l2[j]? = some x ∧ wx.cell? ⟨b, j, none⟩ = some (.int .i64 x) := h.flip.cell1 hj
theorem D3.lt1 {b c : Nat} (h : D3 w b4 base cs zs (.slice (some ⟨b, 0, none⟩) n1 c) u2 n1 n2 l1 l2 k wx) : b < wx.heap.size := (h.o1.lt b rfl).2
theorem D3.lt2 {b c : Nat} (h : D3 w b4 base cs zs u1 (.slice (some ⟨b, 0, none⟩) n2 c) n1 n2 l1 l2 k wx) : b < wx.heap.size := (h.o2.lt b rfl).2
/-- the first m of an own row -/
theorem own_prefix {b n c m : Nat} {l : List Int} (h : wx.ownsRow base 3 1 (.slice (some ⟨b, 0, none⟩) n c) n (ints l)) (hm : m ≤ n) : wx.ownsRow base 3 1 (.slice (some ⟨b, 0, none⟩) m c) m (ints (l.take m)) := by
  rcases h with ⟨h1, ⟨h2, _⟩ | ⟨g, cap, cur, hv, h3, h4, h5, h6, h7, h8⟩⟩
  · cases h2
  · injection hv with e1 e2 e3
    injection e1 with e1
    injection e1 with e1 _ _
    subst e1
    subst e3
    refine ⟨by rw [ints_len] at h1 ⊢; rw [List.length_take]; omega, .inr ⟨b, c, cur, rfl, h3, h4, by omega, h6, h7, ?_⟩⟩
    unfold ints at h8 ⊢
    rw [List.map_take, ← h8, List.take_take]
    congr 1
    omega
theorem D3.cut {b1 c1 b2 c2 m1 m2 : Nat} (h : D3 w b4 base cs zs (.slice (some ⟨b1, 0, none⟩) n1 c1) (.slice (some ⟨b2, 0, none⟩) n2 c2) n1 n2 l1 l2 k wx) (h1 : m1 ≤ n1) (h2 : m2 ≤ n2) : D3 w b4 base cs zs (.slice (some ⟨b1, 0, none⟩) m1 c1) (.slice (some ⟨b2, 0, none⟩) m2 c2) m1 m2 (l1.take m1) (l2.take m2) k wx :=
  ⟨own_prefix h.o1 h1, own_prefix h.o2 h2, h.dis, h.st, h.rc, h.b4l, h.gl, h.bs, h.bel⟩
theorem ints_set (l : List Int) (j : Nat) (x : Int) : (ints l).set j (.int .i64 x) = ints (l.set j x) := by
  unfold ints; rw [List.map_set]
theorem D3.set1 {b c j : Nat} (h : D3 w b4 base cs zs (.slice (some ⟨b, 0, none⟩) n1 c) u2 n1 n2 l1 l2 k wx) (x : Int) : D3 w b4 base cs zs (.slice (some ⟨b, 0, none⟩) n1 c) u2 n1 n2 (l1.set j x) l2 k (wx.setCell ⟨b, j, none⟩ (.int .i64 x)) := by
  have h2 := h.o1.stored j (.int .i64 x)
  rw [ints_set] at h2
  exact h.app1 h2.1 h2.2 (.inl rfl)
theorem D3.set2 {b c j : Nat} (h : D3 w b4 base cs zs u1 (.slice (some ⟨b, 0, none⟩) n2 c) n1 n2 l1 l2 k wx) (x : Int) : D3 w b4 base cs zs u1 (.slice (some ⟨b, 0, none⟩) n2 c) n1 n2 l1 (l2.set j x) k (wx.setCell ⟨b, j, none⟩ (.int .i64 x)) := (h.flip.set1 x).flip
theorem D3.shape1 (h : D3 w b4 base cs zs u1 u2 n1 n2 l1 l2 k wx) (hn : 1 ≤ n1) : ∃ b c, u1 = .slice (some ⟨b, 0, none⟩) n1 c ∧ b < wx.heap.size ∧ n1 ≤ c ∧ c ≤ maxLen := by
  rcases h.o1.2 with ⟨_, h2⟩ | ⟨g, cap, cur, hv, _, h4, h5, h6, _⟩
  · omega
  · exact ⟨g, cap, hv, lt_of_heap h4, h5, h6⟩
theorem D3.shape2 (h : D3 w b4 base cs zs u1 u2 n1 n2 l1 l2 k wx) (hn : 1 ≤ n2) : ∃ b c, u2 = .slice (some ⟨b, 0, none⟩) n2 c ∧ b < wx.heap.size ∧ n2 ≤ c ∧ c ≤ maxLen := h.flip.shape1 hn
def slLen : Value → Nat
  | .slice _ n _ => n
  | _ => 0
theorem D3.r1 {A : Option Addr} {c : Nat} (h : D3 w b4 base cs zs (.slice A n1 c) u2 n1 n2 l1 l2 k wx) (hn : n1 ≤ 1000) : RI 3 wx A n1 l1 := R1.of_own h.o1 (le_big hn)
theorem D3.r2 {A : Option Addr} {c : Nat} (h : D3 w b4 base cs zs u1 (.slice A n2 c) n1 n2 l1 l2 k wx) (hn : n2 ≤ 1000) : RI 3 wx A n2 l2 := R1.of_own h.o2 (le_big hn)
theorem D3.fresh (hc : wx.heap[b4]? = some (.cells cs 51 (0, 0))) (hs : St wx w.heap.size zs k) (hb : Below w.heap.size w wx) : D3 w b4 wx.heap.size cs zs (.slice none 0 0) (.slice none 0 0) 0 0 [] [] k wx :=
  ⟨World.ownsRow_nil _ _ _ _, World.ownsRow_nil _ _ _ _, fun i h => by simp [Value.ownBlock] at h, hs, hc, lt_of_heap hc, hs.lt, Nat.le_refl _, hb⟩
end
end Go.Proofs.YtdbfcneeiiialaaGreatDoor
