/- Two rows of int of the call's own, side by side, beside a stream and a race in a cell. Over any program. -/
import Derived.Test.YtjafcnblgeibpaaGreatDoorStructs
import Derived.Test.YtjafcnblgeibpaaGreatDoorStream
import Derived.Maps.AppendAt
namespace Go.Proofs.YtjafcnblgeibpaaGreatDoor
open Go.RowKit
set_option linter.unusedVariables false

section
variable {P : Program} {w : World}
/-- append of one element, with the new row's whereabouts -/
theorem wpList_appAt {ops : Array Oper} {rest : List Oper} {o : Oper} {a : Act} {Q : Exit → Act → World → Prop} (hgd : o.guard = none) (s x : Operand) (t : TypeId)
    (ho : o.op = .call { callee := .builtin .append, args := #[s, x], argTypes := #[t, t] })
    {e : TypeId} {z : Value} {size bytes : Nat} (ht : P.underlying t = some (.slice e)) (hinfo : (P.info? e).map (fun i => (i.zero, i.size, i.bytes)) = some (some z, size, bytes))
    (hzs : z.cells.size = size) (hsz : 0 < size) (hby : bytes ≤ 1024)
    {base : Nat} {v : Value} {n : Nat} {xs : List Value} (hown : w.ownsRow base e size v n xs) (hs : a.eval s = v)
    {cs : Array Value} {b c : Nat} (hx : a.eval x = .slice (some ⟨b, 0, none⟩) 1 c) (hb : w.heap.size = b)
    (hcs : cs.size = size) (h1 : ∀ u ∈ cs.toList, u.oneCell' = true) (hn : n ≤ 1000000) (hbase : base ≤ w.heap.size)
    (h : ∀ v' w', w'.ownsRow base e size v' (n + 1) (xs ++ cs.toList) → w.grownBy w' v.ownBlock → (v'.ownBlock = v.ownBlock ∨ ∃ q, v'.ownBlock = some q ∧ w.heap.size ≤ q) → wpList P ops Q rest (a.put o.dst v') w') :
    wpList P ops Q (o :: rest) a (w.alloc (.cells cs e)) := by
  subst hb
  obtain ⟨i, hi, hz0, hz1, hz2⟩ := info_parts hinfo
  have hm : (n + 1) * bytes ≤ 1000001 * 1024 := Nat.mul_le_mul (by omega) hby
  refine wpList_append_own_at (w.alloc (.cells cs e)) hgd s x t ho base e i z size bytes ht hi hz0 hz1 hz2 hzs hsz v n xs hs (hown.alloc _) ⟨w.heap.size, 0, none⟩ 1 c cs.toList hx ?_ ?_ h1 ?_ ?_ ?_ ?_
  · simp [hcs]
  · intro j u hj
    have hadd : (⟨w.heap.size, 0, none⟩ : Addr).add j = ⟨w.heap.size, j, none⟩ := by unfold Addr.add; split <;> simp_all
    rw [hadd]
    exact blk_cell (heap_alloc_new w _) j (by simpa using hj)
  · unfold maxLen; omega
  · omega
  · simp; omega
  · intro v' w' hown' hg _ hat
    have hsize : (w.alloc (.cells cs e)).heap.size = w.heap.size + 1 := by simp
    refine h v' w' hown' ?_ ?_
    · exact ⟨hg.os, hg.tape, hg.output, by have := hg.size; omega, fun k hk hne => (hg.block k (by omega) hne).trans (Below.heap_alloc w _ k hk)⟩
    · rcases hat with h1 | h1
      · exact .inl h1
      · exact .inr ⟨_, h1, by omega⟩
end

def Dis (v1 v2 : Value) : Prop := ∀ i, v1.ownBlock = some i → v2.ownBlock = some i → False
theorem Dis.symm {v1 v2 : Value} (h : Dis v1 v2) : Dis v2 v1 := fun i h1 h2 => h i h2 h1
theorem Dis.ne {v1 v2 : Value} (h : Dis v1 v2) : v2.ownBlock = none ∨ v2.ownBlock ≠ v1.ownBlock := by
  cases hv : v2.ownBlock with
  | none => exact .inl rfl
  | some i => exact .inr (fun e => h i e.symm hv)
section
variable {w wx w' : World} {b4 base : Nat} {cs : Array Value} {zs : List Int} {u1 u2 : Value} {n1 n2 : Nat} {l1 l2 : List Int} {k : Nat}
/-- the first m of an own row -/
theorem own_prefix {b n c m : Nat} {l : List Int} (h : wx.ownsRow base 3 1 (.slice (some ⟨b, 0, none⟩) n c) n (ints l)) (hm : m ≤ n) : wx.ownsRow base 3 1 (.slice (some ⟨b, 0, none⟩) m c) m (ints (l.take m)) := by
  rcases h with ⟨h1, ⟨h2, _⟩ | ⟨g, cap, cur, hv, h3, h4, h5, h6, h7, h8⟩⟩
  · cases h2
  · injection hv with e1 e2 e3
    injection e1 with e1
    injection e1 with e1 _ _
    subst e1
    subst e3
    refine ⟨by rw [ints_len] at h1 ⊢; rw [List.length_take]; omega, .inr ⟨b, c, cur, rfl, h3, h4, by omega, h6, h7, ?_⟩⟩
    unfold ints at h8 ⊢
    rw [List.map_take, ← h8, List.take_take]
    congr 1
    omega
theorem ints_set (l : List Int) (j : Nat) (x : Int) : (ints l).set j (.int .i64 x) = ints (l.set j x) := by
  unfold ints; rw [List.map_set]
def slLen : Value → Nat
  | .slice _ n _ => n
  | _ => 0
end
end Go.Proofs.YtjafcnblgeibpaaGreatDoor
