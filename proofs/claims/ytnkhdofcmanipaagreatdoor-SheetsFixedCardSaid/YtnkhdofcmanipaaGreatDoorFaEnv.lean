/- Worlds while the stream is read: the stream's block, one or two blocks of the call's own that are known whole. -/
import Derived.Test.YtnkhdofcmanipaaGreatDoorFaStream
namespace Go.Proofs.YtnkhdofcmanipaaGreatDoor
open Go.RowKit
set_option linter.unusedVariables false

structure Env1 (w W : World) (g : Nat) (zs : Zs) (k : Nat) (b1 : Nat) (c1 : Array Value) (e1 : TypeId) : Prop where
  st : St W g zs k
  gr : w.grownBy W (some g)
  glt : g < w.heap.size
  lt1 : w.heap.size ≤ b1
  h1 : W.heap[b1]? = some (.cells c1 e1 (0, 0))
structure Env2 (w W : World) (g : Nat) (zs : Zs) (k : Nat) (b1 : Nat) (c1 : Array Value) (e1 : TypeId) (b0 : Nat) (c0 : Array Value) (e0 : TypeId) : Prop where
  E : Env1 w W g zs k b1 c1 e1
  ne : b1 < b0
  h0 : W.heap[b0]? = some (.cells c0 e0 (0, 0))
section
variable {w W W' : World} {g : Nat} {zs : Zs} {k k' : Nat} {b1 b0 : Nat} {c1 c0 : Array Value} {e1 e0 : TypeId}
theorem Env1.new (h : St w g zs k) (c : Array Value) (e : TypeId) : Env1 w (w.alloc (.cells c e)) g zs k w.heap.size c e :=
  ⟨h.alloc _, grown_alloc (grown_refl w _) _, h.lt, Nat.le_refl _, heap_alloc_new w _⟩
theorem Env1.call (E : Env1 w W g zs k b1 c1 e1) (hs : St W' g zs k') (hg : W.grownBy W' (some g)) : Env1 w W' g zs k' b1 c1 e1 :=
  ⟨hs, grown_trans E.gr hg, E.glt, E.lt1, blk_grown E.h1 hg (by have := E.glt; have := E.lt1; simp; omega)⟩
theorem Env1.tmp (E : Env1 w W g zs k b1 c1 e1) (o : Obj) : Env1 w (W.alloc o) g zs k b1 c1 e1 :=
  ⟨E.st.alloc o, grown_alloc E.gr o, E.glt, E.lt1, blk_alloc E.h1 o⟩
theorem Env1.drew (E : Env1 w W g zs k b1 c1 e1) : Env1 w W.drew g zs k b1 c1 e1 := ⟨E.st.drew, grown_drew E.gr, E.glt, E.lt1, E.h1⟩
theorem Env1.drewN (E : Env1 w W g zs k b1 c1 e1) (n : Nat) : Env1 w (W.drewN n) g zs k b1 c1 e1 := ⟨E.st.drewN n, grown_drewN E.gr n, E.glt, E.lt1, E.h1⟩
theorem Env1.below (E : Env1 w W g zs k b1 c1 e1) (hb : Below W.heap.size W W') : Env1 w W' g zs k b1 c1 e1 := E.call (E.st.below hb) (grown_of_below hb)
theorem Env1.facts (E : Env1 w W g zs k b1 c1 e1) : (∀ i, W.cell? ⟨b1, i, none⟩ = c1[i]?) ∧ (∀ i, W.frozen? ⟨b1, i, none⟩ = false) := blk_facts E.h1
theorem Env1.blt (E : Env1 w W g zs k b1 c1 e1) : b1 < W.heap.size := lt_of_heap E.h1
theorem Env1.box (E : Env1 w W g zs k b1 c1 e1) (c : Array Value) (e : TypeId) : Env2 w (W.alloc (.cells c e)) g zs k b1 c1 e1 W.heap.size c e :=
  ⟨E.tmp _, E.blt, heap_alloc_new W _⟩
theorem Env2.call (E : Env2 w W g zs k b1 c1 e1 b0 c0 e0) (hs : St W' g zs k') (hg : W.grownBy W' (some g)) : Env2 w W' g zs k' b1 c1 e1 b0 c0 e0 :=
  ⟨E.E.call hs hg, E.ne, blk_grown E.h0 hg (by have := E.E.glt; have := E.E.lt1; have := E.ne; simp; omega)⟩
theorem Env2.tmp (E : Env2 w W g zs k b1 c1 e1 b0 c0 e0) (o : Obj) : Env2 w (W.alloc o) g zs k b1 c1 e1 b0 c0 e0 := ⟨E.E.tmp o, E.ne, blk_alloc E.h0 o⟩
theorem Env2.drew (E : Env2 w W g zs k b1 c1 e1 b0 c0 e0) : Env2 w W.drew g zs k b1 c1 e1 b0 c0 e0 := ⟨E.E.drew, E.ne, E.h0⟩
theorem Env2.drewN (E : Env2 w W g zs k b1 c1 e1 b0 c0 e0) (n : Nat) : Env2 w (W.drewN n) g zs k b1 c1 e1 b0 c0 e0 := ⟨E.E.drewN n, E.ne, E.h0⟩
theorem Env2.below (E : Env2 w W g zs k b1 c1 e1 b0 c0 e0) (hb : Below W.heap.size W W') : Env2 w W' g zs k b1 c1 e1 b0 c0 e0 := E.call (E.E.st.below hb) (grown_of_below hb)
theorem Env2.facts (E : Env2 w W g zs k b1 c1 e1 b0 c0 e0) : (∀ i, W.cell? ⟨b0, i, none⟩ = c0[i]?) ∧ (∀ i, W.frozen? ⟨b0, i, none⟩ = false) := blk_facts E.h0
end
end Go.Proofs.YtnkhdofcmanipaaGreatDoor
