/- The two halves of a list: the maker. Printed by wip/genhalf.py. -/
import Derived.Test.YtjafcnblgeibpaaGreatDoorP52
import Derived.Test.YtjafcnblgeibpaaGreatDoorTwo
import Derived.Test.YtjafcnblgeibpaaGreatDoorPadF
import Derived.Test.YtjafcnblgeibpaaGreatDoorDraws
namespace Go.Proofs.YtjafcnblgeibpaaGreatDoor
open Go.RowKit Go.Shelf Go.Lib Go.Sort
set_option linter.unusedVariables false

theorem halfA_snoc {α : Type} (x : α) (v : Int) : ∀ l : List (α × Int), hfA (l ++ [(x, v)]) = hfA l ++ (if v = 1 then [] else [x])
  | [] => by simp [hfA]
  | (y, u) :: r => by
    have ih := halfA_snoc x v r
    simp only [List.cons_append, hfA, ih]
    split <;> simp
theorem halfB_snoc {α : Type} (x : α) (v : Int) : ∀ l : List (α × Int), hfB (l ++ [(x, v)]) = hfB l ++ (if v = 0 then [] else [x])
  | [] => by simp [hfB]
  | (y, u) :: r => by
    have ih := halfB_snoc x v r
    simp only [List.cons_append, hfB, ih]
    split <;> simp
theorem ks_snoc {α : Type} {ks : List (α × Int)} {l : List α} {j : Nat} {x : α} (v : Int) (h : ks.map Prod.fst = l.take j) (hx : l[j]? = some x) : (ks ++ [(x, v)]).map Prod.fst = l.take (j + 1) := by
  rw [List.map_append, h, List.take_add_one, hx]; rfl
/-- two rows of the call's own, of one type -/
structure HK {α : Type} (enc : α → List Value) (sz : Nat) (T : TypeId) (w : World) (g : Nat) (zs : List Int) (u1 u2 : Value) (l1 l2 : List α) (kk : Nat) (wx : World) : Prop where
  o1 : wx.ownsRow w.heap.size T sz u1 l1.length (l1.flatMap enc)
  o2 : wx.ownsRow w.heap.size T sz u2 l2.length (l2.flatMap enc)
  dis : Dis u1 u2
  st : St wx g zs kk
  gr : w.grownBy wx (some g)
  gl : g < w.heap.size
section
variable {α : Type} {enc : α → List Value} {sz : Nat} {T : TypeId} {w wx w' : World} {g : Nat} {zs : List Int} {u1 u2 v' : Value} {l1 l2 : List α} {x : α} {kk k1 : Nat}
theorem HK.start (h : St w g zs kk) : HK enc sz T w g zs (.slice none 0 0) (.slice none 0 0) [] [] kk w := ⟨World.ownsRow_nil _ _ _ _, World.ownsRow_nil _ _ _ _, fun i h => by simp [Value.ownBlock] at h, h, grown_refl _ _, h.lt⟩
theorem HK.flip (h : HK enc sz T w g zs u1 u2 l1 l2 kk wx) : HK enc sz T w g zs u2 u1 l2 l1 kk wx := ⟨h.o2, h.o1, h.dis.symm, h.st, h.gr, h.gl⟩
theorem HK.below (h : HK enc sz T w g zs u1 u2 l1 l2 kk wx) (B : Below wx.heap.size wx w') : HK enc sz T w g zs u1 u2 l1 l2 kk w' := ⟨own_below h.o1 B, own_below h.o2 B, h.dis, h.st.below B, grown_trans h.gr (grown_of_below B), h.gl⟩
theorem HK.alloc (h : HK enc sz T w g zs u1 u2 l1 l2 kk wx) (o : Obj) : HK enc sz T w g zs u1 u2 l1 l2 kk (wx.alloc o) := h.below (below_new wx o)
theorem HK.stream (h : HK enc sz T w g zs u1 u2 l1 l2 kk wx) (s : St w' g zs k1) (hg : wx.grownBy w' (some g)) : HK enc sz T w g zs u1 u2 l1 l2 k1 w' := ⟨own_keep h.o1 h.gl hg, own_keep h.o2 h.gl hg, h.dis, s, grown_trans h.gr hg, h.gl⟩
theorem HK.app1 (h : HK enc sz T w g zs u1 u2 l1 l2 kk wx) (ho : w'.ownsRow w.heap.size T sz v' (l1.length + 1) (l1.flatMap enc ++ enc x)) (hg : wx.grownBy w' u1.ownBlock) (hat : v'.ownBlock = u1.ownBlock ∨ ∃ q, v'.ownBlock = some q ∧ wx.heap.size ≤ q) : HK enc sz T w g zs v' u2 (l1 ++ [x]) l2 kk w' := by
  have hb : ∀ i, u1.ownBlock = some i → w.heap.size ≤ i := own_row_lt h.o1
  have hgl := h.gl
  refine ⟨by rw [List.length_append, List.flatMap_append, List.flatMap_singleton]; exact ho, h.o2.kept hg h.dis.ne, ?_, h.st.grown hg (fun i hi => by have := hb i hi; omega), grown_own h.gr hg (fun i hi => hb i hi), hgl⟩
  intro i h1 h2
  rcases hat with e | ⟨q, e, hq⟩
  · exact h.dis i (e ▸ h1) h2
  · rw [e] at h1
    injection h1 with h1
    have := (h.o2.lt i h2).2
    omega
theorem HK.app2 (h : HK enc sz T w g zs u1 u2 l1 l2 kk wx) (ho : w'.ownsRow w.heap.size T sz v' (l2.length + 1) (l2.flatMap enc ++ enc x)) (hg : wx.grownBy w' u2.ownBlock) (hat : v'.ownBlock = u2.ownBlock ∨ ∃ q, v'.ownBlock = some q ∧ wx.heap.size ≤ q) : HK enc sz T w g zs u1 v' l1 (l2 ++ [x]) kk w' := (h.flip.app1 ho hg hat).flip
theorem HK.lt1 (h : HK enc sz T w g zs u1 u2 l1 l2 kk wx) : ∀ i, u1.ownBlock = some i → i < wx.heap.size := fun i hi => (h.o1.lt i hi).2
theorem HK.lt2 (h : HK enc sz T w g zs u1 u2 l1 l2 kk wx) : ∀ i, u2.ownBlock = some i → i < wx.heap.size := fun i hi => (h.o2.lt i hi).2
end

end Go.Proofs.YtjafcnblgeibpaaGreatDoor
