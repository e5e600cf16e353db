/- Verdicts: what is decided of a swimmer. Printed by wip/genver.py. -/
import Derived.Test.YtklggnglaeagpaaGreatDoorVerC
import Derived.Test.YtklggnglaeagpaaGreatDoorPadF
namespace Go.Proofs.YtklggnglaeagpaaGreatDoor
open Go.RowKit Go.Shelf Go.Lib Go.Sort
set_option linter.unusedVariables false

/-- the first number from f on that passes; 0: none of the next n does -/
def vdF (p : Int → Bool) : Nat → Int → Int
  | 0, _ => 0
  | n + 1, f => if p f = true then f else vdF p n (f + 1)
def repL (who : ByteArray) (f at_ W : Int) (l : List Rp) : List ByteArray := (l.filter fun x => mtB who f at_ x && (decide (x.wt = W) && !x.nt)).map Rp.id
theorem repL_at {who : ByteArray} {f at_ W : Int} {l : List Rp} {k : Nat} {x : Rp} (h : l[k]? = some x) : repL who f at_ W (l.drop k) = (if (mtB who f at_ x && (decide (x.wt = W) && !x.nt)) = true then [x.id] else []) ++ repL who f at_ W (l.drop (k + 1)) := by
  rw [drop_at h]
  unfold repL
  by_cases hm : (mtB who f at_ x && (decide (x.wt = W) && !x.nt)) = true
  · rw [if_pos hm, List.filter_cons_of_pos (by simpa using hm)]; rfl
  · rw [if_neg hm, List.filter_cons_of_neg (by simpa using hm)]; rfl
theorem repL_len (who : ByteArray) (f at_ W : Int) (l : List Rp) : (repL who f at_ W l).length ≤ l.length := by
  unfold repL; rw [List.length_map]; exact List.length_filter_le _ _
def pV (l : List Rp) (who : ByteArray) (at_ : Int) (gone : Int → Bool) (f : Int) : Bool := stB l who f at_ && !gone f
def fltV (l : List Rp) (who : ByteArray) (at_ : Int) (gone : Int → Bool) : Int := vdF (pV l who at_ gone) 8 1
def idsV (l : List Rp) (who : ByteArray) (at_ F : Int) : List ByteArray := if F = 0 then [] else repL who F at_ (lastV l who F at_).wt l
def tmV (l : List Rp) (who : ByteArray) (at_ F : Int) : Int := if F = 0 then 0 else (lastV l who F at_).tm
/-- the two boxes of verdict -/
structure VK (w : World) (who : ByteArray) (F : Value) (u : Value) (wr : World) : Prop where
  b8 : wr.heap[w.heap.size]? = some (.cells #[.string ⟨#[]⟩, .int .i64 0, .slice none 0 0] 99 (0, 0))
  b10 : wr.heap[w.heap.size + 1]? = some (.cells #[.string who, F, u] 99 (0, 0))
  bel : Below w.heap.size w wr
theorem VK.below {w : World} {who : ByteArray} {F u : Value} {wr w' : World} (h : VK w who F u wr) (B : Below wr.heap.size wr w') : VK w who F u w' := ⟨blk_below h.b8 B, blk_below h.b10 B, below_next h.bel B⟩
theorem VK.set {w : World} {who : ByteArray} {F u : Value} {wr : World} (h : VK w who F u wr) (v : Value) : VK w who v u (wr.setCell ⟨w.heap.size + 1, 1, none⟩ v) := by
  refine ⟨?_, ?_, h.bel.setCell (by show w.heap.size ≤ w.heap.size + 1; omega) v⟩
  · rw [Below.heap_setCell _ _ _ _ (by show w.heap.size ≠ w.heap.size + 1; omega)]; exact h.b8
  · simpa using blk_set h.b10 1 v
theorem VK.setU {w : World} {who : ByteArray} {F u : Value} {wr : World} (h : VK w who F u wr) (v : Value) : VK w who F v (wr.setCell ⟨w.heap.size + 1, 2, none⟩ v) := by
  refine ⟨?_, ?_, h.bel.setCell (by show w.heap.size ≤ w.heap.size + 1; omega) v⟩
  · rw [Below.heap_setCell _ _ _ _ (by show w.heap.size ≠ w.heap.size + 1; omega)]; exact h.b8
  · simpa using blk_set h.b10 2 v
def vd3 (w : World) (b : Nat) (v0 v1 v2 : Value) : World := ((w.setCell ⟨b, 0, none⟩ v0).setCell ⟨b, 1, none⟩ v1).setCell ⟨b, 2, none⟩ v2
theorem vd3_blk {T : TypeId} {w : World} {b : Nat} {u0 u1 u2 : Value} (h : w.heap[b]? = some (.cells #[u0, u1, u2] T (0, 0))) (v0 v1 v2 : Value) : (vd3 w b v0 v1 v2).heap[b]? = some (.cells #[v0, v1, v2] T (0, 0)) := by
  have h8 := (blk_set (blk_set (blk_set h 0 v0) 1 v1) 2 v2)
  simpa [vd3] using h8
theorem vd3_below {B : Nat} {a w : World} (h : Below B a w) {b : Nat} (hb : B ≤ b) (v0 v1 v2 : Value) : Below B a (vd3 w b v0 v1 v2) := ((h.setCell hb v0).setCell hb v1).setCell hb v2
theorem vd3_RS {w : World} {b : Nat} {cs : Array Value} {fz : Nat × Nat} (hb : w.heap[b]? = some (.cells cs 99 fz)) {A : Option Addr} {n : Nat} {l : List ByteArray} (h : RS 9 w A n l) (v0 v1 v2 : Value) : RS 9 (vd3 w b v0 v1 v2) A n l := by
  refine h.keep (T := 99) (by decide) (fun b' cs' e' fz' hne hb' => ?_)
  have hne2 : b' ≠ b := by
    rintro rfl
    rw [hb] at hb'
    injection hb' with hb'
    injection hb' with _ h2
    exact hne h2.symm
  unfold vd3
  rw [Below.heap_setCell _ _ _ _ hne2, Below.heap_setCell _ _ _ _ hne2, Below.heap_setCell _ _ _ _ hne2]
  exact hb'
theorem own_ty3 {w : World} {B s n g : Nat} {e e2 : TypeId} {u : Value} {xs : List Value} {cs : Array Value} {fz : Nat × Nat} (h1 : w.ownsRow B e s u n xs) (h2 : w.heap[g]? = some (.cells cs e2 fz)) (he : e2 ≠ e) : ∀ i, u.ownBlock = some i → i ≠ g := by
  intro i hi hig
  subst hig
  rcases h1.2 with ⟨rfl, _⟩ | ⟨g', cap, cur, rfl, _, hg, _⟩
  · simp [Value.ownBlock] at hi
  · simp [Value.ownBlock] at hi
    subst hi
    rw [hg] at h2
    injection h2 with h2
    injection h2 with _ h3
    exact he h3.symm
end Go.Proofs.YtklggnglaeagpaaGreatDoor
