import Derived.Test.YtdbfcneeiiialaaGreatDoorTwo
import Derived.Test.YtdbfcneeiiialaaGreatDoorSortB
import Derived.Test.YtdbfcneeiiialaaGreatDoorSplits
import Derived.Test.YtdbfcneeiiialaaGreatDoorReady4
import Derived.Test.YtdbfcneeiiialaaGreatDoorFill
import Derived.Test.YtdbfcneeiiialaaGreatDoorPadF
/- pad.sorted, pad.ends, tumbref1.endsOf, tumbref1.counting. -/
namespace Go.Proofs.YtdbfcneeiiialaaGreatDoor
open Go.RowKit Go.Lib
set_option linter.unusedVariables false

/-- two rows of ints of the call's own -/
structure D2 (w : World) (u1 u2 : Value) (l1 l2 : List Int) (wx : World) : Prop where
  o1 : wx.ownsRow w.heap.size 3 1 u1 l1.length (ints l1)
  o2 : wx.ownsRow w.heap.size 3 1 u2 l2.length (ints l2)
  dis : Dis u1 u2
  bel : Below w.heap.size w wx
section
variable {w wx w' : World} {u1 u2 v' : Value} {l1 l2 : List Int} {x : Int}
theorem D2.below (h : D2 w u1 u2 l1 l2 wx) (hb : Below wx.heap.size wx w') : D2 w u1 u2 l1 l2 w' := ⟨own_below h.o1 hb, own_below h.o2 hb, h.dis, below_next h.bel hb⟩
theorem D2.start (w : World) : D2 w (.slice none 0 0) (.slice none 0 0) [] [] w := ⟨World.ownsRow_nil _ _ _ _, World.ownsRow_nil _ _ _ _, (fun i h _ => by cases h), Below.refl _ _⟩
theorem D2.app1 (h : D2 w u1 u2 l1 l2 wx) (ho : w'.ownsRow w.heap.size 3 1 v' (l1.length + 1) (ints l1 ++ [.int .i64 x])) (hg : wx.grownBy w' u1.ownBlock) (ha : v'.ownBlock = u1.ownBlock ∨ ∃ q, v'.ownBlock = some q ∧ wx.heap.size ≤ q) : D2 w v' u2 (l1 ++ [x]) l2 w' := by
  refine ⟨by rw [ints_app, List.length_append]; exact ho, h.o2.kept hg h.dis.ne, fun i h1 h2 => ?_, below_own h.bel h.o1 hg h.bel.size (Nat.le_refl _)⟩
  rcases ha with ha | ⟨q, ha, hq⟩
  · exact h.dis i (by rw [← ha]; exact h1) h2
  · rw [ha] at h1; injection h1 with h1; subst h1; have := (h.o2.lt _ h2).2; omega
theorem D2.app2 (h : D2 w u1 u2 l1 l2 wx) (ho : w'.ownsRow w.heap.size 3 1 v' (l2.length + 1) (ints l2 ++ [.int .i64 x])) (hg : wx.grownBy w' u2.ownBlock) (ha : v'.ownBlock = u2.ownBlock ∨ ∃ q, v'.ownBlock = some q ∧ wx.heap.size ≤ q) : D2 w u1 v' l1 (l2 ++ [x]) w' := by
  refine ⟨h.o1.kept hg h.dis.symm.ne, by rw [ints_app, List.length_append]; exact ho, fun i h1 h2 => ?_, below_own h.bel h.o2 hg h.bel.size (Nat.le_refl _)⟩
  rcases ha with ha | ⟨q, ha, hq⟩
  · exact h.dis i h1 (by rw [← ha]; exact h2)
  · rw [ha] at h2; injection h2 with h2; subst h2; have := (h.o1.lt _ h1).2; omega
end
/-- touches parted: those that count, and the rest -/
def cntGo (e0 : Int) (M : Nat) : List Int → List Int → List Int → List Int × List Int
  | g, h, [] => (g, h)
  | g, h, t :: r => if t < (if g.length = 0 then e0 * 1000 else g.getD (g.length - 1) 0 + 2000) ∨ g.length = M then cntGo e0 M g (h ++ [t]) r else cntGo e0 M (g ++ [t]) h r
theorem cntGo_at {e0 : Int} {M : Nat} {l : List Int} {k : Nat} {t : Int} (g h : List Int) (hx : l[k]? = some t) : cntGo e0 M g h (l.drop k) = if t < (if g.length = 0 then e0 * 1000 else g.getD (g.length - 1) 0 + 2000) ∨ g.length = M then cntGo e0 M g (h ++ [t]) (l.drop (k + 1)) else cntGo e0 M (g ++ [t]) h (l.drop (k + 1)) := by rw [drop_at hx]; rfl
/-- the first end of N lengths; how many there are -/
def e0N (N : Nat) : Int := 2 - ((N % 2 : Nat) : Int)
def mN (N : Nat) : Nat := (N + 1) / 2
def endsV (N : Nat) : List Int := (List.range (mN N)).map fun i : Nat => e0N N + 2 * (i : Int)
def goodV (N : Nat) (l : List Int) : List Int := (cntGo (e0N N) (mN N) [] [] l).1
def ghostV (N : Nat) (l : List Int) : List Int := (cntGo (e0N N) (mN N) [] [] l).2
def RetTwo (w : World) (L : List Int × List Int) (e : Ending) (w' : World) : Prop := ∃ A1 c1 A2 c2, e = .returned (.tuple #[.slice A1 L.1.length c1, .slice A2 L.2.length c2]) ∧ RI 3 w' A1 L.1.length L.1 ∧ RI 3 w' A2 L.2.length L.2 ∧ Below w.heap.size w w'
theorem last_snoc (g : List Int) (t : Int) : (g ++ [t]).getD ((g ++ [t]).length - 1) 0 = t := by
  rw [List.length_append]; simp
theorem endsV_len (N : Nat) : (endsV N).length = mN N := by unfold endsV; rw [List.length_map, List.length_range]
theorem endsV_at (N i : Nat) (h : i < mN N) : (endsV N)[i]? = some (e0N N + 2 * (i : Int)) := by
  unfold endsV; rw [List.getElem?_map, List.getElem?_range h]; rfl
end Go.Proofs.YtdbfcneeiiialaaGreatDoor

/- pad.ends, tumbref1.endsOf; pad.Ghosts, tumbref1.GhostsOf. -/
namespace Go.Proofs.YtdbfcneeiiialaaGreatDoor
open Go.RowKit Go.Lib
set_option linter.unusedVariables false

def endsF (N i : Nat) : List Int := (List.range i).map fun i : Nat => e0N N + 2 * (i : Int)
theorem endsF_succ (N i : Nat) : endsF N (i + 1) = endsF N i ++ [e0N N + 2 * (i : Int)] := by unfold endsF; rw [List.range_succ, List.map_append]; rfl
theorem endsF_len (N i : Nat) : (endsF N i).length = i := by unfold endsF; rw [List.length_map, List.length_range]
theorem ends_last (N : Nat) (h : 1 ≤ N) : e0N N + 2 * ((mN N : Int) - 1) = N := by unfold e0N mN; omega
end Go.Proofs.YtdbfcneeiiialaaGreatDoor
