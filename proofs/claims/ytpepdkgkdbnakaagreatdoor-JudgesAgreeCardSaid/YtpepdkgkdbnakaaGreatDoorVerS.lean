/- tumbref1.stands and tumbref1.verdictOf. Printed by wip/genvers.py. -/
import Derived.Test.YtpepdkgkdbnakaaGreatDoorVerR
namespace Go.Proofs.YtpepdkgkdbnakaaGreatDoor
open Go.RowKit Go.Shelf Go.Lib Go.Sort
set_option linter.unusedVariables false

/-- what the reference's verdict hands back -/
def RetVr (w : World) (who : ByteArray) (F : Int) (ids : List ByteArray) (e : Ending) (w' : World) : Prop := ∃ A c, e = .returned (.agg #[.string who, .int .i64 F, .slice A ids.length c]) ∧ RS 9 w' A ids.length ids ∧ CapOk A ids.length c ∧ Below w.heap.size w w'
def nidL (l : List Rp) : List ByteArray := (l.filter fun x => !x.nt).map Rp.id
theorem nidL_at {l : List Rp} {k : Nat} {x : Rp} (h : l[k]? = some x) : nidL (l.drop k) = (if x.nt = false then [x.id] else []) ++ nidL (l.drop (k + 1)) := by
  rw [drop_at h]
  unfold nidL
  by_cases hm : x.nt = false
  · rw [if_pos hm, List.filter_cons_of_pos (by simp [hm])]; rfl
  · rw [if_neg hm, List.filter_cons_of_neg (by simpa using hm)]; rfl
theorem nidL_about {l : List Rp} (hw : ∀ x ∈ l, 1 ≤ x.wt) (who : ByteArray) (f at_ : Int) : repL who f at_ (lastV l who f at_).wt l = nidL (aboutV l who f at_) := by
  have h3 := (last_about hw who f at_).2.2
  unfold repL nidL aboutV
  rw [List.filter_filter, h3]
  congr 1
  apply List.filter_congr
  intro x _
  unfold abB
  cases mtB who f at_ x <;> cases decide (x.wt = mostV l who f at_) <;> cases x.nt <;> rfl
theorem nidL_len (l : List Rp) : (nidL l).length ≤ l.length := by
  unfold nidL; rw [List.length_map]; exact List.length_filter_le _ _
theorem about_len (l : List Rp) (who : ByteArray) (f at_ : Int) : (aboutV l who f at_).length ≤ l.length := List.length_filter_le _ _
end Go.Proofs.YtpepdkgkdbnakaaGreatDoor
