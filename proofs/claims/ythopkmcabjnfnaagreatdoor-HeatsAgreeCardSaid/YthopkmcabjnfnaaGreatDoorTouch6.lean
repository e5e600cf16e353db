/- The official times of a heat: the program's, the reference's. -/
import Derived.Test.YthopkmcabjnfnaaGreatDoorTouch5
namespace Go.Proofs.YthopkmcabjnfnaaGreatDoor
open Go.RowKit
set_option linter.unusedVariables false

def fixS (S : Int) (o : Sm) : Sm := if o.by_ = 2 then ⟨min (max (o.time - S) 1) 360000, 2⟩ else o
def heatM (S : Int) (l : List Tc) : List Sm := l.map fun x => fixS S (offV x)
def heatL (l : List Tc) : List Sm := heatM (shiftV l) l
theorem heatM_at {S : Int} {l : List Tc} {k : Nat} {x : Tc} (h : l[k]? = some x) : heatM S (l.drop k) = fixS S (offV x) :: heatM S (l.drop (k + 1)) := by rw [drop_at h]; rfl
theorem off_bd {x : Tc} (h : touchErr x = 0) : 0 ≤ (offV x).time ∧ (offV x).time ≤ 360000 := by
  obtain ⟨p0, p1, q0, q1, _, hb⟩ := touch_ok h
  have hw := watch_bd hb
  unfold offV offW
  split
  · exact ⟨p0, p1⟩
  · split
    · exact ⟨q0, q1⟩
    · split
      · exact hw
      · exact ⟨by decide, by decide⟩
theorem shS_bd : ∀ {l : List Tc}, (∀ x ∈ l, touchErr x = 0) → -360000 * (l.length : Int) ≤ shS l ∧ shS l ≤ 360000 * (l.length : Int)
  | [], _ => by simp [shS]
  | x :: r, h => by
    have h1 := shS_bd (l := r) (fun y hy => h y (by simp [hy]))
    obtain ⟨p0, p1, q0, q1, _, _⟩ := touch_ok (h x (by simp))
    unfold shS
    rw [List.length_cons]
    split <;> omega
theorem shift_bd {l : List Tc} (h : heatErr l = 0) : -3600000 ≤ shiftV l ∧ shiftV l ≤ 3600000 := by
  obtain ⟨h1, h2⟩ := heat_ok h
  have h3 := shS_bd h2
  unfold shiftV
  split
  · omega
  · have h4 : ((shS l).tdiv (shM l)).natAbs ≤ (shS l).natAbs := by rw [Int.natAbs_tdiv]; exact Nat.div_le_self _ _
    omega
theorem fix2 {S tm v : Int} (h : v = min (max (tm - S) 1) 360000) : fixS S ⟨tm, 2⟩ = ⟨v, 2⟩ := by subst h; rfl
theorem fix_no {S tm b : Int} (h : b ≠ 2) : fixS S ⟨tm, b⟩ = ⟨tm, b⟩ := by unfold fixS; rw [if_neg h]
theorem snoc_sm {w : World} {base k : Nat} {out : Value} {acc : List Sm} {t b : Int} (h : w.ownsRow base 39 2 out k (acc.flatMap smE ++ (#[.int .i64 t, .int .i64 b] : Array Value).toList)) : w.ownsRow base 39 2 out k ((acc ++ [(⟨t, b⟩ : Sm)]).flatMap smE) := by
  rw [← flat_snoc]; exact h
theorem info_swum : (Tryz.prog.info? 39).map (fun i => (i.zero, i.size, i.bytes)) = some (some (.agg #[.int .i64 0, .int .i64 0]), 2, 16) := by kernel_rfl
end Go.Proofs.YthopkmcabjnfnaaGreatDoor
