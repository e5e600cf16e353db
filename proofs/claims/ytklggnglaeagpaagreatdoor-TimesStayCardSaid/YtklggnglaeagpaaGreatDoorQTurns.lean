import Derived.Test.YtklggnglaeagpaaGreatDoorQStructs
import Derived.Test.YtklggnglaeagpaaGreatDoorQFill
import Derived.Test.YtklggnglaeagpaaGreatDoorQSplits
import Derived.Deep.LoopGhost
/- Fractions in lowest terms: words.Fraction, the reference's divisor and Lowest. -/
namespace Go.Proofs.YtklggnglaeagpaaGreatDoor
open Go.RowKit
set_option linter.unusedVariables false

end Go.Proofs.YtklggnglaeagpaaGreatDoor

/- timing.Laps and the reference's LapsOf. -/
namespace Go.Proofs.YtklggnglaeagpaaGreatDoor
open Go.RowKit
set_option linter.unusedVariables false

end Go.Proofs.YtklggnglaeagpaaGreatDoor

/- Even and proportional splits: race.Even, Like; the references EvenOf, LikeOf, rising. -/
namespace Go.Proofs.YtklggnglaeagpaaGreatDoor
open Go.RowKit
set_option linter.unusedVariables false

def risingF : List Int → Int → Bool
  | [], _ => true
  | x :: r, last => if x ≤ last then false else risingF r x
theorem rising_at {l : List Int} {k : Nat} {x last : Int} (h : l[k]? = some x) : risingF (l.drop k) last = if x ≤ last then false else risingF (l.drop (k + 1)) x := by rw [drop_at h]; rfl
end Go.Proofs.YtklggnglaeagpaaGreatDoor

/- Splits in proportion: race.Like and the reference's LikeOf. -/
namespace Go.Proofs.YtklggnglaeagpaaGreatDoor
open Go.RowKit
set_option linter.unusedVariables false

theorem wholeErr_ok {r : Race} {l : List Int} (h : wholeErr r l = 0) : checkSp r l = 0 ∧ raceErr r = 0 ∧ knownErr r l = 0 ∧ splitsErr r l = 0 ∧ hasB l 0 = false := by
  unfold wholeErr at h
  split at h
  · omega
  · rename_i h0
    have h0' : raceErr r = 0 := by omega
    have hk := h
    unfold knownErr at h
    split at h
    · omega
    · rename_i h1
      refine ⟨checkSp_of h0' (by omega), h0', hk, by omega, ?_⟩
      cases hb : hasB l 0 with
      | false => rfl
      | true => rw [hb] at h; simp at h
end Go.Proofs.YtklggnglaeagpaaGreatDoor

/- How far somebody is: race.where, far, LineAt; the reference's farAt, FarOf. -/
namespace Go.Proofs.YtklggnglaeagpaaGreatDoor
open Go.RowKit
set_option linter.unusedVariables false

/-- rising: what it gives -/
theorem rise_of : ∀ {l : List Int} {last : Int}, spErrL l last = 0 → hasB l 0 = false → risingF l last = true
  | [], _, _, _ => rfl
  | x :: l, last, h, hz => by
    have hx : x ≠ 0 := by intro e; subst e; simp [hasB] at hz
    have hz' : hasB l 0 = false := by unfold hasB at hz ⊢; simp at hz ⊢; exact hz.2
    unfold spErrL at h
    split at h
    · cases h
    · split at h
      · cases h
      · rename_i h1
        show (if x ≤ last then false else risingF l x) = true
        rw [if_neg (fun hh => h1 ⟨hx, hh⟩)]
        exact rise_of h hz'
theorem rise_gt : ∀ {l : List Int} {last : Int} {j : Nat} {y : Int}, risingF l last = true → l[j]? = some y → last < y
  | [], _, _, _, _, hj => by simp at hj
  | x :: l, last, j, y, h, hj => by
    have h' : (if x ≤ last then false else risingF l x) = true := h
    split at h'
    · cases h'
    · rename_i h1
      cases j with
      | zero => obtain rfl : x = y := by simpa using hj
                omega
      | succ j => have := rise_gt (j := j) h' (by simpa using hj)
                  omega
theorem whole_rise {r : Race} {l : List Int} (h : wholeErr r l = 0) : risingF l 0 = true := by
  obtain ⟨_, _, _, hs, hz⟩ := wholeErr_ok h
  exact rise_of (splitsErr_ok hs).2.1 hz

end Go.Proofs.YtklggnglaeagpaaGreatDoor

/- race.far, LineAt; the reference's farAt, FarOf. -/
namespace Go.Proofs.YtklggnglaeagpaaGreatDoor
open Go.RowKit
set_option linter.unusedVariables false

theorem alloc_size (w : World) (o : Obj) : (w.alloc o).heap.size = w.heap.size + 1 := by simp
end Go.Proofs.YtklggnglaeagpaaGreatDoor

/- Halves, and how the second one compares: timing.Halves, race.Fade; the reference's HalvesOf. -/
namespace Go.Proofs.YtklggnglaeagpaaGreatDoor
open Go.RowKit
set_option linter.unusedVariables false

end Go.Proofs.YtklggnglaeagpaaGreatDoor

/- The fastest and the slowest length: race.Turns, the reference's TurnsOf; halves and race.Fade. -/
namespace Go.Proofs.YtklggnglaeagpaaGreatDoor
open Go.RowKit
set_option linter.unusedVariables false

end Go.Proofs.YtklggnglaeagpaaGreatDoor
