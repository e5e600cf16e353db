import Derived.Test.YtamcmehmcbjgjaaGreatDoorFill
import Derived.Test.YtamcmehmcbjgjaaGreatDoorLens
import Derived.Deep.QuietTactic
import Derived.BigQuiet
import Derived.BigGuardPart
import Derived.Test.YtamcmehmcbjgjaaGreatDoorFillP
import Derived.Test.YtamcmehmcbjgjaaGreatDoorStructs
import Derived.Test.YtamcmehmcbjgjaaGreatDoorSplits2
/- Who holds out, plain: the strength goes to the last lengths; running sums. -/
namespace Go.Proofs.YtamcmehmcbjgjaaGreatDoor
open Go.RowKit
set_option linter.unusedVariables false

def sumL : List Int → Int
  | [] => 0
  | x :: r => x + sumL r
theorem sumL_app (a b : List Int) : sumL (a ++ b) = sumL a + sumL b := by
  induction a with
  | nil => simp [sumL]
  | cons x r ih => simp only [List.cons_append, sumL, ih]; omega
theorem sumL_take {l : List Int} {k : Nat} {x : Int} (h : l[k]? = some x) : sumL (l.take (k + 1)) = sumL (l.take k) + x := by
  rw [List.take_add_one, h, sumL_app]; simp [sumL]
/-- running sums from s -/
def runL (s : Int) : List Int → List Int
  | [] => []
  | x :: r => (s + x) :: runL (s + x) r
theorem runL_len (l : List Int) : ∀ s, (runL s l).length = l.length := by
  induction l with
  | nil => intro s; rfl
  | cons x r ih => intro s; simp [runL, ih]
theorem runL_at {l : List Int} {k : Nat} {x : Int} (s : Int) (h : l[k]? = some x) : runL s (l.drop k) = (s + x) :: runL (s + x) (l.drop (k + 1)) := by rw [drop_at h]; rfl
/-- the error of the strengths: one by one, then their sum -/
def hGo : List Int → List Int → Int → Int
  | b :: bs, m :: ms, s => if ¬ (1 ≤ b ∧ b ≤ m) ∨ 360000 < m then 1 else hGo bs ms (s + m)
  | _, _, s => if 360000 < s then 2 else 0
def holdErr (r : Race) (best most : List Int) : Int := if (best.length : Int) ≠ lenV r ∨ (most.length : Int) ≠ lenV r then 3 else hGo best most 0
theorem hGo_at {best most : List Int} {k : Nat} {b m : Int} (s : Int) (hb : best[k]? = some b) (hm : most[k]? = some m) : hGo (best.drop k) (most.drop k) s = if ¬ (1 ≤ b ∧ b ≤ m) ∨ 360000 < m then 1 else hGo (best.drop (k + 1)) (most.drop (k + 1)) (s + m) := by rw [drop_at hb, drop_at hm]; rfl
theorem hGo_ok : ∀ (best most : List Int) (s : Int), hGo best most s = 0 → ∀ (k : Nat) (b m : Int), best[k]? = some b → most[k]? = some m → 1 ≤ b ∧ b ≤ m ∧ m ≤ 360000
  | [], _, _, _, k, b, m, hb, _ => by simp at hb
  | _ :: _, [], _, _, k, b, m, _, hm => by simp at hm
  | b0 :: bs, m0 :: ms, s, h, k, b, m, hb, hm => by
    unfold hGo at h
    split at h
    · cases h
    · rename_i h1
      rcases k with _ | k
      · simp only [List.getElem?_cons_zero, Option.some.injEq] at hb hm
        subst hb; subst hm; omega
      · exact hGo_ok bs ms _ h k b m (by simpa using hb) (by simpa using hm)
/-- all that could be given -/
def couldL : List Int → List Int → Int
  | b :: bs, m :: ms => m - b + couldL bs ms
  | _, _ => 0
theorem couldL_at {best most : List Int} {k : Nat} {b m : Int} (hb : best[k]? = some b) (hm : most[k]? = some m) : couldL (best.drop k) (most.drop k) = m - b + couldL (best.drop (k + 1)) (most.drop (k + 1)) := by rw [drop_at hb, drop_at hm]; rfl
theorem couldL_end {best most : List Int} {k : Nat} (h : best.length ≤ k) : couldL (best.drop k) (most.drop k) = 0 := by rw [drop_end h]; rfl
theorem couldL_nn : ∀ (best most : List Int), (∀ (k : Nat) (b m : Int), best[k]? = some b → most[k]? = some m → b ≤ m) → 0 ≤ couldL best most
  | [], _, _ => by simp [couldL]
  | _ :: _, [], _ => by simp [couldL]
  | b :: bs, m :: ms, h => by
    have h0 := h 0 b m rfl rfl
    have h1 := couldL_nn bs ms (fun k b m hb hm => h (k + 1) b m (by simpa using hb) (by simpa using hm))
    simp only [couldL]; omega
/-- the laps of who holds out, and what is left: the last length first -/
def holdG : List Int → List Int → Int → List Int × Int
  | b :: bs, m :: ms, left => ((m - min (holdG bs ms left).2 (m - b)) :: (holdG bs ms left).1, (holdG bs ms left).2 - min (holdG bs ms left).2 (m - b))
  | _, _, left => ([], left)
theorem holdG_at {best most : List Int} {k : Nat} {b m : Int} (left : Int) (hb : best[k]? = some b) (hm : most[k]? = some m) : holdG (best.drop k) (most.drop k) left = ((m - min (holdG (best.drop (k + 1)) (most.drop (k + 1)) left).2 (m - b)) :: (holdG (best.drop (k + 1)) (most.drop (k + 1)) left).1, (holdG (best.drop (k + 1)) (most.drop (k + 1)) left).2 - min (holdG (best.drop (k + 1)) (most.drop (k + 1)) left).2 (m - b)) := by rw [drop_at hb, drop_at hm]; rfl
theorem holdG_end {best most : List Int} {k : Nat} (left : Int) (h : best.length ≤ k) : holdG (best.drop k) (most.drop k) left = ([], left) := by rw [drop_end h]; rfl
theorem holdG_len : ∀ (best most : List Int) (left : Int), best.length = most.length → (holdG best most left).1.length = best.length
  | [], [], _, _ => rfl
  | [], _ :: _, _, h => by simp at h
  | _ :: _, [], _, h => by simp at h
  | b :: bs, m :: ms, left, h => by
    have := holdG_len bs ms left (by simpa using h)
    simp [holdG, this]
theorem holdG_left : ∀ (best most : List Int) (left : Int), 0 ≤ left → (∀ (k : Nat) (b m : Int), best[k]? = some b → most[k]? = some m → b ≤ m) → (holdG best most left).2 = left - min left (couldL best most)
  | [], _, left, h0, _ => by simp only [holdG, couldL]; omega
  | _ :: _, [], left, h0, _ => by simp only [holdG, couldL]; omega
  | b :: bs, m :: ms, left, h0, h => by
    have hs : ∀ (k : Nat) (b m : Int), bs[k]? = some b → ms[k]? = some m → b ≤ m := fun k b m hb hm => h (k + 1) b m (by simpa using hb) (by simpa using hm)
    have h1 := holdG_left bs ms left h0 hs
    have h2 := h 0 b m rfl rfl
    have h3 := couldL_nn bs ms hs
    simp only [holdG, couldL, h1]; omega
theorem holdG_sum : ∀ (best most : List Int) (left : Int), best.length = most.length → sumL (holdG best most left).1 = sumL most - (left - (holdG best most left).2)
  | [], [], left, _ => by simp only [holdG, sumL]; omega
  | [], _ :: _, _, h => by simp at h
  | _ :: _, [], _, h => by simp at h
  | b :: bs, m :: ms, left, h => by
    have h1 := holdG_sum bs ms left (by simpa using h)
    simp only [holdG, sumL, h1]; omega
theorem holdG_all (best most : List Int) (hl : best.length = most.length) (h : ∀ (k : Nat) (b m : Int), best[k]? = some b → most[k]? = some m → b ≤ m) : sumL (holdG best most (couldL best most / 2)).1 = sumL most - couldL best most / 2 := by
  have h0 := couldL_nn best most h
  rw [holdG_sum _ _ _ hl, holdG_left _ _ _ (by omega) h]; omega
/-- the strengths and what is left stay within bounds -/
theorem hGo_sum : ∀ (best most : List Int) (s : Int), best.length = most.length → hGo best most s = 0 → s + sumL most ≤ 360000
  | [], [], s, _, h => by
    unfold hGo at h
    split at h
    · cases h
    · simp only [sumL]; omega
  | [], _ :: _, _, h, _ => by simp at h
  | _ :: _, [], _, h, _ => by simp at h
  | b :: bs, m :: ms, s, hl, h => by
    unfold hGo at h
    split at h
    · cases h
    · have := hGo_sum bs ms _ (by simpa using hl) h
      simp only [sumL]; omega
theorem sum_take_bd {l : List Int} {B : Int} (hB : 0 ≤ B) (h : ∀ x ∈ l, 0 ≤ x ∧ x ≤ B) : 0 ≤ sumL l ∧ sumL l ≤ l.length * B := by
  induction l with
  | nil => simp [sumL]
  | cons x r ih =>
    have h1 := ih (fun y hy => h y (by simp [hy]))
    have h2 := h x (by simp)
    simp only [sumL, List.length_cons]
    rw [show ((r.length + 1 : Nat) : Int) = (r.length : Int) + 1 from by omega, Int.add_mul, Int.one_mul]; omega
/-- the row while the lengths from k on are done -/
def mixH (base best most : List Int) (L : Int) (k : Nat) : List Int := base.take k ++ (holdG (best.drop k) (most.drop k) L).1
theorem set_same {l : List Int} {k : Nat} {x : Int} (h : l[k]? = some x) : l.set k x = l := by
  apply List.ext_getElem?; intro q
  rw [List.getElem?_set]
  by_cases e : k = q
  · subst e; rw [if_pos rfl, h]; split
    · rfl
    · rename_i h2; exact absurd (lt_of_at h) h2
  · rw [if_neg e]
theorem take_len {l : List Int} {k : Nat} {x : Int} (h : l[k]? = some x) : (l.take k).length = k := by
  have := lt_of_at h; rw [List.length_take]; omega
theorem mixH_at {base : List Int} {k : Nat} {z : Int} (best most : List Int) (L : Int) (h : base[k]? = some z) : (mixH base best most L (k + 1))[k]? = some z := by
  unfold mixH
  rw [List.take_add_one, h, List.append_assoc, List.getElem?_append_right (by rw [take_len h]; exact Nat.le_refl _), take_len h, Nat.sub_self]; rfl
theorem mixH_set {base best most : List Int} {k : Nat} {z b m : Int} (L : Int) (h : base[k]? = some z) (hb : best[k]? = some b) (hm : most[k]? = some m) : (mixH base best most L (k + 1)).set k (m - min (holdG (best.drop (k + 1)) (most.drop (k + 1)) L).2 (m - b)) = mixH base best most L k := by
  unfold mixH
  rw [holdG_at L hb hm, List.take_add_one, h, List.append_assoc, List.set_append_right _ _ (by rw [take_len h]; exact Nat.le_refl _), take_len h, Nat.sub_self]; rfl
theorem mixH_full {base best most : List Int} {n : Nat} (L : Int) (h0 : base.length = n) (h1 : best.length = n) : mixH base best most L n = base := by
  unfold mixH
  rw [holdG_end L (by omega), List.take_of_length_le (by omega), List.append_nil]
theorem mixH_zero (base best most : List Int) (L : Int) : mixH base best most L 0 = (holdG best most L).1 := by
  unfold mixH; simp
/-- the laps of who holds out lie between the bounds -/
theorem holdG_bd : ∀ (best most : List Int) (left : Int), 0 ≤ left → (∀ (k : Nat) (b m : Int), best[k]? = some b → most[k]? = some m → 1 ≤ b ∧ b ≤ m ∧ m ≤ 360000) → 0 ≤ (holdG best most left).2 ∧ ∀ x ∈ (holdG best most left).1, 1 ≤ x ∧ x ≤ 360000
  | [], _, left, h0, _ => ⟨by simpa [holdG] using h0, by simp [holdG]⟩
  | _ :: _, [], left, h0, _ => ⟨by simpa [holdG] using h0, by simp [holdG]⟩
  | b :: bs, m :: ms, left, h0, h => by
    obtain ⟨h1, h2⟩ := holdG_bd bs ms left h0 (fun k b m hb hm => h (k + 1) b m (by simpa using hb) (by simpa using hm))
    obtain ⟨h3, h4, h5⟩ := h 0 b m rfl rfl
    refine ⟨by simp only [holdG]; omega, fun x hx => ?_⟩
    simp only [holdG, List.mem_cons] at hx
    rcases hx with rfl | hx
    · omega
    · exact h2 x hx
end Go.Proofs.YtamcmehmcbjgjaaGreatDoor

/- The reference's HoldFault. -/
namespace Go.Proofs.YtamcmehmcbjgjaaGreatDoor
open Go.RowKit
set_option linter.unusedVariables false

end Go.Proofs.YtamcmehmcbjgjaaGreatDoor

/- The reference's HoldOf: hundredth by hundredth, the last length first. -/
namespace Go.Proofs.YtamcmehmcbjgjaaGreatDoor
open Go.RowKit
set_option linter.unusedVariables false

end Go.Proofs.YtamcmehmcbjgjaaGreatDoor

/- race.Hold: errors and answers in one. -/
namespace Go.Proofs.YtamcmehmcbjgjaaGreatDoor
open Go.RowKit
set_option linter.unusedVariables false

def RetH (B : World) (S : Int) (L : List Int) (E : Int) (e : Ending) (w' : World) : Prop :=
  ∃ A' n' c', e = .returned (.tuple #[.int .i64 (if E = 0 then S else 0), .slice A' n' c', .int .i64 E]) ∧ RI 3 w' A' n' (if E = 0 then L else []) ∧ Below B.heap.size B w'
theorem retH_err {B w' : World} {S E x : Int} {L : List Int} (h : E = x) (hx : x ≠ 0) (hb : Below B.heap.size B w') : RetH B S L E (.returned (.tuple #[.int .i64 0, .slice none 0 0, .int .i64 x])) w' := by
  subst h
  refine ⟨none, 0, 0, ?_, ?_, hb⟩
  · rw [if_neg hx]
  · rw [if_neg hx]; exact R1.nil_ _ _ _ _
theorem retH_ok {B w' : World} {S E s : Int} {L l : List Int} {A : Option Addr} {n c : Nat} (h : E = 0) (hs : s = S) (hl : l = L) (hr : RI 3 w' A n l) (hb : Below B.heap.size B w') : RetH B S L E (.returned (.tuple #[.int .i64 s, .slice A n c, .int .i64 0])) w' := by
  subst h; subst hs; subst hl
  exact ⟨A, n, c, rfl, hr, hb⟩
def holdE (r : Race) (best most : List Int) : Int := if raceErr r ≠ 0 then raceErr r else holdErr r best most
def holdLs (best most : List Int) : List Int := (holdG best most (couldL best most / 2)).1
end Go.Proofs.YtamcmehmcbjgjaaGreatDoor
