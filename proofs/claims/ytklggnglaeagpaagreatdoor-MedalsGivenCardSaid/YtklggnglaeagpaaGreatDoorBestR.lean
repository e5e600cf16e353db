import Derived.Test.YtklggnglaeagpaaGreatDoorStructs
import Derived.Test.YtklggnglaeagpaaGreatDoorTurns
import Derived.Deep.RegionHeld3
import Derived.BigGuardPart
import Derived.IntWalk
import Derived.Test.YtklggnglaeagpaaGreatDoorRows2
import Derived.Deep.AppendLies
import Derived.Test.YtklggnglaeagpaaGreatDoorProg
import Derived.Laws.StructEq
/- Fields of swimmers: as data; the checks of a field. -/
namespace Go.Proofs.YtklggnglaeagpaaGreatDoor
open Go.RowKit
set_option linter.unusedVariables false

structure Sw where
  who : ByteArray
  A : Option Addr
  n : Nat
  c : Nat
  sp : List Int
def swE (x : Sw) : List Value := [.string x.who, .slice x.A x.n x.c]
theorem swE_len : ∀ x, (swE x).length = 2 := fun _ => rfl
section
variable {w w' : World} {A : Option Addr} {n : Nat} {l : List Sw}
end
/-- what an append onto a row leaves: every block of another element type -/
theorem keep_of_app {w w' : World} {base : Nat} {e : TypeId} {size n : Nat} {v : Value} {xs : List Value} (hown : w.ownsRow base e size v n xs) (hg : w.grownBy w' v.ownBlock) : Keep e w w' := fun b cs t fz hne hb => blk_grown hb hg (fun he => by
  rcases hown.2 with ⟨rfl, _⟩ | ⟨g', cap, cur, rfl, _, hh, _⟩
  · simp [Value.ownBlock] at he
  · have e1 : b = g' := by simpa [Value.ownBlock] using he
    subst e1
    rw [hb] at hh
    injection hh with hh
    injection hh with _ ht
    exact hne ht)
/-! ## the checks -/
def leS (a b : ByteArray) : Bool := Op.bytesLess a.toList b.toList || (a.toList == b.toList)
def leO (a : ByteArray) : Option ByteArray → Bool
  | none => false
  | some b => leS a b
def fieldGo (r : Race) : Option ByteArray → List Sw → Int
  | _, [] => 0
  | p, x :: l => if keyB x.who = false then 5 else if leO x.who p = true then 7 else if wholeErr r x.sp ≠ 0 then wholeErr r x.sp else fieldGo r (some x.who) l
def fieldErr (r : Race) (l : List Sw) : Int := if raceErr r ≠ 0 then raceErr r else if 20 < l.length then 2 else fieldGo r none l
def prevS (l : List Sw) (k : Nat) : Option ByteArray := if k = 0 then none else (l[k - 1]?).map Sw.who
theorem prevS_succ {l : List Sw} {k : Nat} {x : Sw} (h : l[k]? = some x) : prevS l (k + 1) = some x.who := by unfold prevS; rw [if_neg (by omega)]; show (l[k]?).map Sw.who = _; rw [h]; rfl
theorem fieldGo_at {r : Race} {l : List Sw} {k : Nat} {x : Sw} (p : Option ByteArray) (h : l[k]? = some x) : fieldGo r p (l.drop k) = if keyB x.who = false then 5 else if leO x.who p = true then 7 else if wholeErr r x.sp ≠ 0 then wholeErr r x.sp else fieldGo r (some x.who) (l.drop (k + 1)) := by rw [drop_at h]; rfl

end Go.Proofs.YtklggnglaeagpaaGreatDoor

/- Fields of swimmers: the reference's check. -/
namespace Go.Proofs.YtklggnglaeagpaaGreatDoor
open Go.RowKit
set_option linter.unusedVariables false

end Go.Proofs.YtklggnglaeagpaaGreatDoor

/- How many hundredths all were before a line: the reference's and the program's. -/
namespace Go.Proofs.YtklggnglaeagpaaGreatDoor
open Go.RowKit
set_option linter.unusedVariables false

theorem info_pair : (Tryz.prog.info? 172).map (fun i => (i.zero, i.size, i.bytes)) = some (some (.agg #[.string ⟨#[]⟩, .string ⟨#[]⟩]), 2, 32) := by kernel_rfl
def aheadL (t : Int) (l : List Sw) : List Pr := l.map fun x => ⟨x.who, itoaS (t - x.sp.getLastD 0)⟩
theorem aheadL_at {t : Int} {l : List Sw} {k : Nat} {x : Sw} (h : l[k]? = some x) : aheadL t (l.drop k) = ⟨x.who, itoaS (t - x.sp.getLastD 0)⟩ :: aheadL t (l.drop (k + 1)) := by rw [drop_at h]; rfl
end Go.Proofs.YtklggnglaeagpaaGreatDoor

/- How many hundredths all were before a line: the program's. -/
namespace Go.Proofs.YtklggnglaeagpaaGreatDoor
open Go.RowKit
set_option linter.unusedVariables false

theorem fieldGo_mem {r : Race} : ∀ {l : List Sw} {p : Option ByteArray}, fieldGo r p l = 0 → ∀ x ∈ l, wholeErr r x.sp = 0
  | [], _, _, x, h => by simp at h
  | y :: l, p, h0, x, h => by
    unfold fieldGo at h0
    split at h0
    · cases h0
    · split at h0
      · cases h0
      · split at h0
        · rename_i h1; exact absurd h0 h1
        · rename_i h1
          rcases List.mem_cons.mp h with rfl | h
          · omega
          · exact fieldGo_mem h0 x h
theorem fieldErr_ok {r : Race} {l : List Sw} (h : fieldErr r l = 0) : raceErr r = 0 ∧ l.length ≤ 20 ∧ ∀ x ∈ l, wholeErr r x.sp = 0 := by
  unfold fieldErr at h
  split at h
  · rename_i h1; exact absurd h h1
  · split at h
    · cases h
    · exact ⟨by omega, by omega, fieldGo_mem h⟩
theorem whole_len {r : Race} {l : List Int} (h : wholeErr r l = 0) : (l.length : Int) = lenV r := (splitsErr_ok (wholeErr_ok h).2.2.2.1).1
def aheadE (r : Race) (l : List Sw) (sp : List Int) : Int := if fieldErr r l ≠ 0 then fieldErr r l else wholeErr r sp
end Go.Proofs.YtklggnglaeagpaaGreatDoor

/- api.Gap as data; slices.Equal over it. -/
namespace Go.Proofs.YtklggnglaeagpaaGreatDoor
open Go.RowKit
set_option linter.unusedVariables false

theorem str_neGp {a b : ByteArray} (h : a ≠ b) : (a.toList == b.toList) = false := by
  rw [beq_eq_false_iff_ne, ByteArray.toList_eq, ByteArray.toList_eq]
  intro e
  exact h (by cases a; cases b; congr 1; exact Array.toList_inj.mp e)
structure Gp where
  who : ByteArray
  length : Int
  behind : Int
deriving DecidableEq
def gpE (p : Gp) : List Value := [.string p.who, .int .i64 p.length, .int .i64 p.behind]
theorem gpE_len : ∀ x, (gpE x).length = 3 := fun _ => rfl
end Go.Proofs.YtklggnglaeagpaaGreatDoor

/- Best laps, plain: column by column (the reference), swim by swim (the program). -/
namespace Go.Proofs.YtklggnglaeagpaaGreatDoor
open Go.RowKit
set_option linter.unusedVariables false

def stepG (g : Gp) (who : ByteArray) (lap : Int) : Gp := if lap < g.behind then ⟨who, g.length, lap⟩ else g
/-- column j over the swims l, from g -/
def colG (j : Nat) (g : Gp) : List Sw → Gp
  | [] => g
  | x :: r => colG j (stepG g x.who ((lapsL x.sp).getD j 0)) r
theorem colG_snoc (j : Nat) (g : Gp) (l : List Sw) (x : Sw) : colG j g (l ++ [x]) = stepG (colG j g l) x.who ((lapsL x.sp).getD j 0) := by
  induction l generalizing g with
  | nil => rfl
  | cons y r ih => exact ih _
def zeroG (j : Nat) : Gp := ⟨⟨#[]⟩, (j : Int) + 1, 360001⟩
def bestL (m : Nat) (l : List Sw) : List Gp := (List.range m).map fun j => colG j (zeroG j) l
theorem bestL_len (m : Nat) (l : List Sw) : (bestL m l).length = m := by simp [bestL]
theorem bestL_at {m j : Nat} (h : j < m) (l : List Sw) : (bestL m l)[j]? = some (colG j (zeroG j) l) := by simp [bestL, h]
/-- the program's row while swim x is under way: the first j columns have seen it -/
def bestW (m j : Nat) (l : List Sw) (x : Sw) : List Gp := (bestL m (l ++ [x])).take j ++ (bestL m l).drop j
theorem bestW_zero (m : Nat) (l : List Sw) (x : Sw) : bestW m 0 l x = bestL m l := by simp [bestW]
theorem bestW_end (m : Nat) (l : List Sw) (x : Sw) : bestW m m l x = bestL m (l ++ [x]) := by
  unfold bestW; rw [List.take_of_length_le (by simp [bestL_len]), List.drop_of_length_le (by simp [bestL_len]), List.append_nil]
theorem bestW_succ {m j : Nat} (h : j < m) (l : List Sw) (x : Sw) : bestW m (j + 1) l x = (bestW m j l x).set j (stepG (colG j (zeroG j) l) x.who ((lapsL x.sp).getD j 0)) := by
  unfold bestW
  have h1 := bestL_at h (l ++ [x])
  have h2 := bestL_at h l
  rw [colG_snoc] at h1
  have h3 : ((bestL m (l ++ [x])).take j).length = j := by rw [List.length_take, bestL_len]; omega
  rw [List.take_add_one, h1, drop_at h2, List.set_append_right _ _ (by omega), h3]
  simp
theorem bestW_at {m j : Nat} (h : j < m) (l : List Sw) (x : Sw) : (bestW m j l x)[j]? = some (colG j (zeroG j) l) := by
  unfold bestW
  have h3 : ((bestL m (l ++ [x])).take j).length = j := by rw [List.length_take, bestL_len]; omega
  rw [List.getElem?_append_right (by omega), h3, Nat.sub_self, List.getElem?_drop, Nat.add_zero, bestL_at h]
/-- the first swim: the program takes its laps as they are -/
theorem best_first {j : Nat} {x : Sw} (h : (lapsL x.sp).getD j 0 ≤ 360000) : colG j (zeroG j) [x] = ⟨x.who, (j : Int) + 1, (lapsL x.sp).getD j 0⟩ := by
  show stepG (zeroG j) x.who _ = _
  unfold stepG zeroG
  rw [if_pos (by show _ < (360001 : Int); omega)]
def sumG : List Gp → Int
  | [] => 0
  | g :: r => g.behind + sumG r
end Go.Proofs.YtklggnglaeagpaaGreatDoor

/- The reference's BestLaps. (UNDER WAY) -/
namespace Go.Proofs.YtklggnglaeagpaaGreatDoor
open Go.RowKit
set_option linter.unusedVariables false

end Go.Proofs.YtklggnglaeagpaaGreatDoor
