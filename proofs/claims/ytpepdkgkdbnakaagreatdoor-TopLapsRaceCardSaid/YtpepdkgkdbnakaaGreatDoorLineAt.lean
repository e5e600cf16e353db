import Derived.Test.YtpepdkgkdbnakaaGreatDoorTurns
import Derived.Test.YtpepdkgkdbnakaaGreatDoorFadeR
import Derived.BigGuardPart
/- The reference's FarOf; LineAt's errors. -/
namespace Go.Proofs.YtpepdkgkdbnakaaGreatDoor
open Go.RowKit
set_option linter.unusedVariables false

end Go.Proofs.YtpepdkgkdbnakaaGreatDoor

/- LineAt whole: errors and value in one contract. -/
namespace Go.Proofs.YtpepdkgkdbnakaaGreatDoor
open Go.RowKit
set_option linter.unusedVariables false

def lineE (r : Race) (l : List Int) (t : Int) : Int := if wholeErr r l = 0 then (if 0 ≤ t ∧ t ≤ 360000 then 0 else 1) else wholeErr r l
def lineN (r : Race) (l : List Int) (t : Int) : Int := if lineE r l t = 0 then fracN (farP r.course (r.metres * r.legs) l t).1 (farP r.course (r.metres * r.legs) l t).2 else 0
def lineD (r : Race) (l : List Int) (t : Int) : Int := if lineE r l t = 0 then fracD (farP r.course (r.metres * r.legs) l t).1 (farP r.course (r.metres * r.legs) l t).2 else 0
theorem lineE_ok {r : Race} {l : List Int} {t : Int} (h : lineE r l t = 0) : wholeErr r l = 0 ∧ 0 ≤ t ∧ t ≤ 360000 := by
  unfold lineE at h; split at h
  · rename_i h1; split at h
    · rename_i h2; exact ⟨h1, h2.1, h2.2⟩
    · cases h
  · rename_i h1; exact absurd h h1
set_option maxHeartbeats 1600000 in
set_option maxRecDepth 100000 in
theorem lineAt_err (r : Race) (A : Option Addr) (n c : Nat) (l : List Int) (t : Int) (w : World) (h : RI 3 w A n l) (hE : lineE r l t ≠ 0) :
    Calls Tryz.prog 99 #[r.val, .slice A n c, .int .i64 t] w fun e w' => e = .returned (.tuple #[.agg #[.int .i64 0, .int .i64 0], .int .i64 (lineE r l t)]) ∧ Below w.heap.size w w' := by
  have Hs := fun W h => checkWhole_c r A n c l W h
  unfold lineE at *
  generalize wholeErr r l = E at *
  have Hs' := Lib.hid Hs
  clear Hs
  obtain ⟨key, metres, stroke, course, legs, sex, young, old⟩ := r
  dsimp only [Race.val, Race.cells] at *
  have hb0 := heap_alloc_new (w.alloc (.cells #[.string key, .int .i64 metres, .int .i64 stroke, .int .i64 course, .int .i64 legs, .int .i64 sex, .int .i64 young, .int .i64 old] 139)) (.cells #[.int .i64 0, .int .i64 0] 153)
  by_cases h1 : E = 0
  · subst h1
    have h2 : ¬ (0 ≤ t ∧ t ≤ 360000) := by intro h2; simp [h2] at hE
    have hR := Lib.hid (show (if (0 : Int) = 0 then (if 0 ≤ t ∧ t ≤ 360000 then (0 : Int) else 1) else 0) = 1 by rw [if_pos rfl, if_neg h2])
    have hd : decide (0 ≤ t ∧ t ≤ 360000) = false := decide_eq_false h2
    rw [hR.out]
    clear hE hR h2
    go_enter Tryz.func99, Tryz.ntmps99
    go_wp2_with fail
    refine (Hs'.out _ ((h.alloc _).alloc _)).mono ?_; rintro e w1 ⟨rfl, B1⟩
    have hb1 := blk_below hb0 B1
    go_wp2_with fail
    refine (within_c _ _ _ _).mono ?_; rintro e w' ⟨rfl, rfl⟩
    obtain ⟨Z, Y⟩ := blk_facts hb1
    simp only [alloc_size] at Z Y
    have B := below_box (below_box B1)
    clear hb0 hb1 B1
    rw [hd]
    go_wp2
    refine bodyPost_ret (v := .tuple #[.agg #[.int .i64 0, .int .i64 0], .int .i64 1]) (by simp [results, Tryz.results99, go_sem, Z]) rfl ⟨rfl, ?_⟩
    exact (B.setCell (by simp) _).setCell (by simp) _
  · have hR := Lib.hid (show (if E = 0 then (if 0 ≤ t ∧ t ≤ 360000 then (0 : Int) else 1) else E) = E by rw [if_neg h1])
    rw [hR.out]
    clear hE hR
    go_enter Tryz.func99, Tryz.ntmps99
    go_wp2_with fail
    refine (Hs'.out _ ((h.alloc _).alloc _)).mono ?_; rintro e w1 ⟨rfl, B1⟩
    have hb1 := blk_below hb0 B1
    obtain ⟨Z, Y⟩ := blk_facts hb1
    simp only [alloc_size] at Z Y
    have B := below_box (below_box B1)
    clear hb0 hb1 B1
    have hne : (E != 0) = true := by simpa using h1
    have hbe := beq_eq_false_iff_ne.2 h1
    go_wp2
    refine bodyPost_ret (v := .tuple #[.agg #[.int .i64 0, .int .i64 0], .int .i64 E]) (by simp [results, Tryz.results99, go_sem, Z]) rfl ⟨rfl, ?_⟩
    exact (B.setCell (by simp) _).setCell (by simp) _
theorem lineAtA_c (r : Race) (A : Option Addr) (n c : Nat) (l : List Int) (t : Int) (w : World) (h : RI 3 w A n l) :
    Calls Tryz.prog 99 #[r.val, .slice A n c, .int .i64 t] w fun e w' => e = .returned (.tuple #[.agg #[.int .i64 (lineN r l t), .int .i64 (lineD r l t)], .int .i64 (lineE r l t)]) ∧ Below w.heap.size w w' := by
  by_cases h0 : lineE r l t = 0
  · obtain ⟨h1, h2, h3⟩ := lineE_ok h0
    have := lineAt_c r A n c l t w h h1 h2 h3
    unfold lineN lineD
    rw [h0, if_pos rfl, if_pos rfl]
    exact this
  · have := lineAt_err r A n c l t w h h0
    unfold lineN lineD
    rw [if_neg h0, if_neg h0]
    exact this
end Go.Proofs.YtpepdkgkdbnakaaGreatDoor
