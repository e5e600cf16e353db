/- checkSome: the field's fault, or an empty field's. -/
import Derived.Test.YtcdoidhookghaaaDoorSwims2
import Derived.Test.YtcdoidhookghaaaDoorFill
import Derived.BigGuardPart
namespace Go.Proofs.YtcdoidhookghaaaDoor
open Go.RowKit
set_option linter.unusedVariables false

def someErr (r : Race) (l : List Sw) : Int := if fieldErr r l ≠ 0 then fieldErr r l else if l.length = 0 then 8 else 0
theorem some_way {r : Race} {l : List Sw} : orV [fieldErr r l, noneErr (decide (l.length = 0))] = someErr r l := by
  rw [orV_two]; unfold someErr noneErr; by_cases h : l.length = 0 <;> simp [h]
set_option maxHeartbeats 1600000 in
set_option maxRecDepth 100000 in
theorem checkSome_c (r : Race) (A : Option Addr) (n c : Nat) (l : List Sw) (w : World) (h : RSw w A n l) :
    Calls Tryd.prog 71 #[r.val, .slice A n c] w fun e w' => e = .returned (.int .i64 (someErr r l)) ∧ Below w.heap.size w w' := by
  have hF := Lib.hid (fun W h => checkField_c r A n c l W h)
  have hE : someErr r l = if fieldErr r l ≠ 0 then fieldErr r l else if n = 0 then 8 else 0 := by unfold someErr; rw [h.len]
  rw [hE]
  clear hE
  generalize fieldErr r l = FE at *
  obtain ⟨key, metres, stroke, course, legs, sex, young, old⟩ := r
  dsimp only [Race.val, Race.cells] at *
  by_cases h0 : FE = 0
  · subst h0
    by_cases h1 : n = 0
    · have hR := Lib.hid (show (if (0 : Int) ≠ 0 then (0 : Int) else if n = 0 then 8 else 0) = 8 by simp [h1])
      rw [hR.out]
      clear hR
      subst h1
      go_enter Tryd.func71, Tryd.ntmps71
      go_wp2_with fail
      refine (hF.out _ (h.alloc _)).mono ?_; rintro e w1 ⟨rfl, B1⟩
      have B := below_box B1
      clear B1
      go_wp2
      go_ret
      exact ⟨rfl, B⟩
    · have hR := Lib.hid (show (if (0 : Int) ≠ 0 then (0 : Int) else if n = 0 then 8 else 0) = 0 by simp [h1])
      rw [hR.out]
      clear hR
      have h2 : ((n : Int) == 0) = false := beq_eq_false_iff_ne.2 (by omega)
      go_enter Tryd.func71, Tryd.ntmps71
      go_wp2_with fail
      refine (hF.out _ (h.alloc _)).mono ?_; rintro e w1 ⟨rfl, B1⟩
      have B := below_box B1
      clear B1
      go_wp2
      go_ret
      exact ⟨rfl, B⟩
  · have hR := Lib.hid (show (if FE ≠ 0 then FE else if n = 0 then 8 else 0) = FE by rw [if_pos h0])
    rw [hR.out]
    clear hR
    have hne : (FE != 0) = true := by simpa using h0
    have hbe := beq_eq_false_iff_ne.2 h0
    clear h0
    go_enter Tryd.func71, Tryd.ntmps71
    go_wp2_with fail
    refine (hF.out _ (h.alloc _)).mono ?_; rintro e w1 ⟨rfl, B1⟩
    have B := below_box B1
    clear B1
    go_wp2
    go_ret
    exact ⟨rfl, B⟩
end Go.Proofs.YtcdoidhookghaaaDoor
