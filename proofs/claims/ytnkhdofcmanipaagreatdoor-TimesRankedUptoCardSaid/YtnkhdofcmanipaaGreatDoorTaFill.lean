import Derived.Test.YtnkhdofcmanipaaGreatDoorShelf
import Derived.Test.YtnkhdofcmanipaaGreatDoorTaStructs
import Derived.BigGuardPart
import Derived.Test.YtnkhdofcmanipaaGreatDoorTaLens
import Derived.Test.YtnkhdofcmanipaaGreatDoorTaClock
/- Library functions on slices of ints, in this family's words: Contains, Equal, Clone; cmp.Or. -/
namespace Go.Proofs.YtnkhdofcmanipaaGreatDoor
open Go.RowKit
set_option linter.unusedVariables false

def orV : List Int → Int
  | [] => 0
  | x :: r => if x ≠ 0 then x else orV r
theorem orV_at {l : List Int} {k : Nat} {x : Int} (h : l[k]? = some x) : orV (l.drop k) = if x ≠ 0 then x else orV (l.drop (k + 1)) := by rw [drop_at h]; rfl
theorem orE_c (A : Option Addr) (n c : Nat) (l : List Int) (w : World) (h : RI 30 w A n l) :
    Calls Tryz.prog 7 #[.slice A n c] w fun e w' => e = .returned (.int .i64 (orV l)) ∧ w = w' := by
  have hl := h.len
  have hb := h.bd
  go_enter Tryz.func7, Tryz.ntmps7
  go_wp2
  go_loop [8] (fun i => ∃ k : Nat, k ≤ n ∧ i = .int .i64 k ∧ Hid (orV (l.drop k) = orV l)) (fun i => n - (intOf i).toNat)
  case atStart => exact ⟨0, Nat.zero_le _, rfl, Lib.hid rfl⟩
  case round =>
    obtain ⟨k, hk, rfl, hF⟩ := hrel
    by_cases hlt : k < n
    · obtain ⟨b, off, x, rfl, _, hx, hcell⟩ := h.at_ hlt
      have hS := Lib.hid (orV_at hx)
      clear hx h hl
      go_wp2
      · go_ret
        exact ⟨ret_i (by rw [← hF.out, hS.out, if_pos (by first | omega | (simp_all; done) | (simp_all; omega))]), rfl⟩
      · go_round
        case rel => exact ⟨k + 1, by omega, by go_num, Lib.hid (by rw [← hF.out, hS.out, if_neg (by first | omega | (simp_all; done) | (simp_all; omega))])⟩
        case measure => simp [intOf]; omega
    · have hS : Hid (orV l = 0) := Lib.hid (by rw [← hF.out, drop_end (by omega)]; rfl)
      clear hl
      go_wp2
      go_ret
      exact ⟨ret_i (by rw [hS.out]), rfl⟩
end Go.Proofs.YtnkhdofcmanipaaGreatDoor

/- The errors of splits: the program's and the reference's. -/
namespace Go.Proofs.YtnkhdofcmanipaaGreatDoor
open Go.RowKit
set_option linter.unusedVariables false

end Go.Proofs.YtnkhdofcmanipaaGreatDoor

/- The errors of splits by the reference; whole splits. -/
namespace Go.Proofs.YtnkhdofcmanipaaGreatDoor
open Go.RowKit
set_option linter.unusedVariables false

end Go.Proofs.YtnkhdofcmanipaaGreatDoor

/- Plain lemmas: a list that is filled in order; bounds of right splits. -/
namespace Go.Proofs.YtnkhdofcmanipaaGreatDoor
open Go.RowKit
set_option linter.unusedVariables false

end Go.Proofs.YtnkhdofcmanipaaGreatDoor
