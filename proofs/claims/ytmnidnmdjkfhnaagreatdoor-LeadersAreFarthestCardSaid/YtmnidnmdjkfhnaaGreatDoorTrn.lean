/- Turns: as data; comparison, worth, the check of one turn. -/
import Derived.Test.YtmnidnmdjkfhnaaGreatDoorStructs
import Derived.Test.YtmnidnmdjkfhnaaGreatDoorFrac
import Derived.Test.YtmnidnmdjkfhnaaGreatDoorLikes
import Derived.Test.YtmnidnmdjkfhnaaGreatDoorKey0
import Derived.Test.YtmnidnmdjkfhnaaGreatDoorFill
import Derived.Deep.RegionHeld3
import Derived.Laws.StructEq
import Derived.BigGuardPart
import Derived.IntWalk
namespace Go.Proofs.YtmnidnmdjkfhnaaGreatDoor
open Go.RowKit
set_option linter.unusedVariables false

structure Trn where
  stroke : Int
  metres : Int
  num : Int
  den : Int
  fixed : Int
def Trn.cells (t : Trn) : Array Value := #[.int .i64 t.stroke, .int .i64 t.metres, .int .i64 t.num, .int .i64 t.den, .int .i64 t.fixed]
abbrev Trn.val (t : Trn) : Value := .agg t.cells
def trnE (t : Trn) : List Value := [.int .i64 t.stroke, .int .i64 t.metres, .int .i64 t.num, .int .i64 t.den, .int .i64 t.fixed]
theorem trnE_len : ∀ x, (trnE x).length = 5 := fun _ => rfl
/-! ## comparison -/
def cmpV (a b : Int) : Int := if a < b then -1 else if b < a then 1 else 0
theorem compare_c (a b : Int) (w : World) : Calls Tryz.prog 106 #[.int .i64 a, .int .i64 b] w fun e w' => e = .returned (.int .i64 (cmpV a b)) ∧ w = w' :=
  (Tryz.cmp_Compare_int a b w).mono fun e w' ⟨he, hw⟩ => ⟨by rw [he]; rfl, hw.symm⟩
theorem cmpV_bd (a b : Int) : -1 ≤ cmpV a b ∧ cmpV a b ≤ 1 := by unfold cmpV; split <;> (try split) <;> omega
theorem orI_c (A : Option Addr) (n c : Nat) (l : List Int) (w : World) (h : RI 3 w A n l) :
    Calls Tryz.prog 110 #[.slice A n c] w fun e w' => e = .returned (.int .i64 (orV l)) ∧ w = w' := by
  have hl := h.len
  have hb := h.bd
  go_enter Tryz.func110, Tryz.ntmps110
  go_wp2
  go_loop [8] (fun i => ∃ k : Nat, k ≤ n ∧ i = .int .i64 k ∧ Hid (orV (l.drop k) = orV l)) (fun i => n - (intOf i).toNat)
  case atStart => exact ⟨0, Nat.zero_le _, rfl, Lib.hid rfl⟩
  case round =>
    obtain ⟨k, hk, rfl, hF⟩ := hrel
    by_cases hlt : k < n
    · obtain ⟨b, off, x, rfl, _, hx, hcell⟩ := h.at_ hlt
      have hS := Lib.hid (orV_at hx)
      clear hx h hl
      go_wp2
      · go_ret
        exact ⟨ret_i (by rw [← hF.out, hS.out, if_pos (by first | omega | (simp_all; done) | (simp_all; omega))]), rfl⟩
      · go_round
        case rel => exact ⟨k + 1, by omega, by go_num, Lib.hid (by rw [← hF.out, hS.out, if_neg (by first | omega | (simp_all; done) | (simp_all; omega))])⟩
        case measure => simp [intOf]; omega
    · have hS : Hid (orV l = 0) := Lib.hid (by rw [← hF.out, drop_end (by omega)]; rfl)
      clear hl
      go_wp2
      go_ret
      exact ⟨ret_i (by rw [hS.out]), rfl⟩

/-! ## worth -/
def worthV (t : Trn) (n : Int) : Int := n - n * t.num / t.den - t.fixed
def Trn.ok (t : Trn) : Prop := 1 ≤ t.den ∧ t.den ≤ 10000 ∧ 0 ≤ t.num ∧ t.num ≤ t.den ∧ 0 ≤ t.fixed ∧ t.fixed ≤ 6000
/-! ## the check of one turn -/
def turnErr (t : Trn) : Int :=
  if ¬ (1 ≤ t.stroke ∧ t.stroke ≤ 5) then 4
  else if ¬ (50 ≤ t.metres ∧ t.metres ≤ 1500) ∨ ¬ (0 ≤ t.fixed ∧ t.fixed ≤ 6000) then 1
  else if ¬ (1 ≤ t.den ∧ t.den ≤ 10000) ∨ ¬ (0 ≤ t.num ∧ t.num ≤ t.den) ∨ (Int.gcd t.num t.den : Int) ≠ 1 then 3
  else 0
theorem turnErr_ok {t : Trn} (h : turnErr t = 0) : t.ok ∧ 1 ≤ t.stroke ∧ t.stroke ≤ 5 ∧ 50 ≤ t.metres ∧ t.metres ≤ 1500 := by
  unfold turnErr at h
  split at h
  · cases h
  · split at h
    · cases h
    · split at h
      · cases h
      · unfold Trn.ok; omega
theorem frac_same {a b : Int} (h : (Int.gcd a b : Int) = 1) : fracN a b = a ∧ fracD a b = b := by
  unfold fracN fracD; rw [h, Int.ediv_one, Int.ediv_one]; exact ⟨rfl, rfl⟩
theorem frac_diff {a b : Int} (hb : 1 ≤ b) (h : (Int.gcd a b : Int) ≠ 1) : fracD a b ≠ b := by
  unfold fracD
  have hp := gcd_pos (a := a) (b := b) (by omega)
  have : b / (Int.gcd a b : Int) < b := Int.ediv_lt_self_of_pos_of_ne_one (by omega) (by omega)
  omega
theorem within_q (a b c : Int) (w : World) : Calls Tryz.prog 48 #[.int .i64 a, .int .i64 b, .int .i64 c] w fun e w' => e = .returned (.bool (decide (b ≤ a ∧ a ≤ c))) ∧ w' = w := (within_c a b c w).mono fun _ _ ⟨h1, h2⟩ => ⟨h1, h2.symm⟩
end Go.Proofs.YtmnidnmdjkfhnaaGreatDoor
