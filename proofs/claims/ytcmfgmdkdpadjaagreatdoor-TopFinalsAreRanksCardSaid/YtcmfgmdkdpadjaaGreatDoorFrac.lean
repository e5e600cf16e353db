/- Fractions in lowest terms: words.Fraction, the reference's divisor and Lowest. -/
import Derived.Test.YtcmfgmdkdpadjaaGreatDoorStructs
namespace Go.Proofs.YtcmfgmdkdpadjaaGreatDoor
open Go.RowKit
set_option linter.unusedVariables false

def fracN (a b : Int) : Int := a / (Int.gcd a b : Int)
def fracD (a b : Int) : Int := b / (Int.gcd a b : Int)
def fracV (a b : Int) : Value := .agg #[.int .i64 (fracN a b), .int .i64 (fracD a b)]
theorem gcd_step {x y : Int} (hx : 0 < x) (hy : 0 ≤ y) : Int.gcd (y % x) x = Int.gcd x y := by
  rw [Int.gcd_comm x y]
  obtain ⟨a, rfl⟩ := Int.eq_ofNat_of_zero_le hy
  obtain ⟨b, rfl⟩ := Int.eq_ofNat_of_zero_le (Int.le_of_lt hx)
  show Nat.gcd ((a : Int) % b).natAbs b = Nat.gcd a b
  rw [← Int.natCast_emod, Int.natAbs_natCast, Nat.gcd_comm a b, Nat.gcd_rec b a]
theorem gcd_zero {y : Int} (hy : 0 ≤ y) : ((Int.gcd 0 y : Nat) : Int) = y := by rw [Int.gcd_zero_left]; omega
theorem gcd_zero' {y : Int} (hy : 0 ≤ y) : ((Int.gcd y 0 : Nat) : Int) = y := by rw [Int.gcd_zero_right]; omega
theorem gcd_pos {a b : Int} (hb : 0 < b) : (1 : Int) ≤ (Int.gcd a b : Int) := by
  have : 0 < Int.gcd a b := Int.gcd_pos_of_ne_zero_right a (by omega)
  omega
theorem gcd_le {a b : Int} (hb : 0 < b) : ((Int.gcd a b : Nat) : Int) ≤ b := Int.le_of_dvd hb (Int.gcd_dvd_right _ _)

end Go.Proofs.YtcmfgmdkdpadjaaGreatDoor
