/- Fractions in lowest terms: words.Fraction, the reference's divisor and Lowest. -/
import Derived.Test.YtlddeeagnlgciaaDoorStructs
namespace Go.Proofs.YtlddeeagnlgciaaDoor
open Go.RowKit
set_option linter.unusedVariables false

def fracN (a b : Int) : Int := a / (Int.gcd a b : Int)
def fracD (a b : Int) : Int := b / (Int.gcd a b : Int)
def fracV (a b : Int) : Value := .agg #[.int .i64 (fracN a b), .int .i64 (fracD a b)]
theorem gcd_step {x y : Int} (hx : 0 < x) (hy : 0 ≤ y) : Int.gcd (y % x) x = Int.gcd x y := by
  rw [Int.gcd_comm x y]
  obtain ⟨a, rfl⟩ := Int.eq_ofNat_of_zero_le hy
  obtain ⟨b, rfl⟩ := Int.eq_ofNat_of_zero_le (Int.le_of_lt hx)
  show Nat.gcd ((a : Int) % b).natAbs b = Nat.gcd a b
  rw [← Int.natCast_emod, Int.natAbs_natCast, Nat.gcd_comm a b, Nat.gcd_rec b a]
theorem gcd_zero {y : Int} (hy : 0 ≤ y) : ((Int.gcd 0 y : Nat) : Int) = y := by rw [Int.gcd_zero_left]; omega
theorem gcd_zero' {y : Int} (hy : 0 ≤ y) : ((Int.gcd y 0 : Nat) : Int) = y := by rw [Int.gcd_zero_right]; omega
theorem gcd_pos {a b : Int} (hb : 0 < b) : (1 : Int) ≤ (Int.gcd a b : Int) := by
  have : 0 < Int.gcd a b := Int.gcd_pos_of_ne_zero_right a (by omega)
  omega
theorem gcd_le {a b : Int} (hb : 0 < b) : ((Int.gcd a b : Nat) : Int) ≤ b := Int.le_of_dvd hb (Int.gcd_dvd_right _ _)

set_option maxHeartbeats 800000 in
theorem frac_c (a b : Int) (w : World) (ha : 0 ≤ a) (hb : 0 < b) (ha1 : a ≤ 4611686018427387904) (hb1 : b ≤ 4611686018427387904) :
    Calls Tryd.prog 66 #[.int .i64 a, .int .i64 b] w fun e w' => e = .returned (fracV a b) ∧ Below w.heap.size w w' := by
  have hg := gcd_pos (a := a) hb
  have hG := Lib.hid (rfl : ((Int.gcd a b : Nat) : Int) = ((Int.gcd a b : Nat) : Int))
  go_enter Tryd.func66, Tryd.ntmps66
  go_wp2
  go_loop [5, 6] (fun x y => ∃ x' y' : Int, x = .int .i64 x' ∧ y = .int .i64 y' ∧ 0 ≤ x' ∧ 0 < y' ∧ x' ≤ 4611686018427387904 ∧ y' ≤ 4611686018427387904 ∧ Hid (Int.gcd x' y' = Int.gcd a b)) (fun x _ => (intOf x).toNat)
  case atStart => exact ⟨a, b, rfl, rfl, ha, hb, ha1, hb1, Lib.hid rfl⟩
  case round =>
    obtain ⟨x, y, rfl, rfl, hx, hy, hx1, hy1, hK⟩ := hrel
    by_cases hpos : 0 < x
    · have h1 := Int.emod_nonneg y (b := x) (by omega)
      have h2 := Int.emod_lt_of_pos y hpos
      go_wp2
      go_round
      case rel => exact ⟨y % x, x, rfl, rfl, h1, hpos, by omega, hx1, Lib.hid (by rw [gcd_step hpos (by omega), hK.out])⟩
      case measure => simp [intOf]; omega
    · obtain rfl : x = 0 := by omega
      have hy' : (Int.gcd a b : Int) = y := by rw [← hK.out]; exact gcd_zero (by omega)
      have e1 : fracN a b = a / y := by unfold fracN; rw [hy']
      have e2 : fracD a b = b / y := by unfold fracD; rw [hy']
      have H1 := Lib.hid e1
      have H2 := Lib.hid e2
      clear e1 e2 hG hy' hK hg
      go_wp2
      go_region
      go_wp2
      refine bodyPost_ret (v := .agg #[.int .i64 (a / y), .int .i64 (b / y)]) (by simp [results, Tryd.results66, go_sem]) rfl ⟨by unfold fracV; rw [H1.out, H2.out], ?_⟩
      exact below_drewN (below_new w _) 1
theorem divisor_c (a b : Int) (w : World) (ha : 0 ≤ a) (hb : 0 < b) (ha1 : a ≤ 4611686018427387904) (hb1 : b ≤ 4611686018427387904) :
    Calls Tryd.prog 113 #[.int .i64 a, .int .i64 b] w fun e w' => e = .returned (.int .i64 (Int.gcd a b : Int)) ∧ ∃ n, w' = w.drewN n := by
  go_enter Tryd.func113, Tryd.ntmps113
  go_wp2
  go_loopw [0, 1] (fun x y wr => ∃ x' y' : Int, x = .int .i64 x' ∧ y = .int .i64 y' ∧ 0 ≤ x' ∧ 0 ≤ y' ∧ x' ≤ 4611686018427387904 ∧ y' ≤ 4611686018427387904 ∧ Hid (Int.gcd x' y' = Int.gcd a b) ∧ ∃ n, wr = w.drewN n) (fun _ y _ => (intOf y).toNat)
  case atStart => exact ⟨a, b, rfl, rfl, ha, by omega, ha1, hb1, Lib.hid rfl, 0, rfl⟩
  case round =>
    obtain ⟨x, y, rfl, rfl, hx, hy, hx1, hy1, hK, n, rfl⟩ := hrel
    by_cases hpos : 0 < y
    · have h1 := Int.emod_nonneg x (b := y) (by omega)
      have h2 := Int.emod_lt_of_pos x hpos
      go_wp2
      go_quiet (fail)
      go_wp2
      go_roundw
      case rel => exact ⟨y, x % y, rfl, by first | rfl | simp [Int.tmod_eq_emod_of_nonneg hx], by omega, h1, hy1, by omega, Lib.hid (by rw [← hK.out, Int.gcd_comm, gcd_step hpos (by omega), Int.gcd_comm]), _, World.drewN_drewN _ _ _⟩
      case measure => simp [intOf]; omega
    · obtain rfl : y = 0 := by omega
      have hy' : (Int.gcd a b : Int) = x := by rw [← hK.out]; exact gcd_zero' (by omega)
      have H := Lib.hid hy'
      clear hy' hK
      go_wp2
      go_ret
      exact ⟨ret_i H.out.symm, n, rfl⟩

theorem lowest_c (a b : Int) (w : World) (ha : 0 ≤ a) (hb : 0 < b) (ha1 : a ≤ 4611686018427387904) (hb1 : b ≤ 4611686018427387904) :
    Calls Tryd.prog 68 #[.int .i64 a, .int .i64 b] w fun e w' => e = .returned (fracV a b) ∧ Below w.heap.size w w' := by
  have hg := gcd_pos (a := a) hb
  have hgl := gcd_le (a := a) hb
  have hD := divisor_c a b
  have e1 : fracN a b = a / (Int.gcd a b : Int) := rfl
  have e2 : fracD a b = b / (Int.gcd a b : Int) := rfl
  generalize (Int.gcd a b : Int) = y at *
  have H1 := Lib.hid e1
  have H2 := Lib.hid e2
  have hD' := Lib.hid hD
  clear e1 e2 hD
  go_enter Tryd.func68, Tryd.ntmps68
  go_wp2_with fail
  refine (hD'.out _ ha hb ha1 hb1).mono ?_; rintro e w' ⟨rfl, n, rfl⟩
  go_wp2
  go_region
  go_wp2
  refine bodyPost_ret (v := .agg #[.int .i64 (a / y), .int .i64 (b / y)]) (by simp [results, Tryd.results68, go_sem]) rfl ⟨by unfold fracV; rw [H1.out, H2.out], ?_⟩
  exact ((below_drewN (below_new w _) _).setCell (Nat.le_refl _) _).setCell (Nat.le_refl _) _
end Go.Proofs.YtlddeeagnlgciaaDoor
