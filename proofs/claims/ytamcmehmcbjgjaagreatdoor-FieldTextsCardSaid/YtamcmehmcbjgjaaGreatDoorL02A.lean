/- PacesKept: contracts that serve for every race, splits and time; raced. -/
import Derived.Test.YtamcmehmcbjgjaaGreatDoorFadeR
import Derived.Test.YtamcmehmcbjgjaaGreatDoorSplits2
namespace Go.Proofs.YtamcmehmcbjgjaaGreatDoor
open Go.RowKit
set_option linter.unusedVariables false

theorem timeErr_t {t : Int} (h : 1 ≤ t ∧ t ≤ 360000) : timeErr t = 0 := by unfold timeErr; rw [if_pos h]
theorem timeErr_f {t : Int} (h : ¬ (1 ≤ t ∧ t ≤ 360000)) : timeErr t = 1 := by unfold timeErr; rw [if_neg h]
/-- the first one of two errors -/
def or2 (a b : Int) : Int := orV [a, b]
theorem or2_l {a b : Int} (h : a ≠ 0) : or2 a b = a := by unfold or2; rw [orV_two, if_pos h]
theorem or2_r {a b : Int} (h : a = 0) : or2 a b = b := by unfold or2; rw [orV_two, if_neg (by simp [h])]

/-- race.Even -/
def evenAL (r : Race) (t : Int) : List Int := if or2 (raceErr r) (timeErr t) = 0 then riseL (evenL t (lenV r)) else []
def evenAE (r : Race) (t : Int) : Int := if or2 (raceErr r) (timeErr t) = 0 then riseE (evenL t (lenV r)) else or2 (raceErr r) (timeErr t)
theorem evenA_err {r : Race} {t : Int} {x : Int} (h : or2 (raceErr r) (timeErr t) = x) (hx : x ≠ 0) : evenAL r t = [] ∧ evenAE r t = x := by
  subst h; unfold evenAL evenAE; rw [if_neg hx, if_neg hx]; exact ⟨rfl, rfl⟩
theorem evenA_ok {r : Race} {t : Int} (h : or2 (raceErr r) (timeErr t) = 0) : evenAL r t = riseL (evenL t (lenV r)) ∧ evenAE r t = riseE (evenL t (lenV r)) := by
  unfold evenAL evenAE; rw [if_pos h, if_pos h]; exact ⟨rfl, rfl⟩
theorem or2_zero {a t : Int} (h : or2 a (timeErr t) = 0) : a = 0 ∧ 1 ≤ t ∧ t ≤ 360000 := by
  have ha : a = 0 := by
    by_cases ha : a = 0
    · exact ha
    · rw [or2_l ha] at h; exact h
  rw [or2_r ha] at h
  unfold timeErr at h
  split at h
  · exact ⟨ha, by assumption⟩
  · cases h
/-- race.Like -/
def likeAL (r : Race) (l : List Int) (t : Int) : List Int := if or2 (wholeErr r l) (timeErr t) = 0 then riseL (likeL l t) else []
def likeAE (r : Race) (l : List Int) (t : Int) : Int := if or2 (wholeErr r l) (timeErr t) = 0 then riseE (likeL l t) else or2 (wholeErr r l) (timeErr t)
theorem likeA_err {r : Race} {l : List Int} {t : Int} {x : Int} (h : or2 (wholeErr r l) (timeErr t) = x) (hx : x ≠ 0) : likeAL r l t = [] ∧ likeAE r l t = x := by
  subst h; unfold likeAL likeAE; rw [if_neg hx, if_neg hx]; exact ⟨rfl, rfl⟩
theorem likeA_ok {r : Race} {l : List Int} {t : Int} (h : or2 (wholeErr r l) (timeErr t) = 0) : likeAL r l t = riseL (likeL l t) ∧ likeAE r l t = riseE (likeL l t) := by
  unfold likeAL likeAE; rw [if_pos h, if_pos h]; exact ⟨rfl, rfl⟩
theorem eqB_refl (l : List Int) : eqB l l = true := by unfold eqB; simp

theorem raced_c (w : World) : Calls Tryz.prog 13 #[] w fun e w' => e = .returned (.bool true) ∧ Below w.heap.size w w' := by
  have hw : wholeErr ⟨⟨#[114]⟩, 100, 1, 50, 1, 0, 0, 9⟩ [3100, 6100] = 0 := by kernel_rfl
  have hL := fun (A : Option Addr) (n c : Nat) (W : World) (h : RI 3 W A n [3100, 6100]) => lineAt_c ⟨⟨#[114]⟩, 100, 1, 50, 1, 0, 0, 9⟩ A n c [3100, 6100] 3000 W h hw (by omega) (by omega)
  have hv : fracV (farP 50 (100 * 1) [3100, 6100] 3000).1 (farP 50 (100 * 1) [3100, 6100] 3000).2 = .agg #[.int .i64 1500, .int .i64 31] := by kernel_rfl
  dsimp only at hL
  rw [hv] at hL
  have hL' := Lib.hid hL
  clear hL hv hw
  have hr0 := R1.lit (enc := Value.int .i64) (e := 3) w #[.int .i64 3100, .int .i64 6100] [3100, 6100] rfl (le_big (by decide))
  go_enter Tryz.func13, Tryz.ntmps13
  go_wp2_with fail
  refine (hL'.out _ _ _ _ hr0).mono ?_; rintro e w1 ⟨rfl, B1⟩
  go_wp2
  go_ret
  exact ⟨rfl, by first | exact below_box B1 | exact (below_box B1).alloc (below_box B1).size _⟩
end Go.Proofs.YtamcmehmcbjgjaaGreatDoor
