/- How far the buttons of a heat are from its pads: the program's, the reference's. -/
import Derived.Test.YthopkmcabjnfnaaGreatDoorTouch4
namespace Go.Proofs.YthopkmcabjnfnaaGreatDoor
open Go.RowKit
set_option linter.unusedVariables false

def hitB (x : Tc) : Bool := decide (0 < x.btn) && decide ((offV x).by_ = 1)
def shS : List Tc → Int
  | [] => 0
  | x :: r => (if hitB x = true then x.btn - x.pad else 0) + shS r
def shM : List Tc → Nat
  | [] => 0
  | x :: r => (if hitB x = true then 1 else 0) + shM r
def shiftV (l : List Tc) : Int := if shM l < 2 then 0 else (shS l).tdiv (shM l)
def shiftB (l : List Tc) : Bool := decide (2 ≤ shM l)
theorem shS_at {l : List Tc} {k : Nat} {x : Tc} (h : l[k]? = some x) : shS (l.drop k) = (if hitB x = true then x.btn - x.pad else 0) + shS (l.drop (k + 1)) := by rw [drop_at h]; rfl
theorem shM_at {l : List Tc} {k : Nat} {x : Tc} (h : l[k]? = some x) : shM (l.drop k) = (if hitB x = true then 1 else 0) + shM (l.drop (k + 1)) := by rw [drop_at h]; rfl
theorem tdiv_bd {s : Int} {m k : Nat} (h0 : -360000 * (k : Int) ≤ s) (h1 : s ≤ 360000 * (k : Int)) (hm : 2 ≤ m) (hk : k ≤ 10) : -9223372036854775808 ≤ s.tdiv m ∧ s.tdiv m ≤ 9223372036854775807 := by
  have h2 : (s.tdiv m).natAbs ≤ s.natAbs := by rw [Int.natAbs_tdiv]; exact Nat.div_le_self _ _
  omega
set_option maxHeartbeats 3200000 in
set_option maxRecDepth 100000 in
theorem shift_c (A : Option Addr) (n c : Nat) (l : List Tc) (w : World) (h : RTc w A n l) (h0 : heatErr l = 0) :
    Calls Tryz.prog 69 #[.slice A n c] w fun e w' => e = .returned (.tuple #[.int .i64 (shiftV l), .bool (shiftB l)]) ∧ Below w.heap.size w w' := by
  obtain ⟨h10, hok⟩ := heat_ok h0
  have hl := h.len
  rw [hl] at h10
  have hl' := Lib.hid hl
  have hok' := Lib.hid hok
  clear hl hok h0
  have hO := Lib.hid (fun x W h h0 => official_c x W h h0)
  have hSS := Lib.hid (show shiftV l = if shM l < 2 then 0 else (shS l).tdiv (shM l) from rfl)
  have hSB := Lib.hid (show shiftB l = decide (2 ≤ shM l) from rfl)
  generalize shiftV l = SV at *
  generalize shiftB l = SB at *
  generalize hS0 : shS l = S0 at *
  generalize hM0 : shM l = M0 at *
  have hS0' := Lib.hid hS0
  have hM0' := Lib.hid hM0
  clear hS0 hM0
  go_enter Tryz.func69, Tryz.ntmps69
  go_wp2_with fail
  go_loopw [4, 5, 10] (fun u4 u5 i wr => ∃ (k m : Nat) (s : Int), k ≤ n ∧ i = .int .i64 k ∧ u4 = .int .i64 s ∧ u5 = .int .i64 (m : Int) ∧ m ≤ k ∧ -360000 * k ≤ s ∧ s ≤ 360000 * k ∧ Below w.heap.size w wr ∧ Hid (s + shS (l.drop k) = S0) ∧ Hid (m + shM (l.drop k) = M0)) (fun _ _ i _ => n - (intOf i).toNat)
  case atStart => exact ⟨0, 0, 0, Nat.zero_le _, rfl, rfl, rfl, by omega, by omega, by omega, Below.refl _ _, Lib.hid (by rw [← hS0'.out]; simp), Lib.hid (by rw [← hM0'.out]; simp)⟩
  case round =>
    obtain ⟨k, m, s, hk, rfl, rfl, rfl, hmk, hs0, hs1, hB, hFs, hFm⟩ := hrel
    by_cases hlt : k < n
    · obtain ⟨b, off, x, hA, hbl, hx, c0, c1, c2, hI⟩ := (h.below hB).at3 hlt
      subst hA
      have hx0 := hok'.out x (List.mem_of_getElem? hx)
      obtain ⟨p0, p1, q0, q1, _, _⟩ := touch_ok hx0
      have hS := Lib.hid (shS_at hx)
      have hM := Lib.hid (shM_at hx)
      have hHit := Lib.hid (show hitB x = (decide (0 < x.btn) && decide ((offV x).by_ = 1)) from rfl)
      have hO1 := Lib.hid (fun W h => hO.out x W h hx0)
      generalize hitB x = H at *
      generalize offV x = o at *
      obtain ⟨pad, btn, xA, xn, xc, ws⟩ := x
      obtain ⟨tm, by_⟩ := o
      have hfd : ∀ w : World, (Instr.field 39 (.agg #[.int .i64 tm, .int .i64 by_]) 1).run Tryz.prog w = .ok (.int .i64 by_) w := fun _ => by kernel_rfl
      dsimp only [Tc.val, Sm.val] at *
      have hn5 := heap_alloc_new wr (.cells #[.int .i64 pad, .int .i64 btn, .slice xA xn xc] 37)
      have z5 := (blk_facts hn5).1
      have hB5 := hB.alloc hB.size (.cells #[.int .i64 pad, .int .i64 btn, .slice xA xn xc] 37)
      have hI5 := hI.alloc (.cells #[.int .i64 pad, .int .i64 btn, .slice xA xn xc] 37)
      clear hx hI hB hx0
      have e1 : IntKind.i64.wrap (s + btn) = s + btn := IntWalk.i64_in _ (by omega)
      have e2 : IntKind.i64.wrap (s + btn - pad) = s + btn - pad := IntWalk.i64_in _ (by omega)
      have e3 : IntKind.i64.wrap (btn - pad) = btn - pad := IntWalk.i64_in _ (by omega)
      have e4 : IntKind.i64.wrap (s + (btn - pad)) = s + (btn - pad) := IntWalk.i64_in _ (by omega)
      have e5 : IntKind.i64.wrap ((m : Int) + 1) = (m : Int) + 1 := IntWalk.i64_in _ (by omega)
      by_cases hb : 0 < btn
      · go_wp2_with fail
        refine (hO1.out _ hI5).mono ?_; rintro e w6 ⟨rfl, B6⟩
        have z6 := (blk_facts (blk_below hn5 B6)).1
        have hB6 := below_next hB5 B6
        clear B6 hI5 hn5 z5
        by_cases hy : by_ = 1
        · have hHv := Lib.hid (show H = true by rw [hHit.out, decide_eq_true hb, decide_eq_true hy]; rfl)
          subst hy
          clear hHit
          go_wp2
          go_roundw
          case rel => exact ⟨k + 1, m + 1, s + btn - pad, by omega, by go_num, rfl, by go_num, by omega, by omega, by omega, hB6, Lib.hid (by rw [← hFs.out, hS.out, hHv.out]; simp <;> omega), Lib.hid (by rw [← hFm.out, hM.out, hHv.out]; simp <;> omega)⟩
          case measure => simp [intOf]; omega
        · have hHv := Lib.hid (show H = false by rw [hHit.out, decide_eq_false hy, Bool.and_false])
          have hyb : (by_ == 1) = false := beq_eq_false_iff_ne.2 hy
          clear hHit hy
          go_wp2
          go_roundw
          case rel => exact ⟨k + 1, m, s, by omega, by go_num, rfl, rfl, by omega, by omega, by omega, hB6, Lib.hid (by rw [← hFs.out, hS.out, hHv.out]; simp <;> omega), Lib.hid (by rw [← hFm.out, hM.out, hHv.out]; simp <;> omega)⟩
          case measure => simp [intOf]; omega
      · have hHv := Lib.hid (show H = false by rw [hHit.out, decide_eq_false hb]; rfl)
        have hb' : btn ≤ 0 := by omega
        clear hHit hb
        go_wp2
        go_roundw
        case rel => exact ⟨k + 1, m, s, by omega, by go_num, rfl, rfl, by omega, by omega, by omega, hB5, Lib.hid (by rw [← hFs.out, hS.out, hHv.out]; simp <;> omega), Lib.hid (by rw [← hFm.out, hM.out, hHv.out]; simp <;> omega)⟩
        case measure => simp [intOf]; omega
    · obtain rfl : k = n := by omega
      have hs2 : s = S0 := by have := hFs.out; rw [drop_end (by rw [hl'.out]; exact Nat.le_refl _)] at this; simpa [shS] using this
      have hm2 : m = M0 := by have := hFm.out; rw [drop_end (by rw [hl'.out]; exact Nat.le_refl _)] at this; simpa [shM] using this
      subst hs2
      subst hm2
      clear hFs hFm hS0' hM0'
      by_cases h2 : m < 2
      · have h2i : (m : Int) < 2 := by omega
        have hv := hSS.out
        have hb := hSB.out
        rw [if_pos h2] at hv
        rw [decide_eq_false (by omega)] at hb
        subst hv
        subst hb
        clear hSS hSB
        go_wp2
        go_ret2
        exact ⟨rfl, hB⟩
      · have h2i : (2 : Int) ≤ (m : Int) := by omega
        have hv := hSS.out
        have hb := hSB.out
        rw [if_neg h2] at hv
        rw [decide_eq_true (by omega)] at hb
        subst hv
        subst hb
        clear hSS hSB
        have hm0 : (m : Int) ≠ 0 := by omega
        have hm0' : ((m : Int) == 0) = false := by simpa using hm0
        have htd : IntKind.i64.wrap (s.tdiv m) = s.tdiv m := IntWalk.i64_in _ (tdiv_bd hs0 hs1 (by omega) (by omega))
        go_wp2
        go_ret2
        exact ⟨rfl, hB⟩
end Go.Proofs.YthopkmcabjnfnaaGreatDoor
