/- A touch: CheckTouch, official and the reference's two. -/
import Derived.Test.YthopkmcabjnfnaaGreatDoorWatchR
import Derived.Test.YthopkmcabjnfnaaGreatDoorEqSm
namespace Go.Proofs.YthopkmcabjnfnaaGreatDoor
open Go.RowKit
set_option linter.unusedVariables false

structure Tc where
  pad : Int
  btn : Int
  A : Option Addr
  n : Nat
  c : Nat
  ws : List Int
def Tc.val (x : Tc) : Value := .agg #[.int .i64 x.pad, .int .i64 x.btn, .slice x.A x.n x.c]
def Tc.cells (x : Tc) : Array Value := #[.int .i64 x.pad, .int .i64 x.btn, .slice x.A x.n x.c]
def tcE (x : Tc) : List Value := [.int .i64 x.pad, .int .i64 x.btn, .slice x.A x.n x.c]
theorem tcE_len : ∀ x, (tcE x).length = 3 := fun _ => rfl
def tOkP (x : Int) : Bool := decide (0 ≤ x ∧ x ≤ 360000)
def touchErr (x : Tc) : Int := if tOkP x.pad = false then 1 else if tOkP x.btn = false then 1 else watchErr x.ws
set_option maxHeartbeats 1600000 in
set_option maxRecDepth 100000 in
theorem checkTouch_c (x : Tc) (w : World) (h : RI 3 w x.A x.n x.ws) :
    Calls Tryz.prog 71 #[x.val] w fun e w' => e = .returned (.int .i64 (touchErr x)) ∧ Below w.heap.size w w' := by
  obtain ⟨pad, btn, A, n, c, ws⟩ := x
  dsimp only [Tc.val] at *
  have hC := Lib.hid (fun W h => checkWatches_c A n c ws W h)
  have hE : touchErr ⟨pad, btn, A, n, c, ws⟩ = if tOkP pad = false then 1 else if tOkP btn = false then 1 else watchErr ws := rfl
  rw [hE]
  clear hE
  have hP : decide (0 ≤ pad ∧ pad ≤ 360000) = tOkP pad := rfl
  have hQ : decide (0 ≤ btn ∧ btn ≤ 360000) = tOkP btn := rfl
  have hP' := Lib.hid hP
  have hQ' := Lib.hid hQ
  clear hP hQ
  generalize tOkP pad = p at *
  generalize tOkP btn = q at *
  generalize watchErr ws = E at *
  have hn0 := heap_alloc_new w (.cells #[.int .i64 pad, .int .i64 btn, .slice A n c] 37)
  have z0 := (blk_facts hn0).1
  have hB0 := below_new w (.cells #[.int .i64 pad, .int .i64 btn, .slice A n c] 37)
  have h1 := h.alloc (.cells #[.int .i64 pad, .int .i64 btn, .slice A n c] 37)
  go_enter Tryz.func71, Tryz.ntmps71
  go_wp2_with fail
  refine (within_c pad 0 360000 _).mono ?_; rintro e w' ⟨rfl, rfl⟩
  rw [hP'.out]
  cases p
  · go_wp2
    go_ret
    exact ⟨rfl, hB0⟩
  · go_wp2_with fail
    refine (within_c btn 0 360000 _).mono ?_; rintro e w' ⟨rfl, rfl⟩
    rw [hQ'.out]
    cases q
    · go_wp2
      go_ret
      exact ⟨rfl, hB0⟩
    · go_wp2_with fail
      refine (hC.out _ h1).mono ?_; rintro e w' ⟨rfl, rfl⟩
      go_wp2
      go_ret
      exact ⟨rfl, hB0⟩
set_option maxHeartbeats 1600000 in
set_option maxRecDepth 100000 in
theorem touchFault_c (x : Tc) (w : World) (h : RI 3 w x.A x.n x.ws) :
    Calls Tryz.prog 64 #[x.val] w fun e w' => e = .returned (.int .i64 (touchErr x)) ∧ Below w.heap.size w w' := by
  obtain ⟨pad, btn, A, n, c, ws⟩ := x
  dsimp only [Tc.val] at *
  have hC := Lib.hid (fun W h => watchesFault_c A n c ws W h)
  have hE : touchErr ⟨pad, btn, A, n, c, ws⟩ = if tOkP pad = false then 1 else if tOkP btn = false then 1 else watchErr ws := rfl
  rw [hE]
  clear hE
  have hP : decide (0 ≤ pad ∧ pad ≤ 360000) = tOkP pad := rfl
  have hQ : decide (0 ≤ btn ∧ btn ≤ 360000) = tOkP btn := rfl
  have hP' := Lib.hid hP
  have hQ' := Lib.hid hQ
  clear hP hQ
  generalize tOkP pad = p at *
  generalize tOkP btn = q at *
  generalize watchErr ws = E at *
  have hn0 := heap_alloc_new w (.cells #[.int .i64 pad, .int .i64 btn, .slice A n c] 37)
  have z0 := (blk_facts hn0).1
  have hB0 := below_new w (.cells #[.int .i64 pad, .int .i64 btn, .slice A n c] 37)
  have h1 := h.alloc (.cells #[.int .i64 pad, .int .i64 btn, .slice A n c] 37)
  go_enter Tryz.func64, Tryz.ntmps64
  go_wp2_with fail
  refine (in_c pad 0 360000 _).mono ?_; rintro e w' ⟨rfl, rfl⟩
  rw [hP'.out]
  cases p
  · go_wp2
    go_ret
    exact ⟨rfl, hB0⟩
  · go_wp2_with fail
    refine (in_c btn 0 360000 _).mono ?_; rintro e w' ⟨rfl, rfl⟩
    rw [hQ'.out]
    cases q
    · go_wp2
      go_ret
      exact ⟨rfl, hB0⟩
    · go_wp2_with fail
      refine (hC.out _ h1).mono ?_; rintro e w' ⟨rfl, rfl⟩
      go_wp2
      go_ret
      exact ⟨rfl, hB0⟩
theorem touch_ok {x : Tc} (h : touchErr x = 0) : 0 ≤ x.pad ∧ x.pad ≤ 360000 ∧ 0 ≤ x.btn ∧ x.btn ≤ 360000 ∧ x.ws.length ≤ 3 ∧ ∀ y ∈ x.ws, 1 ≤ y ∧ y ≤ 360000 := by
  unfold touchErr at h
  split at h
  · cases h
  · rename_i h1
    split at h
    · cases h
    · rename_i h2
      have h3 : tOkP x.pad = true := by simpa using h1
      have h4 : tOkP x.btn = true := by simpa using h2
      have h5 := of_decide_eq_true h3
      have h6 := of_decide_eq_true h4
      have h7 := watchErr_ok h
      exact ⟨h5.1, h5.2, h6.1, h6.2, h7.1, h7.2⟩

/-! ## the official time -/
def nearB (a b : Int) : Bool := decide (a - b ≤ 30 ∧ b - a ≤ 30)
def goodB (pad btn W : Int) : Bool := decide (0 < pad) && (if 0 < btn then nearB pad btn else if 0 < W then nearB pad W else true)
def offW (pad btn W : Int) : Sm := if goodB pad btn W = true then ⟨pad, 1⟩ else if 0 < btn then ⟨btn, 2⟩ else if 0 < W then ⟨W, 3⟩ else ⟨0, 4⟩
def offV (x : Tc) : Sm := offW x.pad x.btn (watchV x.ws)
def Sm.val (x : Sm) : Value := .agg #[.int .i64 x.time, .int .i64 x.by_]
theorem near_c (a b : Int) (w : World) (h0 : 0 ≤ a) (h1 : a ≤ 360000) (h2 : 0 ≤ b) (h3 : b ≤ 360000) : Calls Tryz.prog 132 #[.int .i64 a, .int .i64 b] w fun e w' => e = .returned (.bool (nearB a b)) ∧ w = w' := by
  have hw1 : IntKind.i64.wrap (a - b) = a - b := IntWalk.i64_in _ (by omega)
  have hw2 : IntKind.i64.wrap (b - a) = b - a := IntWalk.i64_in _ (by omega)
  go_enter Tryz.func132, Tryz.ntmps132
  go_wp2
  all_goals (go_ret; refine ⟨ret_b ?_, rfl⟩; unfold nearB; rw [decide_eq_decide]; omega)
end Go.Proofs.YthopkmcabjnfnaaGreatDoor
