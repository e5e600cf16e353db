import Derived.Test.YtklggnglaeagpaaGreatDoorQWatchR
import Derived.Test.YtklggnglaeagpaaGreatDoorQEqSm
/- A touch: CheckTouch, official and the reference's two. -/
namespace Go.Proofs.YtklggnglaeagpaaGreatDoor
open Go.RowKit
set_option linter.unusedVariables false

structure Tc where
  pad : Int
  btn : Int
  A : Option Addr
  n : Nat
  c : Nat
  ws : List Int
def Tc.val (x : Tc) : Value := .agg #[.int .i64 x.pad, .int .i64 x.btn, .slice x.A x.n x.c]
def Tc.cells (x : Tc) : Array Value := #[.int .i64 x.pad, .int .i64 x.btn, .slice x.A x.n x.c]
def tcE (x : Tc) : List Value := [.int .i64 x.pad, .int .i64 x.btn, .slice x.A x.n x.c]
theorem tcE_len : ∀ x, (tcE x).length = 3 := fun _ => rfl
def tOkP (x : Int) : Bool := decide (0 ≤ x ∧ x ≤ 360000)
def touchErr (x : Tc) : Int := if tOkP x.pad = false then 1 else if tOkP x.btn = false then 1 else watchErr x.ws
set_option maxHeartbeats 1600000 in
set_option maxRecDepth 100000 in
theorem checkTouch_c (x : Tc) (w : World) (h : RI 3 w x.A x.n x.ws) :
    Calls Tryz.prog 242 #[x.val] w fun e w' => e = .returned (.int .i64 (touchErr x)) ∧ Below w.heap.size w w' := by
  obtain ⟨pad, btn, A, n, c, ws⟩ := x
  dsimp only [Tc.val] at *
  have hC := Lib.hid (fun W h => checkWatches_c A n c ws W h)
  have hE : touchErr ⟨pad, btn, A, n, c, ws⟩ = if tOkP pad = false then 1 else if tOkP btn = false then 1 else watchErr ws := rfl
  rw [hE]
  clear hE
  have hP : decide (0 ≤ pad ∧ pad ≤ 360000) = tOkP pad := rfl
  have hQ : decide (0 ≤ btn ∧ btn ≤ 360000) = tOkP btn := rfl
  have hP' := Lib.hid hP
  have hQ' := Lib.hid hQ
  clear hP hQ
  generalize tOkP pad = p at *
  generalize tOkP btn = q at *
  generalize watchErr ws = E at *
  have hn0 := heap_alloc_new w (.cells #[.int .i64 pad, .int .i64 btn, .slice A n c] 80)
  have z0 := (blk_facts hn0).1
  have hB0 := below_new w (.cells #[.int .i64 pad, .int .i64 btn, .slice A n c] 80)
  have h1 := h.alloc (.cells #[.int .i64 pad, .int .i64 btn, .slice A n c] 80)
  go_enter Tryz.func242, Tryz.ntmps242
  go_wp2_with fail
  refine (within_c pad 0 360000 _).mono ?_; rintro e w' ⟨rfl, rfl⟩
  rw [hP'.out]
  cases p
  · go_wp2
    go_ret
    exact ⟨rfl, hB0⟩
  · go_wp2_with fail
    refine (within_c btn 0 360000 _).mono ?_; rintro e w' ⟨rfl, rfl⟩
    rw [hQ'.out]
    cases q
    · go_wp2
      go_ret
      exact ⟨rfl, hB0⟩
    · go_wp2_with fail
      refine (hC.out _ h1).mono ?_; rintro e w' ⟨rfl, rfl⟩
      go_wp2
      go_ret
      exact ⟨rfl, hB0⟩
set_option maxHeartbeats 1600000 in
set_option maxRecDepth 100000 in
theorem touchFault_c (x : Tc) (w : World) (h : RI 3 w x.A x.n x.ws) :
    Calls Tryz.prog 141 #[x.val] w fun e w' => e = .returned (.int .i64 (touchErr x)) ∧ Below w.heap.size w w' := by
  obtain ⟨pad, btn, A, n, c, ws⟩ := x
  dsimp only [Tc.val] at *
  have hC := Lib.hid (fun W h => watchesFault_c A n c ws W h)
  have hE : touchErr ⟨pad, btn, A, n, c, ws⟩ = if tOkP pad = false then 1 else if tOkP btn = false then 1 else watchErr ws := rfl
  rw [hE]
  clear hE
  have hP : decide (0 ≤ pad ∧ pad ≤ 360000) = tOkP pad := rfl
  have hQ : decide (0 ≤ btn ∧ btn ≤ 360000) = tOkP btn := rfl
  have hP' := Lib.hid hP
  have hQ' := Lib.hid hQ
  clear hP hQ
  generalize tOkP pad = p at *
  generalize tOkP btn = q at *
  generalize watchErr ws = E at *
  have hn0 := heap_alloc_new w (.cells #[.int .i64 pad, .int .i64 btn, .slice A n c] 80)
  have z0 := (blk_facts hn0).1
  have hB0 := below_new w (.cells #[.int .i64 pad, .int .i64 btn, .slice A n c] 80)
  have h1 := h.alloc (.cells #[.int .i64 pad, .int .i64 btn, .slice A n c] 80)
  go_enter Tryz.func141, Tryz.ntmps141
  go_wp2_with fail
  refine (in_c pad 0 360000 _).mono ?_; rintro e w' ⟨rfl, rfl⟩
  rw [hP'.out]
  cases p
  · go_wp2
    go_ret
    exact ⟨rfl, hB0⟩
  · go_wp2_with fail
    refine (in_c btn 0 360000 _).mono ?_; rintro e w' ⟨rfl, rfl⟩
    rw [hQ'.out]
    cases q
    · go_wp2
      go_ret
      exact ⟨rfl, hB0⟩
    · go_wp2_with fail
      refine (hC.out _ h1).mono ?_; rintro e w' ⟨rfl, rfl⟩
      go_wp2
      go_ret
      exact ⟨rfl, hB0⟩
theorem touch_ok {x : Tc} (h : touchErr x = 0) : 0 ≤ x.pad ∧ x.pad ≤ 360000 ∧ 0 ≤ x.btn ∧ x.btn ≤ 360000 ∧ x.ws.length ≤ 3 ∧ ∀ y ∈ x.ws, 1 ≤ y ∧ y ≤ 360000 := by
  unfold touchErr at h
  split at h
  · cases h
  · rename_i h1
    split at h
    · cases h
    · rename_i h2
      have h3 : tOkP x.pad = true := by simpa using h1
      have h4 : tOkP x.btn = true := by simpa using h2
      have h5 := of_decide_eq_true h3
      have h6 := of_decide_eq_true h4
      have h7 := watchErr_ok h
      exact ⟨h5.1, h5.2, h6.1, h6.2, h7.1, h7.2⟩

/-! ## the official time -/
def nearB (a b : Int) : Bool := decide (a - b ≤ 30 ∧ b - a ≤ 30)
def goodB (pad btn W : Int) : Bool := decide (0 < pad) && (if 0 < btn then nearB pad btn else if 0 < W then nearB pad W else true)
def offW (pad btn W : Int) : Sm := if goodB pad btn W = true then ⟨pad, 1⟩ else if 0 < btn then ⟨btn, 2⟩ else if 0 < W then ⟨W, 3⟩ else ⟨0, 4⟩
def offV (x : Tc) : Sm := offW x.pad x.btn (watchV x.ws)
def Sm.val (x : Sm) : Value := .agg #[.int .i64 x.time, .int .i64 x.by_]
theorem near_c (a b : Int) (w : World) (h0 : 0 ≤ a) (h1 : a ≤ 360000) (h2 : 0 ≤ b) (h3 : b ≤ 360000) : Calls Tryz.prog 243 #[.int .i64 a, .int .i64 b] w fun e w' => e = .returned (.bool (nearB a b)) ∧ w = w' := by
  have hw1 : IntKind.i64.wrap (a - b) = a - b := IntWalk.i64_in _ (by omega)
  have hw2 : IntKind.i64.wrap (b - a) = b - a := IntWalk.i64_in _ (by omega)
  go_enter Tryz.func243, Tryz.ntmps243
  go_wp2
  all_goals (go_ret; refine ⟨ret_b ?_, rfl⟩; unfold nearB; rw [decide_eq_decide]; omega)
end Go.Proofs.YtklggnglaeagpaaGreatDoor

/- The official time of a right touch: the program's, the reference's. -/
namespace Go.Proofs.YtklggnglaeagpaaGreatDoor
open Go.RowKit
set_option linter.unusedVariables false

theorem off_good {pad btn W : Int} (h : goodB pad btn W = true) : offW pad btn W = ⟨pad, 1⟩ := by unfold offW; rw [if_pos h]
theorem off_btn {pad btn W : Int} (h : goodB pad btn W = false) (h1 : 0 < btn) : offW pad btn W = ⟨btn, 2⟩ := by unfold offW; rw [if_neg (by simp [h]), if_pos h1]
theorem off_w {pad btn W : Int} (h : goodB pad btn W = false) (h1 : btn ≤ 0) (h2 : 0 < W) : offW pad btn W = ⟨W, 3⟩ := by unfold offW; rw [if_neg (by simp [h]), if_neg (by omega), if_pos h2]
theorem off_none {pad btn W : Int} (h : goodB pad btn W = false) (h1 : btn ≤ 0) (h2 : W ≤ 0) : offW pad btn W = ⟨0, 4⟩ := by unfold offW; rw [if_neg (by simp [h]), if_neg (by omega), if_neg (by omega)]
set_option maxHeartbeats 3200000 in
set_option maxRecDepth 100000 in
theorem official_c (x : Tc) (w : World) (h : RI 3 w x.A x.n x.ws) (h0 : touchErr x = 0) :
    Calls Tryz.prog 138 #[x.val] w fun e w' => e = .returned (offV x).val ∧ Below w.heap.size w w' := by
  obtain ⟨p0, p1, q0, q1, hn, hb⟩ := touch_ok h0
  have hWb := watch_bd hb
  have hl := h.len
  have hWc := Lib.hid (fun W h => watched_c x.A x.n x.c x.ws W h (by omega) hb)
  obtain ⟨pad, btn, A, n, c, ws⟩ := x
  unfold offV
  dsimp only [Tc.val] at *
  clear hl hn hb h0
  generalize watchV ws = W at *
  have hb0 := heap_alloc_new (w.alloc (.cells #[.int .i64 pad, .int .i64 btn, .slice A n c] 80)) (.cells #[.int .i64 0, .int .i64 0] 63)
  have ha0 := blk_alloc (heap_alloc_new w (.cells #[.int .i64 pad, .int .i64 btn, .slice A n c] 80)) (.cells #[.int .i64 0, .int .i64 0] 63)
  have z0 := (blk_facts ha0).1
  go_enter Tryz.func138, Tryz.ntmps138
  go_wp2_with fail
  refine (hWc.out _ ((h.alloc _).alloc _)).mono ?_; rintro e w1 ⟨rfl, B1⟩
  obtain ⟨Z, Y⟩ := blk_facts (blk_below hb0 B1)
  have ZA := (blk_facts (blk_below ha0 B1)).1
  have alloc_size : ∀ (w : World) (o : Obj), (w.alloc o).heap.size = w.heap.size + 1 := fun w o => by simp
  simp only [alloc_size] at Z Y
  clear alloc_size
  have B := below_box (below_box B1)
  clear hb0 ha0 B1 z0 hWc h
  by_cases hp : 0 < pad
  · by_cases hq : 0 < btn
    · have hg : goodB pad btn W = nearB pad btn := by unfold goodB; rw [decide_eq_true hp, if_pos hq]; rfl
      have hN := Lib.hid (fun w => near_c pad btn w p0 p1 q0 q1)
      generalize nearB pad btn = q at *
      go_wp2_with fail
      refine (hN.out _).mono ?_; rintro e w' ⟨rfl, rfl⟩
      cases q
      · have hO := Lib.hid (off_btn hg hq)
        go_wp2
        refine bodyPost_ret (v := .agg #[.int .i64 btn, .int .i64 2]) (by simp [results, Tryz.results138, go_sem, Z]) rfl ⟨by rw [hO.out]; rfl, ?_⟩
        repeat (with_reducible refine Below.setCell ?_ (by simp) _)
        exact B
      · have hO := Lib.hid (off_good hg)
        go_wp2
        refine bodyPost_ret (v := .agg #[.int .i64 pad, .int .i64 1]) (by simp [results, Tryz.results138, go_sem, Z]) rfl ⟨by rw [hO.out]; rfl, ?_⟩
        repeat (with_reducible refine Below.setCell ?_ (by simp) _)
        exact B
    · have hq' : btn ≤ 0 := by omega
      by_cases hw : 0 < W
      · have hg : goodB pad btn W = nearB pad W := by unfold goodB; rw [decide_eq_true hp, if_neg hq, if_pos hw]; rfl
        have hN := Lib.hid (fun w => near_c pad W w p0 p1 hWb.1 hWb.2)
        generalize nearB pad W = q at *
        go_wp2_with fail
        refine (hN.out _).mono ?_; rintro e w' ⟨rfl, rfl⟩
        cases q
        · have hO := Lib.hid (off_w hg hq' hw)
          go_wp2
          refine bodyPost_ret (v := .agg #[.int .i64 W, .int .i64 3]) (by simp [results, Tryz.results138, go_sem, Z]) rfl ⟨by rw [hO.out]; rfl, ?_⟩
          repeat (with_reducible refine Below.setCell ?_ (by simp) _)
          exact B
        · have hO := Lib.hid (off_good hg)
          go_wp2
          refine bodyPost_ret (v := .agg #[.int .i64 pad, .int .i64 1]) (by simp [results, Tryz.results138, go_sem, Z]) rfl ⟨by rw [hO.out]; rfl, ?_⟩
          repeat (with_reducible refine Below.setCell ?_ (by simp) _)
          exact B
      · have hg : goodB pad btn W = true := by unfold goodB; rw [decide_eq_true hp, if_neg hq, if_neg hw]; rfl
        have hw' : W ≤ 0 := by omega
        have hO := Lib.hid (off_good hg)
        clear hg
        go_wp2
        refine bodyPost_ret (v := .agg #[.int .i64 pad, .int .i64 1]) (by simp [results, Tryz.results138, go_sem, Z]) rfl ⟨by rw [hO.out]; rfl, ?_⟩
        repeat (with_reducible refine Below.setCell ?_ (by simp) _)
        exact B
  · have hp' : pad ≤ 0 := by omega
    have hg : goodB pad btn W = false := by unfold goodB; rw [decide_eq_false hp]; rfl
    by_cases hq : 0 < btn
    · have hO := Lib.hid (off_btn hg hq)
      clear hg
      go_wp2
      refine bodyPost_ret (v := .agg #[.int .i64 btn, .int .i64 2]) (by simp [results, Tryz.results138, go_sem, Z]) rfl ⟨by rw [hO.out]; rfl, ?_⟩
      repeat (with_reducible refine Below.setCell ?_ (by simp) _)
      exact B
    · have hq' : btn ≤ 0 := by omega
      by_cases hw : 0 < W
      · have hO := Lib.hid (off_w hg hq' hw)
        clear hg
        go_wp2
        refine bodyPost_ret (v := .agg #[.int .i64 W, .int .i64 3]) (by simp [results, Tryz.results138, go_sem, Z]) rfl ⟨by rw [hO.out]; rfl, ?_⟩
        repeat (with_reducible refine Below.setCell ?_ (by simp) _)
        exact B
      · have hw' : W ≤ 0 := by omega
        have hO := Lib.hid (off_none hg hq' hw')
        clear hg
        go_wp2
        refine bodyPost_ret (v := .agg #[.int .i64 0, .int .i64 4]) (by simp [results, Tryz.results138, go_sem, Z]) rfl ⟨by rw [hO.out]; rfl, ?_⟩
        repeat (with_reducible refine Below.setCell ?_ (by simp) _)
        exact B
end Go.Proofs.YtklggnglaeagpaaGreatDoor

/- The official time of a right touch: the reference's. -/
namespace Go.Proofs.YtklggnglaeagpaaGreatDoor
open Go.RowKit
set_option linter.unusedVariables false

end Go.Proofs.YtklggnglaeagpaaGreatDoor
