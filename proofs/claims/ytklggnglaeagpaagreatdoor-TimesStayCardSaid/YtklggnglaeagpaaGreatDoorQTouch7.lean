import Derived.Test.YtklggnglaeagpaaGreatDoorQTouch3
/- The touches of a heat: their error, how far the buttons are, the official times. -/
namespace Go.Proofs.YtklggnglaeagpaaGreatDoor
open Go.RowKit
set_option linter.unusedVariables false

def RTc (w : World) (A : Option Addr) (n : Nat) (l : List Tc) : Prop := RN 3 tcE 80 w A n l ∧ ∀ x ∈ l, RI 3 w x.A x.n x.ws
section
variable {w w' : World} {A : Option Addr} {n : Nat} {l : List Tc}
theorem RTc.len (h : RTc w A n l) : l.length = n := h.1.len
theorem RTc.bd (h : RTc w A n l) : n ≤ 140737488355328 := h.1.bd
theorem RTc.below (h : RTc w A n l) (hb : Below w.heap.size w w') : RTc w' A n l := ⟨h.1.below hb, fun x hx => (h.2 x hx).below hb⟩
theorem RTc.keep {T : TypeId} (h : RTc w A n l) (he : 80 ≠ T ∧ 3 ≠ T) (hk : Keep T w w') : RTc w' A n l := ⟨h.1.keep he.1 hk, fun x hx => (h.2 x hx).keep he.2 hk⟩
theorem RTc.alloc (h : RTc w A n l) (o : Obj) : RTc (w.alloc o) A n l := h.below (below_new w o)
theorem RTc.drewN (h : RTc w A n l) (k : Nat) : RTc (w.drewN k) A n l := h
theorem RTc.nil_ (w : World) : RTc w none 0 [] := ⟨RN.nil_ _ _ _ _ _, fun x hx => by cases hx⟩
theorem RTc.at3 (h : RTc w A n l) {k : Nat} (hk : k < n) : ∃ b off x, A = some ⟨b, off, none⟩ ∧ b < w.heap.size ∧ l[k]? = some x ∧ w.cell? ⟨b, off + k * 3, none⟩ = some (.int .i64 x.pad) ∧ w.cell? ⟨b, off + k * 3 + 1, none⟩ = some (.int .i64 x.btn) ∧ w.cell? ⟨b, off + k * 3 + 2, none⟩ = some (.slice x.A x.n x.c) ∧ RI 3 w x.A x.n x.ws := by
  obtain ⟨b, off, x, hA, hb, hx, hc⟩ := h.1.at_ hk
  exact ⟨b, off, x, hA, hb, hx, hc 0 _ rfl, hc 1 _ rfl, hc 2 _ rfl, h.2 x (List.mem_of_getElem? hx)⟩
end

/-! ## the error -/
def heatGo : List Tc → Int
  | [] => 0
  | x :: r => if touchErr x ≠ 0 then touchErr x else heatGo r
def heatErr (l : List Tc) : Int := if 10 < l.length then 2 else heatGo l
theorem heatGo_at {l : List Tc} {k : Nat} {x : Tc} (h : l[k]? = some x) : heatGo (l.drop k) = if touchErr x ≠ 0 then touchErr x else heatGo (l.drop (k + 1)) := by rw [drop_at h]; rfl
theorem heatGo_ok : ∀ {l : List Tc}, heatGo l = 0 → ∀ x ∈ l, touchErr x = 0
  | [], _, x, hx => by cases hx
  | y :: r, h, x, hx => by
    unfold heatGo at h
    split at h
    · rename_i h1; exact absurd h h1
    · rename_i h1
      rcases List.mem_cons.1 hx with rfl | hx
      · omega
      · exact heatGo_ok h x hx
theorem heat_ok {l : List Tc} (h : heatErr l = 0) : l.length ≤ 10 ∧ ∀ x ∈ l, touchErr x = 0 := by
  unfold heatErr at h
  split at h
  · cases h
  · exact ⟨by omega, heatGo_ok h⟩
set_option maxHeartbeats 1600000 in
set_option maxRecDepth 100000 in
theorem timCheckHeat_c (A : Option Addr) (n c : Nat) (l : List Tc) (w : World) (h : RTc w A n l) :
    Calls Tryz.prog 136 #[.slice A n c] w fun e w' => e = .returned (.int .i64 (heatErr l)) ∧ Below w.heap.size w w' := by
  have hl := h.len
  have hnb := h.bd
  have hE : heatErr l = if 10 < n then 2 else heatGo l := by unfold heatErr; rw [hl]
  rw [hE]
  clear hE
  by_cases h10 : 10 < n
  · have hi : (10 : Int) < (n : Int) := by omega
    rw [if_pos h10]
    go_enter Tryz.func136, Tryz.ntmps136
    go_wp2
    go_ret
    exact ⟨rfl, Below.refl _ _⟩
  · have hi : ¬ (10 : Int) < (n : Int) := by omega
    rw [if_neg h10]
    have hC := Lib.hid (fun x W h => checkTouch_c x W h)
    have hl' := Lib.hid hl
    clear hl h10
    generalize hE : heatGo l = E
    have hE' := Lib.hid hE
    clear hE
    go_enter Tryz.func136, Tryz.ntmps136
    go_wp2_with fail
    go_loopw [11] (fun i wr => ∃ k : Nat, k ≤ n ∧ i = .int .i64 k ∧ Below w.heap.size w wr ∧ Hid (heatGo (l.drop k) = E)) (fun i _ => n - (intOf i).toNat)
    case atStart => exact ⟨0, Nat.zero_le _, rfl, Below.refl _ _, Lib.hid hE'.out⟩
    case round =>
      obtain ⟨k, hk, rfl, hB, hF⟩ := hrel
      by_cases hlt : k < n
      · obtain ⟨b, off, x, hA, hbl, hx, c0, c1, c2, hI⟩ := (h.below hB).at3 hlt
        subst hA
        have hS := Lib.hid (heatGo_at hx)
        have hC1 := Lib.hid (fun W h => hC.out x W h)
        generalize touchErr x = T at *
        obtain ⟨pad, btn, xA, xn, xc, ws⟩ := x
        dsimp only [Tc.val] at *
        have hn5 := heap_alloc_new wr (.cells #[.int .i64 pad, .int .i64 btn, .slice xA xn xc] 80)
        have z5 := (blk_facts hn5).1
        have hB5 := hB.alloc hB.size (.cells #[.int .i64 pad, .int .i64 btn, .slice xA xn xc] 80)
        have hI5 := hI.alloc (.cells #[.int .i64 pad, .int .i64 btn, .slice xA xn xc] 80)
        clear hx hI hB hn5
        go_wp2_with fail
        refine (hC1.out _ hI5).mono ?_; rintro e w6 ⟨rfl, B6⟩
        have hB6 := below_next hB5 B6
        clear hB5 B6 z5 hI5 hC1
        by_cases hT : T = 0
        · have hT' := Lib.hid hT
          have hTb : (T != 0) = false := by simp [hT]
          clear hT
          go_wp2
          go_roundw
          case rel => exact ⟨k + 1, by omega, by go_num, hB6, Lib.hid (by rw [← hF.out, hS.out, if_neg (by simpa using hT'.out)])⟩
          case measure => simp [intOf]; omega
        · have hT' := Lib.hid hT
          have hTb : (T != 0) = true := by simpa using hT
          clear hT
          go_wp2
          go_ret
          exact ⟨ret_i (by rw [← hF.out, hS.out, if_pos hT'.out]), hB6⟩
      · obtain rfl : k = n := by omega
        go_wp2
        go_ret
        exact ⟨ret_i (by rw [← hF.out, drop_end (by rw [hl'.out]; exact Nat.le_refl _)]; rfl), hB⟩
set_option maxHeartbeats 1600000 in
set_option maxRecDepth 100000 in
theorem touchesFault_c (A : Option Addr) (n c : Nat) (l : List Tc) (w : World) (h : RTc w A n l) :
    Calls Tryz.prog 34 #[.slice A n c] w fun e w' => e = .returned (.int .i64 (heatErr l)) ∧ Below w.heap.size w w' := by
  have hl := h.len
  have hnb := h.bd
  have hE : heatErr l = if 10 < n then 2 else heatGo l := by unfold heatErr; rw [hl]
  rw [hE]
  clear hE
  by_cases h10 : 10 < n
  · have hi : (10 : Int) < (n : Int) := by omega
    rw [if_pos h10]
    go_enter Tryz.func34, Tryz.ntmps34
    go_wp2
    go_ret
    exact ⟨rfl, Below.refl _ _⟩
  · have hi : ¬ (10 : Int) < (n : Int) := by omega
    rw [if_neg h10]
    have hC := Lib.hid (fun x W h => touchFault_c x W h)
    have hl' := Lib.hid hl
    clear hl h10
    generalize hE : heatGo l = E
    have hE' := Lib.hid hE
    clear hE
    go_enter Tryz.func34, Tryz.ntmps34
    go_wp2_with fail
    go_loopw [11] (fun i wr => ∃ k : Nat, k ≤ n ∧ i = .int .i64 k ∧ Below w.heap.size w wr ∧ Hid (heatGo (l.drop k) = E)) (fun i _ => n - (intOf i).toNat)
    case atStart => exact ⟨0, Nat.zero_le _, rfl, Below.refl _ _, Lib.hid hE'.out⟩
    case round =>
      obtain ⟨k, hk, rfl, hB, hF⟩ := hrel
      by_cases hlt : k < n
      · obtain ⟨b, off, x, hA, hbl, hx, c0, c1, c2, hI⟩ := (h.below hB).at3 hlt
        subst hA
        have hS := Lib.hid (heatGo_at hx)
        have hC1 := Lib.hid (fun W h => hC.out x W h)
        generalize touchErr x = T at *
        obtain ⟨pad, btn, xA, xn, xc, ws⟩ := x
        dsimp only [Tc.val] at *
        have hn5 := heap_alloc_new wr (.cells #[.int .i64 pad, .int .i64 btn, .slice xA xn xc] 80)
        have z5 := (blk_facts hn5).1
        have hB5 := hB.alloc hB.size (.cells #[.int .i64 pad, .int .i64 btn, .slice xA xn xc] 80)
        have hI5 := hI.alloc (.cells #[.int .i64 pad, .int .i64 btn, .slice xA xn xc] 80)
        clear hx hI hB hn5
        go_wp2_with fail
        refine (hC1.out _ hI5).mono ?_; rintro e w6 ⟨rfl, B6⟩
        have hB6 := below_next hB5 B6
        clear hB5 B6 z5 hI5 hC1
        by_cases hT : T = 0
        · have hT' := Lib.hid hT
          have hTb : (T != 0) = false := by simp [hT]
          clear hT
          go_wp2
          go_roundw
          case rel => exact ⟨k + 1, by omega, by go_num, hB6, Lib.hid (by rw [← hF.out, hS.out, if_neg (by simpa using hT'.out)])⟩
          case measure => simp [intOf]; omega
        · have hT' := Lib.hid hT
          have hTb : (T != 0) = true := by simpa using hT
          clear hT
          go_wp2
          go_ret
          exact ⟨ret_i (by rw [← hF.out, hS.out, if_pos hT'.out]), hB6⟩
      · obtain rfl : k = n := by omega
        go_wp2
        go_ret
        exact ⟨ret_i (by rw [← hF.out, drop_end (by rw [hl'.out]; exact Nat.le_refl _)]; rfl), hB⟩
end Go.Proofs.YtklggnglaeagpaaGreatDoor

/- How far the buttons of a heat are from its pads: the program's, the reference's. -/
namespace Go.Proofs.YtklggnglaeagpaaGreatDoor
open Go.RowKit
set_option linter.unusedVariables false

def hitB (x : Tc) : Bool := decide (0 < x.btn) && decide ((offV x).by_ = 1)
def shS : List Tc → Int
  | [] => 0
  | x :: r => (if hitB x = true then x.btn - x.pad else 0) + shS r
def shM : List Tc → Nat
  | [] => 0
  | x :: r => (if hitB x = true then 1 else 0) + shM r
def shiftV (l : List Tc) : Int := if shM l < 2 then 0 else (shS l).tdiv (shM l)
def shiftB (l : List Tc) : Bool := decide (2 ≤ shM l)
theorem shS_at {l : List Tc} {k : Nat} {x : Tc} (h : l[k]? = some x) : shS (l.drop k) = (if hitB x = true then x.btn - x.pad else 0) + shS (l.drop (k + 1)) := by rw [drop_at h]; rfl
theorem shM_at {l : List Tc} {k : Nat} {x : Tc} (h : l[k]? = some x) : shM (l.drop k) = (if hitB x = true then 1 else 0) + shM (l.drop (k + 1)) := by rw [drop_at h]; rfl
theorem tdiv_bd {s : Int} {m k : Nat} (h0 : -360000 * (k : Int) ≤ s) (h1 : s ≤ 360000 * (k : Int)) (hm : 2 ≤ m) (hk : k ≤ 10) : -9223372036854775808 ≤ s.tdiv m ∧ s.tdiv m ≤ 9223372036854775807 := by
  have h2 : (s.tdiv m).natAbs ≤ s.natAbs := by rw [Int.natAbs_tdiv]; exact Nat.div_le_self _ _
  omega
set_option maxHeartbeats 3200000 in
set_option maxRecDepth 100000 in
theorem shift_c (A : Option Addr) (n c : Nat) (l : List Tc) (w : World) (h : RTc w A n l) (h0 : heatErr l = 0) :
    Calls Tryz.prog 137 #[.slice A n c] w fun e w' => e = .returned (.tuple #[.int .i64 (shiftV l), .bool (shiftB l)]) ∧ Below w.heap.size w w' := by
  obtain ⟨h10, hok⟩ := heat_ok h0
  have hl := h.len
  rw [hl] at h10
  have hl' := Lib.hid hl
  have hok' := Lib.hid hok
  clear hl hok h0
  have hO := Lib.hid (fun x W h h0 => official_c x W h h0)
  have hSS := Lib.hid (show shiftV l = if shM l < 2 then 0 else (shS l).tdiv (shM l) from rfl)
  have hSB := Lib.hid (show shiftB l = decide (2 ≤ shM l) from rfl)
  generalize shiftV l = SV at *
  generalize shiftB l = SB at *
  generalize hS0 : shS l = S0 at *
  generalize hM0 : shM l = M0 at *
  have hS0' := Lib.hid hS0
  have hM0' := Lib.hid hM0
  clear hS0 hM0
  go_enter Tryz.func137, Tryz.ntmps137
  go_wp2_with fail
  go_loopw [4, 5, 10] (fun u4 u5 i wr => ∃ (k m : Nat) (s : Int), k ≤ n ∧ i = .int .i64 k ∧ u4 = .int .i64 s ∧ u5 = .int .i64 (m : Int) ∧ m ≤ k ∧ -360000 * k ≤ s ∧ s ≤ 360000 * k ∧ Below w.heap.size w wr ∧ Hid (s + shS (l.drop k) = S0) ∧ Hid (m + shM (l.drop k) = M0)) (fun _ _ i _ => n - (intOf i).toNat)
  case atStart => exact ⟨0, 0, 0, Nat.zero_le _, rfl, rfl, rfl, by omega, by omega, by omega, Below.refl _ _, Lib.hid (by rw [← hS0'.out]; simp), Lib.hid (by rw [← hM0'.out]; simp)⟩
  case round =>
    obtain ⟨k, m, s, hk, rfl, rfl, rfl, hmk, hs0, hs1, hB, hFs, hFm⟩ := hrel
    by_cases hlt : k < n
    · obtain ⟨b, off, x, hA, hbl, hx, c0, c1, c2, hI⟩ := (h.below hB).at3 hlt
      subst hA
      have hx0 := hok'.out x (List.mem_of_getElem? hx)
      obtain ⟨p0, p1, q0, q1, _, _⟩ := touch_ok hx0
      have hS := Lib.hid (shS_at hx)
      have hM := Lib.hid (shM_at hx)
      have hHit := Lib.hid (show hitB x = (decide (0 < x.btn) && decide ((offV x).by_ = 1)) from rfl)
      have hO1 := Lib.hid (fun W h => hO.out x W h hx0)
      generalize hitB x = H at *
      generalize offV x = o at *
      obtain ⟨pad, btn, xA, xn, xc, ws⟩ := x
      obtain ⟨tm, by_⟩ := o
      have hfd : ∀ w : World, (Instr.field 63 (.agg #[.int .i64 tm, .int .i64 by_]) 1).run Tryz.prog w = .ok (.int .i64 by_) w := fun _ => by kernel_rfl
      dsimp only [Tc.val, Sm.val] at *
      have hn5 := heap_alloc_new wr (.cells #[.int .i64 pad, .int .i64 btn, .slice xA xn xc] 80)
      have z5 := (blk_facts hn5).1
      have hB5 := hB.alloc hB.size (.cells #[.int .i64 pad, .int .i64 btn, .slice xA xn xc] 80)
      have hI5 := hI.alloc (.cells #[.int .i64 pad, .int .i64 btn, .slice xA xn xc] 80)
      clear hx hI hB hx0
      have e1 : IntKind.i64.wrap (s + btn) = s + btn := IntWalk.i64_in _ (by omega)
      have e2 : IntKind.i64.wrap (s + btn - pad) = s + btn - pad := IntWalk.i64_in _ (by omega)
      have e3 : IntKind.i64.wrap (btn - pad) = btn - pad := IntWalk.i64_in _ (by omega)
      have e4 : IntKind.i64.wrap (s + (btn - pad)) = s + (btn - pad) := IntWalk.i64_in _ (by omega)
      have e5 : IntKind.i64.wrap ((m : Int) + 1) = (m : Int) + 1 := IntWalk.i64_in _ (by omega)
      by_cases hb : 0 < btn
      · go_wp2_with fail
        refine (hO1.out _ hI5).mono ?_; rintro e w6 ⟨rfl, B6⟩
        have z6 := (blk_facts (blk_below hn5 B6)).1
        have hB6 := below_next hB5 B6
        clear B6 hI5 hn5 z5
        by_cases hy : by_ = 1
        · have hHv := Lib.hid (show H = true by rw [hHit.out, decide_eq_true hb, decide_eq_true hy]; rfl)
          subst hy
          clear hHit
          go_wp2
          go_roundw
          case rel => exact ⟨k + 1, m + 1, s + btn - pad, by omega, by go_num, rfl, by go_num, by omega, by omega, by omega, hB6, Lib.hid (by rw [← hFs.out, hS.out, hHv.out]; simp <;> omega), Lib.hid (by rw [← hFm.out, hM.out, hHv.out]; simp <;> omega)⟩
          case measure => simp [intOf]; omega
        · have hHv := Lib.hid (show H = false by rw [hHit.out, decide_eq_false hy, Bool.and_false])
          have hyb : (by_ == 1) = false := beq_eq_false_iff_ne.2 hy
          clear hHit hy
          go_wp2
          go_roundw
          case rel => exact ⟨k + 1, m, s, by omega, by go_num, rfl, rfl, by omega, by omega, by omega, hB6, Lib.hid (by rw [← hFs.out, hS.out, hHv.out]; simp <;> omega), Lib.hid (by rw [← hFm.out, hM.out, hHv.out]; simp <;> omega)⟩
          case measure => simp [intOf]; omega
      · have hHv := Lib.hid (show H = false by rw [hHit.out, decide_eq_false hb]; rfl)
        have hb' : btn ≤ 0 := by omega
        clear hHit hb
        go_wp2
        go_roundw
        case rel => exact ⟨k + 1, m, s, by omega, by go_num, rfl, rfl, by omega, by omega, by omega, hB5, Lib.hid (by rw [← hFs.out, hS.out, hHv.out]; simp <;> omega), Lib.hid (by rw [← hFm.out, hM.out, hHv.out]; simp <;> omega)⟩
        case measure => simp [intOf]; omega
    · obtain rfl : k = n := by omega
      have hs2 : s = S0 := by have := hFs.out; rw [drop_end (by rw [hl'.out]; exact Nat.le_refl _)] at this; simpa [shS] using this
      have hm2 : m = M0 := by have := hFm.out; rw [drop_end (by rw [hl'.out]; exact Nat.le_refl _)] at this; simpa [shM] using this
      subst hs2
      subst hm2
      clear hFs hFm hS0' hM0'
      by_cases h2 : m < 2
      · have h2i : (m : Int) < 2 := by omega
        have hv := hSS.out
        have hb := hSB.out
        rw [if_pos h2] at hv
        rw [decide_eq_false (by omega)] at hb
        subst hv
        subst hb
        clear hSS hSB
        go_wp2
        go_ret2
        exact ⟨rfl, hB⟩
      · have h2i : (2 : Int) ≤ (m : Int) := by omega
        have hv := hSS.out
        have hb := hSB.out
        rw [if_neg h2] at hv
        rw [decide_eq_true (by omega)] at hb
        subst hv
        subst hb
        clear hSS hSB
        have hm0 : (m : Int) ≠ 0 := by omega
        have hm0' : ((m : Int) == 0) = false := by simpa using hm0
        have htd : IntKind.i64.wrap (s.tdiv m) = s.tdiv m := IntWalk.i64_in _ (tdiv_bd hs0 hs1 (by omega) (by omega))
        go_wp2
        go_ret2
        exact ⟨rfl, hB⟩
end Go.Proofs.YtklggnglaeagpaaGreatDoor

/- The official times of a heat: the program's, the reference's. -/
namespace Go.Proofs.YtklggnglaeagpaaGreatDoor
open Go.RowKit
set_option linter.unusedVariables false

def fixS (S : Int) (o : Sm) : Sm := if o.by_ = 2 then ⟨min (max (o.time - S) 1) 360000, 2⟩ else o
def heatM (S : Int) (l : List Tc) : List Sm := l.map fun x => fixS S (offV x)
def heatL (l : List Tc) : List Sm := heatM (shiftV l) l
theorem heatM_at {S : Int} {l : List Tc} {k : Nat} {x : Tc} (h : l[k]? = some x) : heatM S (l.drop k) = fixS S (offV x) :: heatM S (l.drop (k + 1)) := by rw [drop_at h]; rfl
theorem off_bd {x : Tc} (h : touchErr x = 0) : 0 ≤ (offV x).time ∧ (offV x).time ≤ 360000 := by
  obtain ⟨p0, p1, q0, q1, _, hb⟩ := touch_ok h
  have hw := watch_bd hb
  unfold offV offW
  split
  · exact ⟨p0, p1⟩
  · split
    · exact ⟨q0, q1⟩
    · split
      · exact hw
      · exact ⟨by decide, by decide⟩
theorem shS_bd : ∀ {l : List Tc}, (∀ x ∈ l, touchErr x = 0) → -360000 * (l.length : Int) ≤ shS l ∧ shS l ≤ 360000 * (l.length : Int)
  | [], _ => by simp [shS]
  | x :: r, h => by
    have h1 := shS_bd (l := r) (fun y hy => h y (by simp [hy]))
    obtain ⟨p0, p1, q0, q1, _, _⟩ := touch_ok (h x (by simp))
    unfold shS
    rw [List.length_cons]
    split <;> omega
theorem shift_bd {l : List Tc} (h : heatErr l = 0) : -3600000 ≤ shiftV l ∧ shiftV l ≤ 3600000 := by
  obtain ⟨h1, h2⟩ := heat_ok h
  have h3 := shS_bd h2
  unfold shiftV
  split
  · omega
  · have h4 : ((shS l).tdiv (shM l)).natAbs ≤ (shS l).natAbs := by rw [Int.natAbs_tdiv]; exact Nat.div_le_self _ _
    omega
theorem fix_no {S tm b : Int} (h : b ≠ 2) : fixS S ⟨tm, b⟩ = ⟨tm, b⟩ := by unfold fixS; rw [if_neg h]
theorem snoc_sm {w : World} {base k : Nat} {out : Value} {acc : List Sm} {t b : Int} (h : w.ownsRow base 63 2 out k (acc.flatMap smE ++ (#[.int .i64 t, .int .i64 b] : Array Value).toList)) : w.ownsRow base 63 2 out k ((acc ++ [(⟨t, b⟩ : Sm)]).flatMap smE) := by
  rw [← flat_snoc]; exact h
theorem info_swum : (Tryz.prog.info? 63).map (fun i => (i.zero, i.size, i.bytes)) = some (some (.agg #[.int .i64 0, .int .i64 0]), 2, 16) := by kernel_rfl
end Go.Proofs.YtklggnglaeagpaaGreatDoor

/- timing.Heat and timing.Shift, errors and answers in one. -/
namespace Go.Proofs.YtklggnglaeagpaaGreatDoor
open Go.RowKit
set_option linter.unusedVariables false

def heatA (l : List Tc) : List Sm := if heatErr l = 0 then heatL l else []
def heatN (l : List Tc) : Nat := if heatErr l = 0 then l.length else 0
end Go.Proofs.YtklggnglaeagpaaGreatDoor
