import Derived.Test.YtnkhdofcmanipaaGreatDoorProg
import Derived.Test.YtnkhdofcmanipaaGreatDoorFaStructs
import Derived.BigGuardPart
import Derived.Laws.StructEq
import Derived.Test.YtnkhdofcmanipaaGreatDoorFaLapK
/- api.Swum as data; slices.Equal over it. -/
namespace Go.Proofs.YtnkhdofcmanipaaGreatDoor
open Go.RowKit
set_option linter.unusedVariables false

structure Sm where
  time : Int
  by_ : Int
deriving DecidableEq
def smE (p : Sm) : List Value := [.int .i64 p.time, .int .i64 p.by_]
abbrev RSm (w : World) (A : Option Addr) (n : Nat) (l : List Sm) : Prop := RN 2 smE 60 w A n l
theorem RSm.atN {w : World} {A : Option Addr} {n : Nat} {l : List Sm} (h : RSm w A n l) {k : Nat} (hk : k < n) : ∃ b off x, A = some ⟨b, off, none⟩ ∧ b < w.heap.size ∧ l[k]? = some x ∧ w.cell? ⟨b, off + k * 2, none⟩ = some (.int .i64 x.time) ∧ w.cell? ⟨b, off + k * 2 + 1, none⟩ = some (.int .i64 x.by_) := by
  obtain ⟨b, off, x, hA, hb, hx, hc⟩ := h.at_ hk
  exact ⟨b, off, x, hA, hb, hx, hc 0 _ rfl, hc 1 _ rfl⟩
end Go.Proofs.YtnkhdofcmanipaaGreatDoor
/- Sheets as data; tumbref1.SameSheet; slices.EqualFunc over sheets. -/
namespace Go.Proofs.YtnkhdofcmanipaaGreatDoor
open Go.RowKit Go.Shelf Go.Lib Go.Sort
set_option linter.unusedVariables false

/-- a sheet; its laps lie at A -/
structure Shc where
  lane : Int
  A : Option Addr
  n : Nat
  c : Nat
  laps : List LP.Lp
  time : Int
  by_ : Int
structure Shd where
  lane : Int
  laps : List LP.Lp
  time : Int
  by_ : Int
deriving DecidableEq
def Shc.dat (x : Shc) : Shd := ⟨x.lane, x.laps, x.time, x.by_⟩
def shE (x : Shc) : List Value := [.int .i64 x.lane, .slice x.A x.n x.c, .int .i64 x.time, .int .i64 x.by_]
theorem shE_len : ∀ x, (shE x).length = 4 := fun _ => rfl
def RSh (w : World) (A : Option Addr) (n : Nat) (l : List Shc) : Prop := RN 4 shE 62 w A n l ∧ ∀ x ∈ l, RLp w x.A x.n x.laps
section
variable {w w' : World} {A : Option Addr} {n : Nat} {l : List Shc}
theorem RSh.len (h : RSh w A n l) : l.length = n := h.1.len
theorem RSh.below (h : RSh w A n l) (hb : Below w.heap.size w w') : RSh w' A n l := ⟨h.1.below hb, fun x hx => (h.2 x hx).below hb⟩
theorem RSh.nil_ (w : World) : RSh w none 0 [] := ⟨RN.nil_ _ _ _ _ _, fun x hx => by cases hx⟩
theorem RSh.at4 (h : RSh w A n l) {k : Nat} (hk : k < n) : ∃ b off x, A = some ⟨b, off, none⟩ ∧ b < w.heap.size ∧ l[k]? = some x ∧ w.cell? ⟨b, off + k * 4, none⟩ = some (.int .i64 x.lane) ∧ w.cell? ⟨b, off + k * 4 + 1, none⟩ = some (.slice x.A x.n x.c) ∧ w.cell? ⟨b, off + k * 4 + 2, none⟩ = some (.int .i64 x.time) ∧ w.cell? ⟨b, off + k * 4 + 3, none⟩ = some (.int .i64 x.by_) ∧ RLp w x.A x.n x.laps := by
  obtain ⟨b, off, x, hA, hb, hx, hc⟩ := h.1.at_ hk
  exact ⟨b, off, x, hA, hb, hx, hc 0 _ rfl, hc 1 _ rfl, hc 2 _ rfl, hc 3 _ rfl, h.2 x (List.mem_of_getElem? hx)⟩
theorem RSh.keep {T : TypeId} (h : RSh w A n l) (h1 : 62 ≠ T) (h2 : 57 ≠ T) (hk : Keep T w w') : RSh w' A n l := ⟨h.1.keep h1 hk, fun x hx => (h.2 x hx).keep h2 hk⟩
end
/-- the reference's SameSheet -/
theorem sameSheet_c (x y : Shc) (w : World) (h1 : RLp w x.A x.n x.laps) (h2 : RLp w y.A y.n y.laps) :
    Calls Tryz.prog 33 #[.agg #[.int .i64 x.lane, .slice x.A x.n x.c, .int .i64 x.time, .int .i64 x.by_], .agg #[.int .i64 y.lane, .slice y.A y.n y.c, .int .i64 y.time, .int .i64 y.by_]] w fun e w' => e = .returned (.bool (decide (x.dat = y.dat))) ∧ Below w.heap.size w w' := by
  have hD : decide (x.dat = y.dat) = (decide (x.lane = y.lane) && (decide (x.laps = y.laps) && decide (x.time = y.time ∧ x.by_ = y.by_))) := by
    unfold Shc.dat
    rw [← Bool.decide_and, ← Bool.decide_and]
    congr 1
    simp
  rw [hD]
  clear hD
  have hq := Lib.hid (fun W g1 g2 => equalLp_c x.A y.A x.n x.c y.n y.c x.laps y.laps W g1 g2)
  obtain ⟨xl, xA, xn, xc, xp, xt, xb⟩ := x
  obtain ⟨yl, yA, yn, yc, yp, yt, yb⟩ := y
  dsimp only at *
  have hB := (below_new w (.cells #[.int .i64 xl, .slice xA xn xc, .int .i64 xt, .int .i64 xb] 62)).alloc (below_new w _).size (.cells #[.int .i64 yl, .slice yA yn yc, .int .i64 yt, .int .i64 yb] 62)
  have g1 := h1.below hB
  have g2 := h2.below hB
  by_cases e1 : xl = yl
  · subst e1
    by_cases e2 : xp = yp
    · subst e2
      have hr : (decide (xl = xl) && (decide (xp = xp) && decide (xt = yt ∧ xb = yb))) = decide (xt = yt ∧ xb = yb) := by simp
      have hs : decide (xp = xp) = true := by simp
      rw [hr]
      rw [hs] at hq
      clear hr hs
      have hcs : (xt = yt ∧ xb = yb) ∨ (xt == yt) = false ∨ (xt = yt ∧ (xb == yb) = false) := by
        by_cases q0 : xt = yt
        · by_cases q1 : xb = yb
          · exact .inl ⟨q0, q1⟩
          · exact .inr (.inr ⟨q0, beq_eq_false_iff_ne.2 q1⟩)
        · exact .inr (.inl (beq_eq_false_iff_ne.2 q0))
      rcases hcs with ⟨rfl, rfl⟩ | h0 | ⟨rfl, h0⟩
      · have hf : decide (xt = xt ∧ xb = xb) = true := by simp
        rw [hf]
        clear hf
        go_enter Tryz.func33, Tryz.ntmps33
        go_wp2_with fail
        refine (hq.out _ g1 g2).mono ?_; rintro e w5 ⟨rfl, q5, rfl⟩
        have hB5 := below_drewN hB q5
        go_wp2
        go_ret
        exact ⟨rfl, hB5⟩
      · have hf : decide (xt = yt ∧ xb = yb) = false := by
          refine decide_eq_false fun h => ?_
          rw [h.1] at h0; simp at h0
        rw [hf]
        clear hf
        go_enter Tryz.func33, Tryz.ntmps33
        go_wp2_with fail
        refine (hq.out _ g1 g2).mono ?_; rintro e w5 ⟨rfl, q5, rfl⟩
        have hB5 := below_drewN hB q5
        go_wp2
        go_ret
        exact ⟨rfl, hB5⟩
      · have hf : decide (xt = xt ∧ xb = yb) = false := by
          refine decide_eq_false fun h => ?_
          rw [h.2] at h0; simp at h0
        rw [hf]
        clear hf
        go_enter Tryz.func33, Tryz.ntmps33
        go_wp2_with fail
        refine (hq.out _ g1 g2).mono ?_; rintro e w5 ⟨rfl, q5, rfl⟩
        have hB5 := below_drewN hB q5
        go_wp2
        go_ret
        exact ⟨rfl, hB5⟩
    · have hs : decide (xp = yp) = false := by simp [e2]
      have hr : (decide (xl = xl) && (decide (xp = yp) && decide (xt = yt ∧ xb = yb))) = false := by simp [e2]
      rw [hr]
      rw [hs] at hq
      clear hr hs e2
      go_enter Tryz.func33, Tryz.ntmps33
      go_wp2_with fail
      refine (hq.out _ g1 g2).mono ?_; rintro e w5 ⟨rfl, q5, rfl⟩
      have hB5 := below_drewN hB q5
      go_wp2
      go_ret
      exact ⟨rfl, hB5⟩
  · have ht : (xl == yl) = false := beq_eq_false_iff_ne.2 e1
    have hr : (decide (xl = yl) && (decide (xp = yp) && decide (xt = yt ∧ xb = yb))) = false := by simp [e1]
    rw [hr]
    clear hr hq e1 g1 g2 h1 h2
    go_enter Tryz.func33, Tryz.ntmps33
    go_wp2
    go_ret
    exact ⟨rfl, hB⟩
set_option maxHeartbeats 1600000 in
set_option maxRecDepth 100000 in
/-- slices.EqualFunc of sheets by SameSheet -/
theorem equalSh_c (A1 A2 : Option Addr) (n c m d : Nat) (S1 S2 : List Shc) (w : World) (h1 : RSh w A1 n S1) (h2 : RSh w A2 m S2) :
    Calls Tryz.prog 31 #[.slice A1 n c, .slice A2 m d, .func (.func 33) #[] #[]] w fun e w' => e = .returned (.bool (decide (S1.map Shc.dat = S2.map Shc.dat))) ∧ Below w.heap.size w w' := by
  have b1 := h1.1.bd
  have b2 := h2.1.bd
  by_cases hnm : n = m
  rotate_left
  · have hd : decide (S1.map Shc.dat = S2.map Shc.dat) = false := by
      refine decide_eq_false fun e => ?_
      have h3 := congrArg List.length e
      simp at h3
      have := h1.len; have := h2.len; omega
    have hne : ((n : Int) != (m : Int)) = true := by rw [bne_iff_ne]; omega
    rw [hd]
    clear hd
    go_enter Tryz.func31, Tryz.ntmps31
    go_wp2
    go_ret
    exact ⟨rfl, Below.refl _ _⟩
  subst hnm
  have hL1 := Lib.hid h1.len
  have hL2 := Lib.hid h2.len
  have hS := Lib.hid (fun x y W g1 g2 => sameSheet_c x y W g1 g2)
  go_enter Tryz.func31, Tryz.ntmps31
  go_wp2
  go_loopw [17] (fun i wr => ∃ k : Nat, k ≤ n ∧ i = .int .i64 k ∧ Below w.heap.size w wr ∧ Hid (∀ j, j < k → (S1.map Shc.dat)[j]? = (S2.map Shc.dat)[j]?)) (fun i _ => n - (intOf i).toNat)
  case atStart => exact ⟨0, Nat.zero_le _, rfl, Below.refl _ _, Lib.hid (fun j h => absurd h (by omega))⟩
  case round =>
    obtain ⟨k, hk, rfl, hB, hF⟩ := hrel
    by_cases hlt : k < n
    · obtain ⟨bx, ox, x, rfl, hbx, hx, x0, x1, x2, x3, hX⟩ := (h1.below hB).at4 hlt
      obtain ⟨by_, oy, y, rfl, hby, hy, y0, y1, y2, y3, hY⟩ := (h2.below hB).at4 hlt
      have hS1 := Lib.hid (fun W g1 g2 => hS.out x y W g1 g2)
      have hT := Lib.hid (show (S1.map Shc.dat)[k]? = some x.dat ∧ (S2.map Shc.dat)[k]? = some y.dat from by rw [List.getElem?_map, List.getElem?_map, hx, hy]; exact ⟨rfl, rfl⟩)
      have hB5 := (hB.alloc hB.size (.cells #[.int .i64 x.lane, .slice x.A x.n x.c, .int .i64 x.time, .int .i64 x.by_] 62)).alloc (hB.alloc hB.size (.cells #[.int .i64 x.lane, .slice x.A x.n x.c, .int .i64 x.time, .int .i64 x.by_] 62)).size (.cells #[.int .i64 y.lane, .slice y.A y.n y.c, .int .i64 y.time, .int .i64 y.by_] 62)
      have g1 := (hX.alloc (.cells #[.int .i64 x.lane, .slice x.A x.n x.c, .int .i64 x.time, .int .i64 x.by_] 62)).alloc (.cells #[.int .i64 y.lane, .slice y.A y.n y.c, .int .i64 y.time, .int .i64 y.by_] 62)
      have g2 := (hY.alloc (.cells #[.int .i64 x.lane, .slice x.A x.n x.c, .int .i64 x.time, .int .i64 x.by_] 62)).alloc (.cells #[.int .i64 y.lane, .slice y.A y.n y.c, .int .i64 y.time, .int .i64 y.by_] 62)
      have dd := Lib.hid (show ∀ b, decide (x.dat = y.dat) = b → b = true → x.dat = y.dat from fun b h h' => of_decide_eq_true (h.trans h'))
      have dn := Lib.hid (show decide (x.dat = y.dat) = false → x.dat ≠ y.dat from fun h => of_decide_eq_false h)
      obtain ⟨xl, xA, xn, xc, xp, xt, xb⟩ := x
      obtain ⟨yl, yA, yn, yc, yp, yt, yb⟩ := y
      dsimp only at *
      clear hx hy
      go_wp2_with fail
      refine (hS1.out _ g1 g2).mono ?_; rintro e w5 ⟨rfl, B5⟩
      have hB6 := below_next hB5 B5
      clear g1 g2 hB5 hX hY hS1 B5
      generalize hb : decide (Shc.dat ⟨xl, xA, xn, xc, xp, xt, xb⟩ = Shc.dat ⟨yl, yA, yn, yc, yp, yt, yb⟩) = b at *
      have hb' := Lib.hid hb
      clear hb
      cases b
      · have hd : decide (S1.map Shc.dat = S2.map Shc.dat) = false := by
          refine decide_eq_false fun e => ?_
          have h3 := congrArg (fun q => q[k]?) e
          simp only [hT.out.1, hT.out.2] at h3
          injection h3 with h3
          exact of_decide_eq_false hb'.out h3
        have hd' := Lib.hid hd
        clear hd dd dn
        go_wp2
        go_ret
        exact ⟨ret_b hd'.out.symm, hB6⟩
      · have he : Hid (Shc.dat ⟨xl, xA, xn, xc, xp, xt, xb⟩ = Shc.dat ⟨yl, yA, yn, yc, yp, yt, yb⟩) := Lib.hid (of_decide_eq_true hb'.out)
        clear dd dn
        go_wp2
        go_roundw
        case rel => exact ⟨k + 1, by omega, by go_num, hB6, Lib.hid (fun j hj => by
          by_cases hjk : j = k
          · subst hjk
            rw [hT.out.1, hT.out.2, he.out]
          · exact hF.out j (by omega))⟩
        case measure => simp [intOf]; omega
    · obtain rfl : k = n := by omega
      have hd : decide (S1.map Shc.dat = S2.map Shc.dat) = true := by
        refine decide_eq_true (List.ext_getElem? fun j => ?_)
        by_cases hj : j < k
        · exact hF.out j hj
        · rw [List.getElem?_eq_none (by rw [List.length_map, hL1.out]; omega), List.getElem?_eq_none (by rw [List.length_map, hL2.out]; omega)]
      have hd' := Lib.hid hd
      clear hd
      go_wp2
      go_ret
      exact ⟨ret_b hd'.out.symm, hB⟩
end Go.Proofs.YtnkhdofcmanipaaGreatDoor
