/- Fields compared by SameSwim. -/
import Derived.Test.YtamcmehmcbjgjaaGreatDoorFielded
namespace Go.Proofs.YtamcmehmcbjgjaaGreatDoor
open Go.RowKit
set_option linter.unusedVariables false

set_option maxRecDepth 100000 in
theorem sameSw_c (x y : Sw) (w : World) (hw : x.who = y.who) (hs : x.sp = y.sp) (h1 : RI 3 w x.A x.n x.sp) (h2 : RI 3 w y.A y.n y.sp) :
    Calls Tryz.prog 17 #[.agg #[.string x.who, .slice x.A x.n x.c], .agg #[.string y.who, .slice y.A y.n y.c]] w fun e w' => e = .returned (.bool true) ∧ Below w.heap.size w w' := by
  have hq := Lib.hid (fun W g1 g2 => equal_c x.A y.A x.n x.c y.n y.c x.sp y.sp W g1 g2)
  rw [show eqB x.sp y.sp = true from by unfold eqB; rw [hs]; exact beq_self_eq_true _] at hq
  obtain ⟨xw, xA, xn, xc, xs⟩ := x
  obtain ⟨yw, yA, yn, yc, ys⟩ := y
  dsimp only at *
  subst hw hs
  have hB := (below_new w (.cells #[.string xw, .slice xA xn xc] 42)).alloc (below_new w _).size (.cells #[.string xw, .slice yA yn yc] 42)
  have g1 := (h1.alloc (.cells #[.string xw, .slice xA xn xc] 42)).alloc (.cells #[.string xw, .slice yA yn yc] 42)
  have g2 := (h2.alloc (.cells #[.string xw, .slice xA xn xc] 42)).alloc (.cells #[.string xw, .slice yA yn yc] 42)
  have b1 : (xw.toList == xw.toList) = true := beq_self_eq_true _
  go_enter Tryz.func17, Tryz.ntmps17
  go_wp2_with fail
  refine (hq.out _ g1 g2).mono ?_; rintro e w5 ⟨rfl, B5⟩
  have hB5 := below_next hB B5
  go_wp2
  go_ret
  exact ⟨rfl, hB5⟩
set_option maxRecDepth 100000 in
theorem equalSwF_c (A1 A2 : Option Addr) (n c m d : Nat) (l1 l2 : List Sw) (w : World) (h1 : RSw w A1 n l1) (h2 : RSw w A2 m l2) (he : l1.map swD = l2.map swD) :
    Calls Tryz.prog 16 #[.slice A1 n c, .slice A2 m d, .func (.func 17) #[] #[]] w fun e w' => e = .returned (.bool true) ∧ Below w.heap.size w w' := by
  obtain rfl : n = m := by have := congrArg List.length he; simp at this; have := h1.1.len; have := h2.1.len; omega
  have b1 := h1.1.bd
  have hR1 := Lib.hid (fun W B => h1.below (w' := W) B)
  have hR2 := Lib.hid (fun W B => h2.below (w' := W) B)
  have he' := Lib.hid he
  clear h1 h2 he
  go_enter Tryz.func16, Tryz.ntmps16
  go_wp2_with fail
  go_loopw [17] (fun i wr => ∃ k : Nat, k ≤ n ∧ i = .int .i64 k ∧ Below w.heap.size w wr) (fun i _ => n - (intOf i).toNat)
  case atStart => exact ⟨0, Nat.zero_le _, rfl, Below.refl _ _⟩
  case round =>
    rename World => wr
    obtain ⟨k, hk, rfl, hB⟩ := hrel
    by_cases hlt : k < n
    · obtain ⟨bx, ox, x, rfl, hbx, hx, x0, x1, hX⟩ := (hR1.out _ hB).at2 hlt
      obtain ⟨by_, oy, y, rfl, hby, hy, y0, y1, hY⟩ := (hR2.out _ hB).at2 hlt
      have hD : swD x = swD y := by
        have h3 := congrArg (fun q => q[k]?) he'.out
        simp only [List.getElem?_map, hx, hy] at h3
        exact Option.some.inj h3
      have hw : x.who = y.who := congrArg Prod.fst hD
      have hs : x.sp = y.sp := congrArg Prod.snd hD
      have hB5 := (hB.alloc hB.size (.cells #[.string x.who, .slice x.A x.n x.c] 42)).alloc (hB.alloc hB.size (.cells #[.string x.who, .slice x.A x.n x.c] 42)).size (.cells #[.string y.who, .slice y.A y.n y.c] 42)
      have g1 := (hX.alloc (.cells #[.string x.who, .slice x.A x.n x.c] 42)).alloc (.cells #[.string y.who, .slice y.A y.n y.c] 42)
      have g2 := (hY.alloc (.cells #[.string x.who, .slice x.A x.n x.c] 42)).alloc (.cells #[.string y.who, .slice y.A y.n y.c] 42)
      have hS1 := Lib.hid (sameSw_c x y _ hw hs g1 g2)
      obtain ⟨xw, xA, xn, xc, xs⟩ := x
      obtain ⟨yw, yA, yn, yc, ys⟩ := y
      dsimp only at *
      clear hx hy hw hs hD g1 g2 hX hY
      go_wp2_with fail
      refine hS1.out.mono ?_; rintro e w5 ⟨rfl, B5⟩
      have hB6 := below_next hB5 B5
      clear hS1 B5 hB5
      go_wp2
      go_roundw
      case rel => exact ⟨k + 1, by omega, by go_num, hB6⟩
      case measure => simp [intOf]; omega
    · obtain rfl : k = n := by omega
      go_wp2
      go_ret
      exact ⟨rfl, hB⟩
end Go.Proofs.YtamcmehmcbjgjaaGreatDoor
