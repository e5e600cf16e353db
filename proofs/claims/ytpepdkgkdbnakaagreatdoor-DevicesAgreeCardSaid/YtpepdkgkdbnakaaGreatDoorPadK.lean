/- What a law about pads carries: signals, clocks, and the box of a race. -/
import Derived.Test.YtpepdkgkdbnakaaGreatDoorPadC
import Derived.Test.YtpepdkgkdbnakaaGreatDoorFill
namespace Go.Proofs.YtpepdkgkdbnakaaGreatDoor
open Go.RowKit Go.Shelf Go.Lib Go.Sort
set_option linter.unusedVariables false

structure K25 (w : World) (b : Nat) (r : Race) (A : Option Addr) (n : Nat) (l : List Sg) (Ac : Option Addr) (nc : Nat) (cl : List Ck) (wx : World) : Prop where
  li : RSg wx A n l
  cl_ : RCk wx Ac nc cl
  blk : wx.heap[b]? = some (.cells r.cells 139 (0, 0))
  bel : Below w.heap.size w wx
theorem K25.below {w : World} {b : Nat} {r : Race} {A : Option Addr} {n : Nat} {l : List Sg} {Ac : Option Addr} {nc : Nat} {cl : List Ck} {wx w' : World} (h : K25 w b r A n l Ac nc cl wx) (hb : Below wx.heap.size wx w') : K25 w b r A n l Ac nc cl w' := ⟨h.li.below hb, h.cl_.below hb, blk_below h.blk hb, below_next h.bel hb⟩
theorem or3_cl (r : Race) (cl : List Ck) (l : List Sg) : orV [raceErr r, clkErr cl, sigErr l] = if raceErr r ≠ 0 then raceErr r else bothErr cl l := by
  unfold bothErr
  simp only [orV]
  by_cases h0 : raceErr r ≠ 0
  · rw [if_pos h0, if_pos h0]
  · rw [if_neg h0, if_neg h0]
    by_cases h : clkErr cl ≠ 0
    · rw [if_pos h, if_pos h]
    · rw [if_neg h, if_neg h]
      by_cases h2 : sigErr l ≠ 0
      · rw [if_pos h2]
      · rw [if_neg h2, Decidable.not_not.1 h2]
theorem lenNat {r : Race} (h : raceErr r = 0) : lenV r = ((lenV r).toNat : Int) ∧ 1 ≤ (lenV r).toNat := by have := lenV_bd h; omega
theorem equalI_same (A1 A2 : Option Addr) (n c m d : Nat) (l : List Int) {w : World} (h1 : RI 3 w A1 n l) (h2 : RI 3 w A2 m l) :
    Calls Tryz.prog 90 #[.slice A1 n c, .slice A2 m d] w fun e w' => e = .returned (.bool true) ∧ Below w.heap.size w w' :=
  (equal_c A1 A2 n c m d l l w h1 h2).mono fun e w' ⟨he, hB⟩ => ⟨by rw [he]; unfold eqB; simp, hB⟩
theorem bothErr_of {cl : List Ck} {l : List Sg} (h1 : clkErr cl = 0) (h2 : sigErr l = 0) : bothErr cl l = 0 := by unfold bothErr; rw [if_neg (by simpa using h1)]; exact h2
end Go.Proofs.YtpepdkgkdbnakaaGreatDoor
