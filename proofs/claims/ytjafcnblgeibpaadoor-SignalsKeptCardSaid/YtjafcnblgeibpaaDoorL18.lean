/- HeatsBegun: Starts, HeatOf and Touches: the walk. -/
import Derived.Test.YtjafcnblgeibpaaDoorSgN
import Derived.Test.YtjafcnblgeibpaaDoorClkM
import Derived.Test.YtjafcnblgeibpaaDoorPadF
import Derived.Test.YtjafcnblgeibpaaDoorReady4
import Derived.Test.YtjafcnblgeibpaaDoorPadK
namespace Go.Proofs.YtjafcnblgeibpaaDoor
open Go.RowKit Go.Shelf Go.Lib Go.Sort
set_option linter.unusedVariables false

theorem padded1_c (w : World) : Calls Tryd.prog 24 #[] w fun e w' => e = .returned (.bool true) ∧ Below w.heap.size w w' := by
  have h0 := heap_alloc_new w (.cells #[.string ⟨#[97]⟩, .int .i64 10, .int .i64 5] 63)
  have hB0 := below_new w (.cells #[.string ⟨#[97]⟩, .int .i64 10, .int .i64 5] 63)
  go_enter Tryd.func24, Tryd.ntmps24
  go_wp2_with fail
  refine (right_c _ _ h0).mono ?_; rintro e w1 ⟨rfl, B1⟩
  go_wp2
  go_ret
  exact ⟨rfl, below_next hB0 B1⟩
structure K18 (w : World) (A : Option Addr) (n : Nat) (l : List Sg) (Ac : Option Addr) (nc : Nat) (cl : List Ck) (wx : World) : Prop where
  li : RSg wx A n l
  cl_ : RCk wx Ac nc cl
  bel : Below w.heap.size w wx
theorem K18.below {w : World} {A : Option Addr} {n : Nat} {l : List Sg} {Ac : Option Addr} {nc : Nat} {cl : List Ck} {wx w' : World} (h : K18 w A n l Ac nc cl wx) (hb : Below wx.heap.size wx w') : K18 w A n l Ac nc cl w' := ⟨h.li.below hb, h.cl_.below hb, below_next h.bel hb⟩
theorem both_or (cl : List Ck) (l : List Sg) : orV [clkErr cl, sigErr l] = bothErr cl l := by
  unfold bothErr
  simp only [orV]
  by_cases h : clkErr cl ≠ 0
  · rw [if_pos h, if_pos h]
  · rw [if_neg h, if_neg h]
    by_cases h2 : sigErr l ≠ 0
    · rw [if_pos h2]
    · rw [if_neg h2, Decidable.not_not.1 h2]
end Go.Proofs.YtjafcnblgeibpaaDoor
