/- HeatsBegun: Starts, HeatOf and Touches: the walk. -/
import Derived.Test.YtcdnjehkkbnfbaaGreatDoorSgN
import Derived.Test.YtcdnjehkkbnfbaaGreatDoorClkM
import Derived.Test.YtcdnjehkkbnfbaaGreatDoorPadF
import Derived.Test.YtcdnjehkkbnfbaaGreatDoorReady4
import Derived.Test.YtcdnjehkkbnfbaaGreatDoorPadK
namespace Go.Proofs.YtcdnjehkkbnfbaaGreatDoor
open Go.RowKit Go.Shelf Go.Lib Go.Sort
set_option linter.unusedVariables false

theorem padded1_c (w : World) : Calls Tryz.prog 30 #[] w fun e w' => e = .returned (.bool true) ∧ Below w.heap.size w w' := by
  have h0 := heap_alloc_new w (.cells #[.string ⟨#[97]⟩, .int .i64 10, .int .i64 5] 161)
  have hB0 := below_new w (.cells #[.string ⟨#[97]⟩, .int .i64 10, .int .i64 5] 161)
  go_enter Tryz.func30, Tryz.ntmps30
  go_wp2_with fail
  refine (right_c _ _ h0).mono ?_; rintro e w1 ⟨rfl, B1⟩
  go_wp2
  go_ret
  exact ⟨rfl, below_next hB0 B1⟩
theorem heatNo_c (g : Nat) (zs : List Int) (k : Nat) (w : World) (h : St w g zs k) (hk : k ≤ 1099511627776) :
    Calls Tryz.prog 26 #[.pointer (some ⟨g, 0, none⟩)] w fun e w' => ∃ v : Int, e = .returned (.int .i64 v) ∧ (0 ≤ v ∧ v ≤ 61) ∧ St w' g zs (k + 1) ∧ w.grownBy w' (some g) := by
  have hP := pickB_c g zs k [1, 1, 1, 1, 2, 2, 3, 0, 61] 0 61 9 9 w.heap.size #[.int .i64 1, .int .i64 1, .int .i64 1, .int .i64 1, .int .i64 2, .int .i64 2, .int .i64 3, .int .i64 0, .int .i64 61] w h hk rfl rfl rfl (by decide) (by decide) (by simp)
  go_enter Tryz.func26, Tryz.ntmps26
  go_wp2_with fail
  refine hP.mono ?_; rintro e w1 ⟨v, rfl, v0, v1, s1, g1⟩
  go_wp2
  go_ret
  exact ⟨v, rfl, ⟨v0, v1⟩, s1, g1⟩
structure K18 (w : World) (A : Option Addr) (n : Nat) (l : List Sg) (Ac : Option Addr) (nc : Nat) (cl : List Ck) (wx : World) : Prop where
  li : RSg wx A n l
  cl_ : RCk wx Ac nc cl
  bel : Below w.heap.size w wx
theorem K18.below {w : World} {A : Option Addr} {n : Nat} {l : List Sg} {Ac : Option Addr} {nc : Nat} {cl : List Ck} {wx w' : World} (h : K18 w A n l Ac nc cl wx) (hb : Below wx.heap.size wx w') : K18 w A n l Ac nc cl w' := ⟨h.li.below hb, h.cl_.below hb, below_next h.bel hb⟩
theorem both_or (cl : List Ck) (l : List Sg) : orV [clkErr cl, sigErr l] = bothErr cl l := by
  unfold bothErr
  simp only [orV]
  by_cases h : clkErr cl ≠ 0
  · rw [if_pos h, if_pos h]
  · rw [if_neg h, if_neg h]
    by_cases h2 : sigErr l ≠ 0
    · rw [if_pos h2]
    · rw [if_neg h2, Decidable.not_not.1 h2]
end Go.Proofs.YtcdnjehkkbnfbaaGreatDoor
