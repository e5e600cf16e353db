/- VerdictsTold: the walk. -/
import Derived.Test.YtpepdkgkdbnakaaGreatDoorVerY
import Derived.Test.YtpepdkgkdbnakaaGreatDoorRptM
import Derived.Test.YtpepdkgkdbnakaaGreatDoorClmM
import Derived.Test.YtpepdkgkdbnakaaGreatDoorJudged
import Derived.Test.YtpepdkgkdbnakaaGreatDoorDraws
import Derived.Deep.RegionHeld3
namespace Go.Proofs.YtpepdkgkdbnakaaGreatDoor
open Go.RowKit Go.Shelf Go.Lib Go.Sort
set_option linter.unusedVariables false

theorem judgedAt_c (g : Nat) (zs : List Int) (k : Nat) (w : World) (h : St w g zs k) (hk : k + 10 ≤ 1099511627776) :
    Calls Tryz.prog 33 #[.pointer (some ⟨g, 0, none⟩)] w fun e w' => ∃ v : Int, e = .returned (.int .i64 v) ∧ (-1 ≤ v ∧ v ≤ 345686400000) ∧ St w' g zs (k + 1 + 1) ∧ w.grownBy w' (some g) := by
  have hP := pickB_c g zs k [-1, 345686400000, 345686399999] (-1) 345686400000 3 3 w.heap.size #[.int .i64 (-1), .int .i64 345686400000, .int .i64 345686399999] w h (by omega) rfl rfl rfl (by decide) (by decide) (by simp)
  go_enter Tryz.func33, Tryz.ntmps33
  go_wp2_with fail
  refine hP.mono ?_; rintro e w1 ⟨v, rfl, v0, v1, s1, g1⟩
  have hl : ∀ x ∈ [0, 10, 15, 60, 1000015, 1800000, 1800010, 3600000, 9000000, v], -1 ≤ x ∧ x ≤ 345686400000 := by simp; omega
  go_wp2_with fail
  refine (pickB_c g zs (k + 1) [0, 10, 15, 60, 1000015, 1800000, 1800010, 3600000, 9000000, v] (-1) 345686400000 10 10 w1.heap.size #[.int .i64 0, .int .i64 10, .int .i64 15, .int .i64 60, .int .i64 1000015, .int .i64 1800000, .int .i64 1800010, .int .i64 3600000, .int .i64 9000000, .int .i64 v] w1 s1 (by omega) rfl rfl rfl (by decide) (by decide) hl).mono ?_; rintro e w2 ⟨v2, rfl, v20, v21, s2, g2⟩
  have g3 := grown_trans g1 g2
  go_wp2
  go_ret
  exact ⟨v2, rfl, ⟨v20, v21⟩, s2, g3⟩
/-- what is carried -/
structure K35 (w : World) (A : Option Addr) (n : Nat) (l : List Rp) (Ac : Option Addr) (nc : Nat) (cl : List Cm) (wx : World) : Prop where
  rp : RRp wx A n l
  cm : RCm wx Ac nc cl
  bel : Below w.heap.size w wx
theorem K35.below {w : World} {A : Option Addr} {n : Nat} {l : List Rp} {Ac : Option Addr} {nc : Nat} {cl : List Cm} {wx w' : World} (h : K35 w A n l Ac nc cl wx) (hb : Below wx.heap.size wx w') : K35 w A n l Ac nc cl w' := ⟨h.rp.below hb, h.cm.below hb, below_next h.bel hb⟩
def momI (at_ : Int) : Int := if 0 ≤ at_ ∧ at_ ≤ 345686399999 then 0 else 1
theorem momI_val (at_ : Int) : momI at_ = if momB at_ = true then 0 else 1 := by
  unfold momI momB
  by_cases h : 0 ≤ at_ ∧ at_ ≤ 345686399999 <;> simp [h]
theorem vrdE_or (l : List Rp) (at_ : Int) : orV [rpErr l, momI at_] = vrdE l at_ := by
  rw [momI_val]
  unfold vrdE
  simp only [orV]
  by_cases h : rpErr l ≠ 0
  · rw [if_pos h, if_pos h]
  · rw [if_neg h, if_neg h]
    cases momB at_ <;> rfl
theorem clmE_or (l : List Rp) (cl : List Cm) (at_ : Int) : orV [rpErr l, clmErr cl, momI at_] = clmE l cl at_ := by
  rw [momI_val]
  unfold clmE
  simp only [orV]
  by_cases h : rpErr l ≠ 0
  · rw [if_pos h, if_pos h]
  · rw [if_neg h, if_neg h]
    by_cases h2 : clmErr cl ≠ 0
    · rw [if_pos h2, if_pos h2]
    · rw [if_neg h2, if_neg h2]
      cases momB at_ <;> rfl
theorem vrdE_ok {l : List Rp} {at_ : Int} (h : vrdE l at_ = 0) : rpErr l = 0 := by
  unfold vrdE at h
  split at h
  · rename_i h1; exact absurd h h1
  · rename_i h1; exact Decidable.not_not.1 h1
theorem vrdE_clm {l : List Rp} {cl : List Cm} {at_ : Int} (h : clmE l cl at_ = 0) : vrdE l at_ = 0 := by
  obtain ⟨h1, _, h3⟩ := clmE_ok h
  unfold vrdE momB
  rw [if_neg (by simpa using h1), if_pos (by simpa using h3)]
theorem RetVs.nil {w w' : World} {E : Int} {e : Ending} (h : RetVs w E [] e w') : ∃ A c, e = .returned (.tuple #[.slice A 0 c, .int .i64 E]) ∧ Below w.heap.size w w' := by
  obtain ⟨A, n, c, L, rfl, r, hL, B⟩ := h
  have : L = [] := List.map_eq_nil_iff.1 hL
  subst this
  obtain rfl : n = 0 := r.1.len.symm
  exact ⟨A, c, rfl, B⟩
end Go.Proofs.YtpepdkgkdbnakaaGreatDoor
