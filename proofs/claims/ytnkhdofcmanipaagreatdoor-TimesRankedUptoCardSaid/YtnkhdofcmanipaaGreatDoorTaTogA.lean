/- judge.Together of any heats, judge.RankTenths. -/
import Derived.Test.YtnkhdofcmanipaaGreatDoorTaConS
namespace Go.Proofs.YtnkhdofcmanipaaGreatDoor
open Go.RowKit Go.Shelf Go.Lib Go.Sort
set_option linter.unusedVariables false

def togE (n : Nat) (E : Int) : Int := if 60 < n then 2 else E
def togL (n : Nat) (R : List Rk) : List Rk := if 60 < n then [] else R
set_option maxRecDepth 100000 in
theorem togetherA_c (A V : Option Addr) (n c q cv : Nat) (L : List NxS) (v : List Vd) (w : World) (h : RNxS w A n L) (hv : RVd w V q v) (hm : (L.flatMap NxS.ids).length ≤ 19) :
    Calls Tryz.prog 14 #[.slice A n c, .slice V q cv] w (RetRk w (togE n (rankE (L.flatMap NxS.ids) v)) (togL n (rankD 1 (L.flatMap NxS.ids) v))) := by
  have hnb := h.1.bd
  by_cases h60 : 60 < n
  · have e1 : togE n (rankE (L.flatMap NxS.ids) v) = 2 := if_pos h60
    have e2 : togL n (rankD 1 (L.flatMap NxS.ids) v) = [] := if_pos h60
    rw [e1, e2]
    have hi : (60 : Int) < (n : Int) := by omega
    clear e1 e2
    go_enter Tryz.func14, Tryz.ntmps14
    go_wp2
    go_ret2
    exact ⟨none, 0, 0, rfl, RN.nil_ _ _ _ _ _, Below.refl _ _, fun _ => rfl⟩
  · have e1 : togE n (rankE (L.flatMap NxS.ids) v) = rankE (L.flatMap NxS.ids) v := if_neg h60
    have e2 : togL n (rankD 1 (L.flatMap NxS.ids) v) = rankD 1 (L.flatMap NxS.ids) v := if_neg h60
    rw [e1, e2]
    have hi : ¬ (60 : Int) < (n : Int) := by omega
    have hC := Lib.hid (concatSA_c A n c L w h (by omega) (by omega))
    clear e1 e2 h
    generalize L.flatMap NxS.ids = l at *
    go_enter Tryz.func14, Tryz.ntmps14
    go_wp2_with fail
    refine hC.out.mono ?_; rintro e w1 ⟨A9, c9, rfl, ho, B1⟩
    have hR := RN.of_own sdE_len ho rfl (by omega)
    have hv1 := hv.below B1
    clear hC ho
    go_wp2_with fail
    refine (rank_c A9 V l.length c9 q cv l v 1 w1 hR hv1 (by omega) (by decide) (by decide)).mono ?_; rintro e w2 ⟨A8, n8, c8, rfl, hR2, B2, hN2⟩
    have hB := below_next B1 B2
    have hN := Lib.hid hN2
    clear hN2
    go_wp2
    go_ret2
    exact ⟨A8, n8, c8, rfl, hR2, hB, hN.out⟩
set_option maxRecDepth 100000 in
theorem rankTenths_c (A V : Option Addr) (n c q cv : Nat) (l : List Sd) (v : List Vd) (w : World) (h : RSd w A n l) (hv : RVd w V q v) (hn : n ≤ 19) :
    Calls Tryz.prog 11 #[.slice A n c, .slice V q cv] w (RetRk w (rankE l v) (rankD 10 l v)) := by
  have hR := Lib.hid (rank_c A V n c q cv l v 10 w h hv hn (by decide) (by decide))
  clear h hv
  go_enter Tryz.func11, Tryz.ntmps11
  go_wp2_with fail
  refine hR.out.mono ?_; rintro e w2 ⟨A8, n8, c8, rfl, hR2, B2, hN2⟩
  have hN := Lib.hid hN2
  clear hN2
  go_wp2
  go_ret2
  exact ⟨A8, n8, c8, rfl, hR2, B2, hN.out⟩
end Go.Proofs.YtnkhdofcmanipaaGreatDoor
