/- race.Fastest and race.Ideal, errors and answers in one; what the reference's BestLaps is of a right field. -/
import Derived.Test.YtcdoidhookghaaaDoorFastP
import Derived.Test.YtcdoidhookghaaaDoorSome
namespace Go.Proofs.YtcdoidhookghaaaDoor
open Go.RowKit
set_option linter.unusedVariables false

theorem some_ok {r : Race} {l : List Sw} (h : someErr r l = 0) : fieldErr r l = 0 ∧ 1 ≤ l.length := by
  unfold someErr at h
  split at h
  · rename_i h1; exact absurd h h1
  · split at h
    · cases h
    · exact ⟨by omega, by omega⟩
def fastN (r : Race) (l : List Sw) : Nat := if someErr r l = 0 then (lenV r).toNat else 0
def fastL (r : Race) (l : List Sw) : List Gp := if someErr r l = 0 then bestL (lenV r).toNat l else []
def idealV (r : Race) (l : List Sw) : Int := sumG (fastL r l)
theorem colG_bd (j : Nat) (l : List Sw) (h : ∀ x ∈ l, ∀ y ∈ x.sp, 0 ≤ y ∧ y ≤ 360000) : ∀ g : Gp, (-360000 ≤ g.behind ∧ g.behind ≤ 360001) → -360000 ≤ (colG j g l).behind ∧ (colG j g l).behind ≤ 360001 := by
  induction l with
  | nil => intro g hg; exact hg
  | cons x r ih =>
    intro g hg
    refine ih (fun y hy => h y (by simp [hy])) _ ?_
    unfold stepG
    split
    · rename_i hlt
      refine ⟨?_, by dsimp only; omega⟩
      have hb := h x (by simp)
      show -360000 ≤ (lapsL x.sp).getD j 0
      by_cases hj : j < x.sp.length
      · have h0 : (lapsL x.sp).getD j 0 = lapAt x.sp j := by
          rw [List.getD_eq_getElem?_getD]; unfold lapsL listOf; rw [List.getElem?_map, List.getElem?_range hj]; rfl
        have h1 := getD_le hb j
        have h2 := getD_le hb (j - 1)
        rw [h0]; unfold lapAt
        repeat' split
        all_goals omega
      · rw [List.getD_eq_getElem?_getD, List.getElem?_eq_none (by rw [lapsL_len]; omega)]; decide
    · exact hg
theorem bestL_bd {m : Nat} {l : List Sw} (h : ∀ x ∈ l, ∀ y ∈ x.sp, 0 ≤ y ∧ y ≤ 360000) : ∀ g ∈ bestL m l, -360000 ≤ g.behind ∧ g.behind ≤ 360001 := by
  intro g hg
  unfold bestL at hg
  obtain ⟨j, _, rfl⟩ := List.mem_map.1 hg
  exact colG_bd j l h _ (by unfold zeroG; dsimp only; omega)
theorem sumG_take {l : List Gp} {k : Nat} {x : Gp} (h : l[k]? = some x) : sumG (l.take (k + 1)) = sumG (l.take k) + x.behind := by
  have happ : ∀ a b : List Gp, sumG (a ++ b) = sumG a + sumG b := by
    intro a b
    induction a with
    | nil => simp [sumG]
    | cons x r ih => simp only [List.cons_append, sumG, ih]; omega
  rw [List.take_add_one, h, happ]; simp [sumG]
theorem sumG_bd {l : List Gp} (h : ∀ g ∈ l, -360000 ≤ g.behind ∧ g.behind ≤ 360001) : -(l.length * 360001) ≤ sumG l ∧ sumG l ≤ l.length * 360001 := by
  induction l with
  | nil => simp [sumG]
  | cons x r ih =>
    have h1 := ih (fun y hy => h y (by simp [hy]))
    have h2 := h x (by simp)
    simp only [sumG, List.length_cons]
    omega
/-- what a right field is -/
theorem some_field {r : Race} {A : Option Addr} {n : Nat} {l : List Sw} {w : World} (h : RSw w A n l) (h0 : someErr r l = 0) : 1 ≤ n ∧ n ≤ 20 ∧ 1 ≤ (lenV r).toNat ∧ (lenV r).toNat ≤ 240 ∧ (∀ x ∈ l, x.n = (lenV r).toNat) ∧ (∀ x ∈ l, checkSp r x.sp = 0) ∧ (∀ x ∈ l, ∀ y ∈ x.sp, 0 ≤ y ∧ y ≤ 360000) := by
  obtain ⟨h1, h2⟩ := some_ok h0
  obtain ⟨hr, hl, hx⟩ := fieldErr_ok h1
  have hb := lenV_bd hr
  have hlen := h.len
  refine ⟨by omega, by omega, by omega, by omega, fun x hm => ?_, fun x hm => (wholeErr_ok (hx x hm)).1, fun x hm => (splits_bd (wholeErr_ok (hx x hm)).1).2.2⟩
  have h3 := whole_len (hx x hm)
  have h4 := (h.2 x hm).len
  omega
set_option maxHeartbeats 1600000 in
set_option maxRecDepth 100000 in
theorem fastestA_c (r : Race) (A : Option Addr) (n c : Nat) (l : List Sw) (w : World) (h : RSw w A n l) :
    Calls Tryd.prog 10 #[r.val, .slice A n c] w fun e w' => ∃ A' c', e = .returned (.tuple #[.slice A' (fastN r l) c', .int .i64 (someErr r l)]) ∧ RGp w' A' (fastN r l) (fastL r l) ∧ Below w.heap.size w w' := by
  have hCs := Lib.hid (fun W h => checkSome_c r A n c l W h)
  by_cases h0 : someErr r l = 0
  · obtain ⟨f1, f2, f3, f4, f5, f6, f7⟩ := some_field h h0
    have hF := Lib.hid (fun W h => fastest_c r A n c _ l W h f1 (by omega) f3 f4 f5 f6)
    unfold fastN fastL
    rw [if_pos h0, if_pos h0]
    rw [h0] at hCs ⊢
    generalize (lenV r).toNat = m at *
    generalize bestL m l = B at *
    have hK0 := heap_alloc_new w (.cells r.cells 27)
    clear f1 f2 f3 f4 f5 f6 f7 h0
    obtain ⟨key, metres, stroke, course, legs, sex, young, old⟩ := r
    dsimp only [Race.val, Race.cells] at *
    go_enter Tryd.func10, Tryd.ntmps10
    go_wp2_with fail
    refine (hCs.out _ (h.alloc _)).mono ?_; rintro e w1 ⟨rfl, B1⟩
    have hB := below_box B1
    have z := (blk_facts (blk_below hK0 B1)).1
    clear hK0 B1
    go_wp2_with fail
    refine (hF.out _ (h.below hB)).mono ?_; rintro e w2 ⟨A', c', rfl, hR, B2⟩
    go_wp2
    go_ret2
    exact ⟨_, _, rfl, hR, below_next hB B2⟩
  · have hne : (someErr r l != 0) = true := by simpa using h0
    have hbe := beq_eq_false_iff_ne.2 h0
    unfold fastN fastL
    rw [if_neg h0, if_neg h0]
    generalize someErr r l = E at *
    clear h0
    obtain ⟨key, metres, stroke, course, legs, sex, young, old⟩ := r
    dsimp only [Race.val, Race.cells] at *
    go_enter Tryd.func10, Tryd.ntmps10
    go_wp2_with fail
    refine (hCs.out _ (h.alloc _)).mono ?_; rintro e w1 ⟨rfl, B1⟩
    have hB := below_box B1
    go_wp2
    go_ret2
    exact ⟨_, _, rfl, RN.nil_ _ _ _ _ _, hB⟩
set_option maxHeartbeats 1600000 in
set_option maxRecDepth 100000 in
theorem idealA_c (r : Race) (A : Option Addr) (n c : Nat) (l : List Sw) (w : World) (h : RSw w A n l) :
    Calls Tryd.prog 11 #[r.val, .slice A n c] w fun e w' => e = .returned (.tuple #[.int .i64 (idealV r l), .int .i64 (someErr r l)]) ∧ Below w.heap.size w w' := by
  have hCs := Lib.hid (fun W h => checkSome_c r A n c l W h)
  unfold idealV fastL
  by_cases h0 : someErr r l = 0
  · obtain ⟨f1, f2, f3, f4, f5, f6, f7⟩ := some_field h h0
    have hF := Lib.hid (fun W h => fastest_c r A n c _ l W h f1 (by omega) f3 f4 f5 f6)
    rw [if_pos h0]
    rw [h0] at hCs ⊢
    have hbd := Lib.hid (bestL_bd (m := (lenV r).toNat) f7)
    have hbl := Lib.hid (bestL_len (lenV r).toNat l)
    generalize (lenV r).toNat = m at *
    generalize bestL m l = B at *
    have hK0 := heap_alloc_new w (.cells r.cells 27)
    clear f1 f2 f3 f5 f6 f7 h0
    obtain ⟨key, metres, stroke, course, legs, sex, young, old⟩ := r
    dsimp only [Race.val, Race.cells] at *
    go_enter Tryd.func11, Tryd.ntmps11
    go_wp2_with fail
    refine (hCs.out _ (h.alloc _)).mono ?_; rintro e w1 ⟨rfl, B1⟩
    have hB := below_box B1
    have z := (blk_facts (blk_below hK0 B1)).1
    clear hK0 B1
    go_wp2_with fail
    refine (hF.out _ (h.below hB)).mono ?_; rintro e w2 ⟨A', c', rfl, hR, B2⟩
    have hB2 := below_next hB B2
    clear hB B2 z
    go_wp2_with fail
    go_loopw [7, 20] (fun s i wr => ∃ (k : Nat) (v : Int), k ≤ m ∧ i = .int .i64 k ∧ s = .int .i64 v ∧ -86400240 ≤ v ∧ v ≤ 86400240 ∧ Hid (v = sumG (B.take k)) ∧ RGp wr A' m B ∧ Below w.heap.size w wr) (fun _ i _ => m - (intOf i).toNat)
    case atStart => exact ⟨0, 0, Nat.zero_le _, rfl, rfl, by decide, by decide, Lib.hid rfl, hR, hB2⟩
    case round =>
      obtain ⟨k, v, hk, rfl, rfl, hv0, hv1, hv, hR, hB⟩ := hrel
      by_cases hlt : k < m
      · obtain ⟨b, off, x, rfl, hbl2, hx, c0, c1, c2⟩ := hR.atN hlt
        have hs := Lib.hid (sumG_take hx)
        have hsb : -86400240 ≤ v + x.behind ∧ v + x.behind ≤ 86400240 := by
          have h1 := sumG_bd (l := B.take (k + 1)) (fun g hg => hbd.out g (List.mem_of_mem_take hg))
          rw [hs.out, ← hv.out, List.length_take, hbl.out] at h1
          omega
        have hR1 := hR.alloc (.cells #[.string x.who, .int .i64 x.length, .int .i64 x.behind] 41)
        have hB1 := hB.alloc hB.size (.cells #[.string x.who, .int .i64 x.length, .int .i64 x.behind] 41)
        obtain ⟨gw, gl, gb⟩ := x
        dsimp only at *
        clear hR hB hx
        obtain ⟨hsb0, hsb1⟩ := hsb
        go_wp2_with fail
        go_roundw
        case rel => exact ⟨k + 1, v + gb, by omega, by go_num, rfl, hsb0, hsb1, Lib.hid (by rw [hs.out, ← hv.out]), hR1, hB1⟩
        case measure => simp [intOf]; omega
      · obtain rfl : k = m := by omega
        have hve := hv.out
        rw [List.take_of_length_le (by rw [hbl.out]; exact Nat.le_refl _)] at hve
        subst hve
        clear hv
        go_wp2
        go_ret2
        exact ⟨rfl, hB⟩
  · have hne : (someErr r l != 0) = true := by simpa using h0
    have hbe := beq_eq_false_iff_ne.2 h0
    rw [if_neg h0]
    generalize someErr r l = E at *
    clear h0
    obtain ⟨key, metres, stroke, course, legs, sex, young, old⟩ := r
    dsimp only [Race.val, Race.cells] at *
    go_enter Tryd.func11, Tryd.ntmps11
    go_wp2_with fail
    refine (hCs.out _ (h.alloc _)).mono ?_; rintro e w1 ⟨rfl, B1⟩
    have hB := below_box B1
    go_wp2
    go_ret2
    exact ⟨rfl, hB⟩
end Go.Proofs.YtcdoidhookghaaaDoor
