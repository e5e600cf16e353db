/- Take-overs and false starts: contracts of the program's and the reference's functions. -/
import Derived.Test.YtjfppcejcbfngaaDoorStructs
import Derived.Test.YtjfppcejcbfngaaDoorDraws
import Derived.Test.YtjfppcejcbfngaaDoorLists
import Derived.Test.YtjfppcejcbfngaaDoorSplits
import Derived.Test.YtjfppcejcbfngaaDoorKey0
import Derived.BigGuardPart
namespace Go.Proofs.YtjfppcejcbfngaaDoor
open Go.RowKit
set_option linter.unusedVariables false

def takeE (p : Int × Int) : List Value := [.int .i64 p.1, .int .i64 p.2]
abbrev RTk (w : World) (A : Option Addr) (n : Nat) (l : List (Int × Int)) : Prop := RN 2 takeE 145 w A n l
def badT : List (Int × Int) → Bool
  | [] => false
  | p :: l => if ¬ (0 ≤ p.1 ∧ p.1 ≤ 360000) ∨ ¬ (0 ≤ p.2 ∧ p.2 ≤ 360000) then true else badT l
def takesErr (l : List (Int × Int)) : Int := if 200 < l.length then 2 else if badT l then 1 else 0
theorem badT_at {l : List (Int × Int)} {k : Nat} {x y : Int} (h : l[k]? = some (x, y)) : badT (l.drop k) = if ¬ (0 ≤ x ∧ x ≤ 360000) ∨ ¬ (0 ≤ y ∧ y ≤ 360000) then true else badT (l.drop (k + 1)) := by rw [drop_at h]; rfl

theorem RTk.at2 {w : World} {A : Option Addr} {n : Nat} {l : List (Int × Int)} (h : RTk w A n l) {k : Nat} (hk : k < n) : ∃ b off x0 x1, A = some ⟨b, off, none⟩ ∧ b < w.heap.size ∧ l[k]? = some (x0, x1) ∧ w.cell? ⟨b, off + k * 2, none⟩ = some (.int .i64 x0) ∧ w.cell? ⟨b, off + k * 2 + 1, none⟩ = some (.int .i64 x1) := by
  obtain ⟨b, off, x, hA, hb, hx, hc⟩ := h.at_ hk
  exact ⟨b, off, x.1, x.2, hA, hb, hx, hc 0 _ rfl, hc 1 _ rfl⟩

theorem checkTakes_c (A : Option Addr) (n c : Nat) (l : List (Int × Int)) (w : World) (h : RTk w A n l) :
    Calls Tryd.prog 53 #[.slice A n c] w fun e w' => e = .returned (.int .i64 (takesErr l)) ∧ Below w.heap.size w w' := by
  have hl := h.len
  have hb := h.bd
  have hE : takesErr l = if 200 < n then 2 else if badT l then 1 else 0 := by unfold takesErr; rw [hl]
  generalize takesErr l = E at *
  have hE' := Lib.hid hE
  clear hE hl
  by_cases hbig : 200 < n
  · go_enter Tryd.func53, Tryd.ntmps53
    go_wp2
    go_ret
    exact ⟨ret_i (by rw [hE'.out, if_pos hbig]), Below.refl _ _⟩
  · go_enter Tryd.func53, Tryd.ntmps53
    go_wp2
    go_loopw [10] (fun i wr => ∃ k : Nat, k ≤ n ∧ i = .int .i64 k ∧ Below w.heap.size w wr ∧ Hid (badT (l.drop k) = badT l)) (fun i _ => n - (intOf i).toNat)
    case atStart => exact ⟨0, Nat.zero_le _, rfl, Below.refl _ _, Lib.hid rfl⟩
    case round =>
      obtain ⟨k, hk, rfl, hB, hF⟩ := hrel
      by_cases hlt : k < n
      · obtain ⟨b, off, x0, x1, rfl, hbl, hx, c0, c1⟩ := RTk.at2 (h.below hB) hlt
        have hS := Lib.hid (badT_at hx)
        clear hx
        go_wp2_with (first | (go_at_call 109; refine (within_c _ _ _ _).mono ?_; rintro e w' ⟨rfl, rfl⟩))
        all_goals first
          | (go_ret; exact ⟨ret_i (by rw [hE'.out, if_neg hbig, ← hF.out, hS.out, if_pos (by first | omega | (simp_all; done) | (simp_all; omega))]), hB.alloc hB.size _⟩)
          | (go_roundw
             case rel => exact ⟨k + 1, by omega, by go_num, hB.alloc hB.size _, Lib.hid (by rw [← hF.out, hS.out, if_neg (by first | omega | (simp_all; done) | (simp_all; omega))])⟩
             case measure => simp [intOf]; omega)
      · have hS : Hid (badT l = false) := Lib.hid (by rw [← hF.out, drop_end (by rw [h.len]; omega)]; rfl)
        go_wp2
        go_ret
        exact ⟨ret_i (by rw [hE'.out, if_neg hbig, hS.out]; simp), hB⟩

/-! ## the reference's own check -/
def badP (x y : Int) : Bool := decide (¬ (0 ≤ x ∧ x ≤ 360000) ∨ ¬ (0 ≤ y ∧ y ≤ 360000))
theorem takesF1_c (x y : Int) (w : World) : Calls Tryd.prog 124 #[.agg #[.int .i64 x, .int .i64 y]] w fun e w' => e = .returned (.bool (badP x y)) ∧ Below w.heap.size w w' := by
  go_enter Tryd.func124, Tryd.ntmps124
  go_wp2_with (first | (go_at_call 106; refine (in_c _ _ _ _).mono ?_; rintro e w' ⟨rfl, rfl⟩))
  all_goals (go_ret; exact ⟨ret_b (by unfold badP; first | (rw [Bool.eq_iff_iff]; simp; omega) | (simp; omega) | (simp_all; done)), below_new _ _⟩)
theorem badP_at {l : List (Int × Int)} {k : Nat} {x y : Int} (h : l[k]? = some (x, y)) : badT (l.drop k) = if badP x y then true else badT (l.drop (k + 1)) := by
  rw [badT_at h]; unfold badP; simp only [decide_eq_true_eq]
theorem indexT_c (A : Option Addr) (n c : Nat) (l : List (Int × Int)) (w : World) (h : RTk w A n l) :
    Calls Tryd.prog 154 #[.slice A n c, .func (.func 124) #[] #[]] w fun e w' => ∃ v : Int, e = .returned (.int .i64 v) ∧ Hid (decide (0 ≤ v) = badT l) ∧ Below w.heap.size w w' := by
  have hb := h.bd
  go_enter Tryd.func154, Tryd.ntmps154
  go_wp2
  go_loopw [8] (fun i wr => ∃ k : Nat, k ≤ n ∧ i = .int .i64 k ∧ Below w.heap.size w wr ∧ Hid (badT (l.drop k) = badT l)) (fun i _ => n - (intOf i).toNat)
  case atStart => exact ⟨0, Nat.zero_le _, rfl, Below.refl _ _, Lib.hid rfl⟩
  case round =>
    obtain ⟨k, hk, rfl, hB, hF⟩ := hrel
    by_cases hlt : k < n
    · obtain ⟨b, off, x0, x1, rfl, hbl, hx, c0, c1⟩ := RTk.at2 (h.below hB) hlt
      have hS := Lib.hid (badP_at hx)
      clear hx
      go_wp2_with fail
      refine (takesF1_c x0 x1 _).mono ?_; rintro e w1 ⟨rfl, B1⟩
      have hB1 := below_next hB B1
      generalize badP x0 x1 = q at *
      cases q
      · go_wp2
        go_roundw
        case rel => exact ⟨k + 1, by omega, by go_num, hB1, Lib.hid (by rw [← hF.out, hS.out, if_neg (by simp)])⟩
        case measure => simp [intOf]; omega
      · go_wp2
        go_ret
        exact ⟨k, rfl, Lib.hid (by rw [← hF.out, hS.out]; simp), hB1⟩
    · have hS : Hid (badT l = false) := Lib.hid (by rw [← hF.out, drop_end (by rw [h.len]; omega)]; rfl)
      go_wp2
      go_ret
      exact ⟨-1, rfl, Lib.hid (by rw [hS.out]; rfl), hB⟩
theorem containsT_c (A : Option Addr) (n c : Nat) (l : List (Int × Int)) (w : World) (h : RTk w A n l) :
    Calls Tryd.prog 123 #[.slice A n c, .func (.func 124) #[] #[]] w fun e w' => e = .returned (.bool (badT l)) ∧ Below w.heap.size w w' := by
  go_enter Tryd.func123, Tryd.ntmps123
  go_wp2_with fail
  refine (indexT_c _ _ _ _ _ h).mono ?_; rintro e w1 ⟨v, rfl, hv, B1⟩
  go_wp2
  go_ret
  exact ⟨ret_b (by rw [← hv.out]), B1⟩
theorem takesFault_c (A : Option Addr) (n c : Nat) (l : List (Int × Int)) (w : World) (h : RTk w A n l) :
    Calls Tryd.prog 52 #[.slice A n c] w fun e w' => e = .returned (.int .i64 (takesErr l)) ∧ Below w.heap.size w w' := by
  have hl := h.len
  have hb := h.bd
  have hE : takesErr l = if 200 < n then 2 else if badT l then 1 else 0 := by unfold takesErr; rw [hl]
  generalize takesErr l = E at *
  have hE' := Lib.hid hE
  have hC := Lib.hid (fun W => containsT_c A n c l W)
  clear hE hl
  by_cases hbig : 200 < n
  · go_enter Tryd.func52, Tryd.ntmps52
    go_wp2
    go_ret
    exact ⟨ret_i (by rw [hE'.out, if_pos hbig]), Below.refl _ _⟩
  · generalize badT l = q at *
    go_enter Tryd.func52, Tryd.ntmps52
    go_wp2_with fail
    refine (hC.out _ h).mono ?_; rintro e w1 ⟨rfl, B1⟩
    cases q
    · go_wp2
      go_ret
      exact ⟨ret_i (by rw [hE'.out, if_neg hbig]; rfl), B1⟩
    · go_wp2
      go_ret
      exact ⟨ret_i (by rw [hE'.out, if_neg hbig]; rfl), B1⟩

/-! ## what is between touch and start, and the first false one -/
def diffT (l : List (Int × Int)) : List Int := l.map fun p => p.2 - p.1
def firstT : Int → Int → List (Int × Int) → Int
  | f, _, [] => f
  | f, k, p :: l => firstT (if f < 0 ∧ p.2 - p.1 < -3 then k else f) (k + 1) l
theorem diffT_at {l : List (Int × Int)} {k : Nat} {x y : Int} (h : l[k]? = some (x, y)) : diffT (l.drop k) = (y - x) :: diffT (l.drop (k + 1)) := by rw [drop_at h]; rfl
theorem firstT_at {l : List (Int × Int)} {k : Nat} {x y f i : Int} (h : l[k]? = some (x, y)) : firstT f i (l.drop k) = firstT (if f < 0 ∧ y - x < -3 then i else f) (i + 1) (l.drop (k + 1)) := by rw [drop_at h]; rfl
theorem badT_bd : ∀ {l : List (Int × Int)} {k : Nat} {x y : Int}, badT l = false → l[k]? = some (x, y) → 0 ≤ x ∧ x ≤ 360000 ∧ 0 ≤ y ∧ y ≤ 360000
  | [], _, _, _, _, h => by simp at h
  | p :: l, 0, x, y, hb, h => by
    obtain rfl : p = (x, y) := by simpa using h
    unfold badT at hb
    split at hb
    · cases hb
    · rename_i h1; dsimp only at h1; omega
  | p :: l, k + 1, x, y, hb, h => by
    unfold badT at hb
    split at hb
    · cases hb
    · exact badT_bd (l := l) (k := k) hb (by simpa using h)
theorem takesErr_ok {l : List (Int × Int)} (h : takesErr l = 0) : l.length ≤ 200 ∧ badT l = false := by
  unfold takesErr at h
  split at h
  · cases h
  · split at h
    · cases h
    · rename_i h1 h2; exact ⟨by omega, by simpa using h2⟩

set_option maxHeartbeats 1600000 in
set_option maxRecDepth 100000 in
theorem takesOf_c (A : Option Addr) (n c : Nat) (l : List (Int × Int)) (w : World) (h : RTk w A n l) (h0 : takesErr l = 0) :
    Calls Tryd.prog 55 #[.slice A n c] w fun e w' => ∃ A' c', e = .returned (.tuple #[.slice A' n c', .int .i64 (firstT (-1) 0 l)]) ∧ RI 3 w' A' n (diffT l) ∧ Below w.heap.size w w' := by
  obtain ⟨hn, hbad⟩ := takesErr_ok h0
  rw [h.len] at hn
  have hbd : ∀ (k : Nat) (x y : Int), l[k]? = some (x, y) → 0 ≤ x ∧ x ≤ 360000 ∧ 0 ≤ y ∧ y ≤ 360000 := fun k x y hx => badT_bd hbad hx
  have hbd' := Lib.hid hbd
  clear hbd hbad h0
  go_enter Tryd.func55, Tryd.ntmps55
  go_wp2
  go_loopw [4, 5, 10] (fun out f i wr => ∃ (k : Nat) (fv : Int) (acc : List Int), k ≤ n ∧ i = .int .i64 k ∧ f = .int .i64 fv ∧ wr.ownsRow w.heap.size 3 1 out k (ints acc) ∧ Below w.heap.size w wr ∧ -1 ≤ fv ∧ Hid (acc ++ diffT (l.drop k) = diffT l) ∧ Hid (firstT fv k (l.drop k) = firstT (-1) 0 l)) (fun _ _ i _ => n - (intOf i).toNat)
  case atStart => exact ⟨0, -1, [], Nat.zero_le _, rfl, rfl, World.ownsRow_nil _ _ _ _, Below.refl _ _, by omega, Lib.hid rfl, Lib.hid rfl⟩
  case round =>
    obtain ⟨k, fv, acc, hk, rfl, rfl, hown, hB, hfv, hD, hF⟩ := hrel
    by_cases hlt : k < n
    · obtain ⟨b, off, x, y, rfl, hbl, hx, c0, c1⟩ := RTk.at2 (h.below hB) hlt
      have hS := Lib.hid (firstT_at (f := fv) (i := (k : Int)) hx)
      have hT := Lib.hid (diffT_at hx)
      obtain ⟨hx0, hx1, hy0, hy1⟩ := hbd'.out _ _ _ hx
      have hz := hB.size
      have hown1 := hown.alloc (.cells #[.int .i64 x, .int .i64 y] 145)
      clear hx
      go_wp2_with (at_builtin; refine wpList_app rfl (.tmp 15) (.tmp 21) 22 rfl Tryd.underlying22 info_int rfl (by omega) (by omega) hown1 rfl rfl (by simp) rfl (by simp [Value.oneCell']) (by omega) (by simp; omega) ?_; intro v4 w4 hown4 hg4; have hcb := (blk_facts (blk_app hown (Nat.le_refl _) (heap_alloc_new wr _) hg4)).1; have hB4 := below_own (hB.alloc hz _) hown1 hg4 (by simp; omega) (Nat.le_refl _))
      all_goals
        go_roundw
        case rel =>
          refine ⟨k + 1, _, acc ++ [y - x], by omega, by go_num, rfl, by rw [ints_app]; exact hown4, hB4, by omega, Lib.hid (by rw [← hD.out, hT.out]; simp), Lib.hid ?_⟩
          rw [← hF.out, hS.out]
          first | rw [if_pos (by first | omega | (simp_all; done) | (simp_all; omega))] | rw [if_neg (by first | omega | (simp_all; done) | (simp_all; omega))]
          push_cast
          rfl
        case measure => simp [intOf]; omega
    · have hD' : Hid (acc = diffT l) := Lib.hid (by rw [← hD.out, drop_end (by rw [h.len]; omega)]; simp [diffT])
      have hF' : Hid (fv = firstT (-1) 0 l) := Lib.hid (by rw [← hF.out, drop_end (by rw [h.len]; omega)]; rfl)
      obtain rfl : k = n := by omega
      obtain ⟨A', c', rfl⟩ := own_shape hown
      go_wp2
      go_ret2
      exact ⟨A', c', by rw [← hF'.out]; rfl, by rw [← hD'.out]; exact R1.of_own hown (by omega), hB⟩
end Go.Proofs.YtjfppcejcbfngaaDoor
