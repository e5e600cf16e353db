import Derived.Test.YtmnidnmdjkfhnaaGreatDoorProg
import Derived.Test.YtmnidnmdjkfhnaaGreatDoorStructs
import Derived.BigGuardPart
import Derived.Laws.StructEq
import Derived.Test.YtmnidnmdjkfhnaaGreatDoorFrac
import Derived.Test.YtmnidnmdjkfhnaaGreatDoorLikes
import Derived.Test.YtmnidnmdjkfhnaaGreatDoorSwims2
import Derived.Test.YtmnidnmdjkfhnaaGreatDoorAhead2
import Derived.Test.YtmnidnmdjkfhnaaGreatDoorTurns
/- api.Gap as data; slices.Equal over it. -/
namespace Go.Proofs.YtmnidnmdjkfhnaaGreatDoor
open Go.RowKit
set_option linter.unusedVariables false

theorem str_neGp {a b : ByteArray} (h : a ≠ b) : (a.toList == b.toList) = false := by
  rw [beq_eq_false_iff_ne, ByteArray.toList_eq, ByteArray.toList_eq]
  intro e
  exact h (by cases a; cases b; congr 1; exact Array.toList_inj.mp e)
structure Gp where
  who : ByteArray
  length : Int
  behind : Int
deriving DecidableEq
def gpE (p : Gp) : List Value := [.string p.who, .int .i64 p.length, .int .i64 p.behind]
theorem gpE_len : ∀ x, (gpE x).length = 3 := fun _ => rfl
abbrev RGp (w : World) (A : Option Addr) (n : Nat) (l : List Gp) : Prop := RN 3 gpE 51 w A n l
theorem RGp.atN {w : World} {A : Option Addr} {n : Nat} {l : List Gp} (h : RGp w A n l) {k : Nat} (hk : k < n) : ∃ b off x, A = some ⟨b, off, none⟩ ∧ b < w.heap.size ∧ l[k]? = some x ∧ w.cell? ⟨b, off + k * 3, none⟩ = some (.string x.who) ∧ w.cell? ⟨b, off + k * 3 + 1, none⟩ = some (.int .i64 x.length) ∧ w.cell? ⟨b, off + k * 3 + 2, none⟩ = some (.int .i64 x.behind) := by
  obtain ⟨b, off, x, hA, hb, hx, hc⟩ := h.at_ hk
  exact ⟨b, off, x, hA, hb, hx, hc 0 _ rfl, hc 1 _ rfl, hc 2 _ rfl⟩
set_option maxHeartbeats 1600000 in
set_option maxRecDepth 100000 in
theorem equalGp_c (A1 A2 : Option Addr) (n c m d : Nat) (l1 l2 : List Gp) (w : World) (h1 : RGp w A1 n l1) (h2 : RGp w A2 m l2) :
    Calls Tryz.prog 26 #[.slice A1 n c, .slice A2 m d] w fun e w' => e = .returned (.bool (decide (l1 = l2))) ∧ ∃ q, w' = w.drewN q := by
  have b1 := h1.bd
  have b2 := h2.bd
  by_cases hnm : n = m
  rotate_left
  · have hd : decide (l1 = l2) = false := by simp; rintro rfl; have := h1.len; have := h2.len; omega
    have hne : ((n : Int) != (m : Int)) = true := by rw [bne_iff_ne]; omega
    rw [hd]
    clear hd
    go_enter Tryz.func26, Tryz.ntmps26
    go_wp2
    go_ret
    exact ⟨rfl, 0, rfl⟩
  subst hnm
  have hL1 := Lib.hid h1.len
  have hL2 := Lib.hid h2.len
  go_enter Tryz.func26, Tryz.ntmps26
  go_wp2
  go_loopw [13] (fun i wr => ∃ k q : Nat, k ≤ n ∧ i = .int .i64 k ∧ wr = w.drewN q ∧ Hid (∀ j, j < k → l1[j]? = l2[j]?)) (fun i _ => n - (intOf i).toNat)
  case atStart => exact ⟨0, 0, Nat.zero_le _, rfl, rfl, Lib.hid (fun j h => absurd h (by omega))⟩
  case round =>
    obtain ⟨k, q0, hk, rfl, rfl, hF⟩ := hrel
    by_cases hlt : k < n
    · obtain ⟨b, off, x, rfl, hbl, hx, c0, c1, c2⟩ := RGp.atN h1 hlt
      obtain ⟨b', off', y, rfl, hbl', hy, e0, e1, e2⟩ := RGp.atN h2 hlt
      have hx' := Lib.hid hx
      have hy' := Lib.hid hy
      clear hx hy
      by_cases hxy : x = y
      · subst hxy
        go_wp2
        go_quiet (fail)
        go_wp2
        go_roundw
        case rel => exact ⟨k + 1, _, by omega, by go_num, rfl, Lib.hid (fun j hj => by
          by_cases hjk : j = k
          · subst hjk; rw [hx'.out, hy'.out]
          · exact hF.out j (by omega))⟩
        case measure => simp [intOf]; omega
      · obtain ⟨x0, x1, x2⟩ := x
        obtain ⟨y0, y1, y2⟩ := y
        dsimp only at c0 c1 c2 e0 e1 e2
        have hcases : (x0.toList == y0.toList) = false ∨ (x0 = y0 ∧ ((x1 == y1) = false ∨ (x1 = y1 ∧ ((x2 == y2) = false)))) := by
          by_cases q0 : x0 = y0
          · refine .inr ⟨q0, ?_⟩
            by_cases q1 : x1 = y1
            · refine .inr ⟨q1, ?_⟩
              exact beq_eq_false_iff_ne.2 (fun q2 => hxy (by rw [q0, q1, q2]))
            · exact .inl (beq_eq_false_iff_ne.2 q1)
          · exact .inl (str_neGp q0)
        have hfin : Hid (decide (l1 = l2) = false) := Lib.hid (by
          simp only [decide_eq_false_iff_not]
          rintro rfl
          rw [hx'.out] at hy'
          exact hxy (Option.some.inj hy'.out))
        clear hxy
        rcases hcases with h0 | ⟨rfl, h1 | ⟨rfl, h2⟩⟩
        all_goals
          go_wp2
          go_quiet (fail)
          go_wp2
          go_ret
          exact ⟨ret_b (by rw [hfin.out]), _, by rw [World.drewN_drewN]⟩
    · have hfin : Hid (decide (l1 = l2) = true) := Lib.hid (by
        simp only [decide_eq_true_eq]
        apply List.ext_getElem?; intro j
        by_cases hj : j < n
        · exact hF.out j (by omega)
        · rw [List.getElem?_eq_none (by rw [hL1.out]; omega), List.getElem?_eq_none (by rw [hL2.out]; omega)])
      go_wp2
      go_ret
      exact ⟨ret_b (by rw [hfin.out]), _, rfl⟩
end Go.Proofs.YtmnidnmdjkfhnaaGreatDoor

/- Best laps, plain: column by column (the reference), swim by swim (the program). -/
namespace Go.Proofs.YtmnidnmdjkfhnaaGreatDoor
open Go.RowKit
set_option linter.unusedVariables false

def stepG (g : Gp) (who : ByteArray) (lap : Int) : Gp := if lap < g.behind then ⟨who, g.length, lap⟩ else g
/-- column j over the swims l, from g -/
def colG (j : Nat) (g : Gp) : List Sw → Gp
  | [] => g
  | x :: r => colG j (stepG g x.who ((lapsL x.sp).getD j 0)) r
theorem colG_snoc (j : Nat) (g : Gp) (l : List Sw) (x : Sw) : colG j g (l ++ [x]) = stepG (colG j g l) x.who ((lapsL x.sp).getD j 0) := by
  induction l generalizing g with
  | nil => rfl
  | cons y r ih => exact ih _
def zeroG (j : Nat) : Gp := ⟨⟨#[]⟩, (j : Int) + 1, 360001⟩
def bestL (m : Nat) (l : List Sw) : List Gp := (List.range m).map fun j => colG j (zeroG j) l
theorem bestL_len (m : Nat) (l : List Sw) : (bestL m l).length = m := by simp [bestL]
theorem bestL_at {m j : Nat} (h : j < m) (l : List Sw) : (bestL m l)[j]? = some (colG j (zeroG j) l) := by simp [bestL, h]
/-- the program's row while swim x is under way: the first j columns have seen it -/
def bestW (m j : Nat) (l : List Sw) (x : Sw) : List Gp := (bestL m (l ++ [x])).take j ++ (bestL m l).drop j
theorem bestW_zero (m : Nat) (l : List Sw) (x : Sw) : bestW m 0 l x = bestL m l := by simp [bestW]
theorem bestW_end (m : Nat) (l : List Sw) (x : Sw) : bestW m m l x = bestL m (l ++ [x]) := by
  unfold bestW; rw [List.take_of_length_le (by simp [bestL_len]), List.drop_of_length_le (by simp [bestL_len]), List.append_nil]
theorem bestW_succ {m j : Nat} (h : j < m) (l : List Sw) (x : Sw) : bestW m (j + 1) l x = (bestW m j l x).set j (stepG (colG j (zeroG j) l) x.who ((lapsL x.sp).getD j 0)) := by
  unfold bestW
  have h1 := bestL_at h (l ++ [x])
  have h2 := bestL_at h l
  rw [colG_snoc] at h1
  have h3 : ((bestL m (l ++ [x])).take j).length = j := by rw [List.length_take, bestL_len]; omega
  rw [List.take_add_one, h1, drop_at h2, List.set_append_right _ _ (by omega), h3]
  simp
theorem bestW_at {m j : Nat} (h : j < m) (l : List Sw) (x : Sw) : (bestW m j l x)[j]? = some (colG j (zeroG j) l) := by
  unfold bestW
  have h3 : ((bestL m (l ++ [x])).take j).length = j := by rw [List.length_take, bestL_len]; omega
  rw [List.getElem?_append_right (by omega), h3, Nat.sub_self, List.getElem?_drop, Nat.add_zero, bestL_at h]
/-- the first swim: the program takes its laps as they are -/
theorem best_first {j : Nat} {x : Sw} (h : (lapsL x.sp).getD j 0 ≤ 360000) : colG j (zeroG j) [x] = ⟨x.who, (j : Int) + 1, (lapsL x.sp).getD j 0⟩ := by
  show stepG (zeroG j) x.who _ = _
  unfold stepG zeroG
  rw [if_pos (by show _ < (360001 : Int); omega)]
def sumG : List Gp → Int
  | [] => 0
  | g :: r => g.behind + sumG r
end Go.Proofs.YtmnidnmdjkfhnaaGreatDoor

/- The reference's BestLaps. (UNDER WAY) -/
namespace Go.Proofs.YtmnidnmdjkfhnaaGreatDoor
open Go.RowKit
set_option linter.unusedVariables false

theorem info_gap : (Tryz.prog.info? 51).map (fun i => (i.zero, i.size, i.bytes)) = some (some (.agg #[.string ⟨#[]⟩, .int .i64 0, .int .i64 0]), 3, 32) := by kernel_rfl
end Go.Proofs.YtmnidnmdjkfhnaaGreatDoor
