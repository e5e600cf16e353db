/- The errors of splits by the reference; whole splits. -/
import Derived.Test.YtjfppcejcbfngaaDoorSplitC
namespace Go.Proofs.YtjfppcejcbfngaaDoor
open Go.RowKit
set_option linter.unusedVariables false

def timeErr (n : Int) : Int := if 1 ≤ n ∧ n ≤ 360000 then 0 else 1
def spanErr (n a b : Int) : Int := if a ≤ n ∧ n ≤ b then 0 else 1
def noneErr (b : Bool) : Int := if b then 8 else 0
theorem timeFault_c (n : Int) (w : World) : Calls Tryd.prog 28 #[.int .i64 n] w fun e w' => e = .returned (.int .i64 (timeErr n)) ∧ w = w' := by
  go_enter Tryd.func28, Tryd.ntmps28
  go_wp2_with (go_at_call 106; refine (in_c _ _ _ _).mono ?_; rintro e w' ⟨rfl, rfl⟩)
  · go_ret
    exact ⟨ret_i (by unfold timeErr; rw [if_neg (by first | omega | (simp_all; done) | (simp_all; omega))]), rfl⟩
  · go_ret
    exact ⟨ret_i (by unfold timeErr; rw [if_pos (by first | omega | (simp_all; done) | (simp_all; omega))]), rfl⟩
theorem spanFault_c (n a b : Int) (w : World) : Calls Tryd.prog 79 #[.int .i64 n, .int .i64 a, .int .i64 b] w fun e w' => e = .returned (.int .i64 (spanErr n a b)) ∧ w = w' := by
  go_enter Tryd.func79, Tryd.ntmps79
  go_wp2_with (go_at_call 106; refine (in_c _ _ _ _).mono ?_; rintro e w' ⟨rfl, rfl⟩)
  · go_ret
    exact ⟨ret_i (by unfold spanErr; rw [if_neg (by first | omega | (simp_all; done) | (simp_all; omega))]), rfl⟩
  · go_ret
    exact ⟨ret_i (by unfold spanErr; rw [if_pos (by first | omega | (simp_all; done) | (simp_all; omega))]), rfl⟩
theorem noneFault_c (b : Bool) (w : World) : Calls Tryd.prog 43 #[.bool b] w fun e w' => e = .returned (.int .i64 (noneErr b)) ∧ w = w' := by
  cases b
  · go_enter Tryd.func43, Tryd.ntmps43
    go_wp2
    go_ret
    exact ⟨rfl, rfl⟩
  · go_enter Tryd.func43, Tryd.ntmps43
    go_wp2
    go_ret
    exact ⟨rfl, rfl⟩

theorem sp_atM {l : List Int} {k : Nat} {x last : Int} (h : l[k]? = some x) (h0 : 0 ≤ last) : spErrL (l.drop k) last = if ¬ (0 ≤ x ∧ x ≤ 360000) then 1 else if x ≠ 0 ∧ x ≤ last then 7 else spErrL (l.drop (k + 1)) (max last x) := by
  rw [sp_at h]
  by_cases h1 : 0 ≤ x ∧ x ≤ 360000
  · have e : ¬ ¬ (0 ≤ x ∧ x ≤ 360000) := fun h => h h1
    simp only [if_neg e]
    by_cases h2 : x ≠ 0 ∧ x ≤ last
    · rw [if_pos h2, if_pos h2]
    · rw [if_neg h2, if_neg h2]
      congr 1
      split <;> omega
  · rw [if_pos h1, if_pos h1]

set_option maxHeartbeats 800000 in
theorem splitsFault_c (r : Race) (A : Option Addr) (n c : Nat) (l : List Int) (w : World) (h : RI 3 w A n l) (h0 : raceErr r = 0) :
    Calls Tryd.prog 61 #[r.val, .slice A n c] w fun e w' => e = .returned (.int .i64 (splitsErr r l)) ∧ Below w.heap.size w w' := by
  have Hl := fun W => lengthsOf_c r W h0
  have hlb := lenV_bd h0
  have hE : splitsErr r l = if (l.length : Int) ≠ lenV r then 3 else if spErrL l 0 ≠ 0 then spErrL l 0 else if l.getLastD 0 = 0 then 8 else 0 := rfl
  generalize lenV r = y at *
  generalize splitsErr r l = E at *
  clear h0
  obtain ⟨key, metres, stroke, course, legs, sex, young, old⟩ := r
  dsimp only [Race.val, Race.cells] at *
  have Hl' := Lib.hid Hl; clear Hl
  have hn := h.bd
  have hlen := h.len
  by_cases hyl : (n : Int) = y
  · have hnp : 0 < n := by omega
    have hne : ((n : Int) != y) = false := by simpa using hyl
    rw [if_neg (by rw [hlen]; simpa using hyl)] at hE
    have hE' := Lib.hid hE
    clear hyl hE
    have hlen' := Lib.hid hlen; clear hlen
    go_enter Tryd.func61, Tryd.ntmps61
    go_wp2_with fail
    refine (Hl'.out _).mono ?_; rintro e w2 ⟨rfl, hb2⟩; have hB2 := below_box hb2
    have h2 := h.below hB2
    clear h
    go_wp2
    go_loop [5, 15] (fun t i => ∃ (k : Nat) (last : Int), k ≤ n ∧ i = .int .i64 k ∧ t = .int .i64 last ∧ 0 ≤ last ∧ Hid (spErrL (l.drop k) last = spErrL l 0)) (fun _ i => n - (intOf i).toNat)
    case atStart => exact ⟨0, 0, Nat.zero_le _, rfl, rfl, by omega, Lib.hid rfl⟩
    case round =>
      obtain ⟨k, last, hk, rfl, rfl, hl0, hF⟩ := hrel
      by_cases hlt : k < n
      · obtain ⟨b, off, x, rfl, hbl, hx, hcell⟩ := h2.at_ hlt
        have hS := Lib.hid (sp_atM (last := last) hx hl0)
        clear hx h2
        go_wp2_with (go_at_call 106; refine (in_c _ _ _ _).mono ?_; rintro e w' ⟨rfl, rfl⟩)
        · go_ret
          have e1 : spErrL l 0 = 1 := by rw [← hF.out, hS.out, if_pos (by first | omega | (simp_all; done) | (simp_all; omega))]
          exact ⟨ret_i (by rw [hE'.out, e1]; rfl), hB2⟩
        · go_ret
          have e1 : spErrL l 0 = 7 := by rw [← hF.out, hS.out, if_neg (by first | omega | (simp_all; done) | (simp_all; omega)), if_pos (by first | omega | (simp_all; done) | (simp_all; omega))]
          exact ⟨ret_i (by rw [hE'.out, e1]; rfl), hB2⟩
        · go_round
          case rel => exact ⟨k + 1, max last x, by omega, by go_num, rfl, by omega, Lib.hid (by rw [← hF.out, hS.out, if_neg (by first | omega | (simp_all; done) | (simp_all; omega)), if_neg (by first | omega | (simp_all; done) | (simp_all; omega))])⟩
          case measure => simp [intOf]; omega
        · obtain rfl : x = 0 := by assumption
          go_round
          case rel => exact ⟨k + 1, max last 0, by omega, by go_num, rfl, by omega, Lib.hid (by rw [← hF.out, hS.out, if_neg (by first | omega | (simp_all; done) | (simp_all; omega)), if_neg (by first | omega | (simp_all; done) | (simp_all; omega))])⟩
          case measure => simp [intOf]; omega
      · obtain ⟨b, off, x, rfl, hbl, hx, hcell⟩ := h2.at_ (k := n - 1) (by omega)
        have hX : Hid (l.getLastD 0 = x) := Lib.hid (by rw [last_at hlen'.out hnp] at hx; exact Option.some.inj hx)
        have hS : Hid (spErrL l 0 = 0) := Lib.hid (by rw [← hF.out, drop_end (by rw [hlen'.out]; omega)]; rfl)
        clear hx h2
        go_wp2
        · go_ret
          exact ⟨ret_i (by rw [hE'.out, hS.out, hX.out, if_neg (by simp), if_pos (by first | omega | (simp_all; done) | (simp_all; omega))]), hB2⟩
        · go_ret
          exact ⟨ret_i (by rw [hE'.out, hS.out, hX.out, if_neg (by simp), if_neg (by first | omega | (simp_all; done) | (simp_all; omega))]), hB2⟩
  · have hne : ((n : Int) != y) = true := by simpa using hyl
    have hE' : Hid (E = 3) := Lib.hid (by rw [hE, if_pos (by rw [hlen]; exact hyl)])
    clear hE hyl
    go_enter Tryd.func61, Tryd.ntmps61
    go_wp2_with fail
    refine (Hl'.out _).mono ?_; rintro e w2 ⟨rfl, hb2⟩; have hB2 := below_box hb2
    go_wp2
    go_ret
    exact ⟨ret_i (by rw [hE'.out]), hB2⟩

theorem knownFault_c (r : Race) (A : Option Addr) (n c : Nat) (l : List Int) (w : World) (h : RI 3 w A n l) (h0 : raceErr r = 0) :
    Calls Tryd.prog 31 #[r.val, .slice A n c] w fun e w' => e = .returned (.int .i64 (knownErr r l)) ∧ Below w.heap.size w w' := by
  have Hs := fun W h => splitsFault_c r A n c l W h h0
  have hE : knownErr r l = orV [splitsErr r l, noneErr (hasB l 0)] := by rw [orV_two]; rfl
  generalize splitsErr r l = x at *
  generalize knownErr r l = E at *
  have hE' := Lib.hid hE
  have Hs' := Lib.hid Hs
  clear h0 hE Hs
  obtain ⟨key, metres, stroke, course, legs, sex, young, old⟩ := r
  dsimp only [Race.val, Race.cells] at *
  go_enter Tryd.func31, Tryd.ntmps31
  go_wp2_with fail
  refine (Hs'.out _ (h.alloc _)).mono ?_; rintro e w1 ⟨rfl, hb1⟩; have hB1 := below_box hb1
  go_wp2_with fail
  refine (contains_c _ _ _ l _ _ (h.below hB1)).mono ?_; rintro e w' ⟨rfl, rfl⟩
  go_wp2_with fail
  refine (noneFault_c _ _).mono ?_; rintro e w' ⟨rfl, rfl⟩
  go_wp2_with fail
  refine (orE_c _ _ _ [x, noneErr (hasB l 0)] _ (R1.lit _ _ _ rfl (le_big (by simp)))).mono ?_; rintro e w' ⟨rfl, rfl⟩
  go_wp2
  go_ret
  exact ⟨ret_i (by rw [hE'.out]), below_next hB1 (below_new _ _)⟩
theorem checkWhole_c (r : Race) (A : Option Addr) (n c : Nat) (l : List Int) (w : World) (h : RI 3 w A n l) :
    Calls Tryd.prog 114 #[r.val, .slice A n c] w fun e w' => e = .returned (.int .i64 (wholeErr r l)) ∧ Below w.heap.size w w' := by
  have Hs := fun W h => checkSplits_c r A n c l W h
  by_cases hx : checkSp r l = 0
  · have hE : wholeErr r l = if hasB l 0 then 8 else 0 := by
      unfold checkSp at hx
      unfold wholeErr
      split at hx
      · omega
      · rw [if_neg (by assumption)]; unfold knownErr; rw [if_neg (by simpa using hx)]
    rw [hx] at Hs
    generalize wholeErr r l = E at *
    clear hx
    have hE' := Lib.hid hE
    have Hs' := Lib.hid Hs
    clear hE Hs
    obtain ⟨key, metres, stroke, course, legs, sex, young, old⟩ := r
    dsimp only [Race.val, Race.cells] at *
    go_enter Tryd.func114, Tryd.ntmps114
    go_wp2_with fail
    refine (Hs'.out _ (h.alloc _)).mono ?_; rintro e w1 ⟨rfl, hb1⟩; have hB1 := below_box hb1
    go_wp2_with fail
    refine (contains_c _ _ _ l _ _ (h.below hB1)).mono ?_; rintro e w' ⟨rfl, rfl⟩
    go_wp2
    · go_ret
      exact ⟨ret_i (by rw [hE'.out, if_pos (by first | omega | (simp_all; done) | (simp_all; omega))]), hB1⟩
    · go_ret
      exact ⟨ret_i (by rw [hE'.out, if_neg (by first | omega | (simp_all; done) | (simp_all; omega))]), hB1⟩
  · have hE : wholeErr r l = checkSp r l := by
      unfold checkSp at hx ⊢
      unfold wholeErr
      split
      · rfl
      · rename_i h0
        rw [if_neg h0] at hx
        unfold knownErr; rw [if_pos hx]
    have hn : (checkSp r l != 0) = true := by simpa using hx
    generalize checkSp r l = x at *
    generalize wholeErr r l = E at *
    have hE' := Lib.hid hE
    have Hs' := Lib.hid Hs
    clear hE Hs hx
    obtain ⟨key, metres, stroke, course, legs, sex, young, old⟩ := r
    dsimp only [Race.val, Race.cells] at *
    go_enter Tryd.func114, Tryd.ntmps114
    go_wp2_with fail
    refine (Hs'.out _ (h.alloc _)).mono ?_; rintro e w1 ⟨rfl, hb1⟩; have hB1 := below_box hb1
    go_wp2
    go_ret
    exact ⟨ret_i (by rw [hE'.out]), hB1⟩
end Go.Proofs.YtjfppcejcbfngaaDoor
