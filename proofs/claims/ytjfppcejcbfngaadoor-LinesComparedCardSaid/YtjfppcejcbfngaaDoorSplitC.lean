/- The errors of splits: the program's and the reference's. -/
import Derived.Test.YtjfppcejcbfngaaDoorLens
import Derived.Test.YtjfppcejcbfngaaDoorClock
import Derived.Test.YtjfppcejcbfngaaDoorLists
namespace Go.Proofs.YtjfppcejcbfngaaDoor
open Go.RowKit
set_option linter.unusedVariables false

def spErrL : List Int → Int → Int
  | [], _ => 0
  | x :: r, last => if ¬ (0 ≤ x ∧ x ≤ 360000) then 1 else if x ≠ 0 ∧ x ≤ last then 7 else spErrL r (if x ≠ 0 then x else last)
def splitsErr (r : Race) (l : List Int) : Int := if (l.length : Int) ≠ lenV r then 3 else if spErrL l 0 ≠ 0 then spErrL l 0 else if l.getLastD 0 = 0 then 8 else 0
def checkSp (r : Race) (l : List Int) : Int := if raceErr r ≠ 0 then raceErr r else splitsErr r l
def knownErr (r : Race) (l : List Int) : Int := if splitsErr r l ≠ 0 then splitsErr r l else if hasB l 0 then 8 else 0
def wholeErr (r : Race) (l : List Int) : Int := if raceErr r ≠ 0 then raceErr r else knownErr r l

theorem last_at {l : List Int} {n : Nat} (hl : l.length = n) (hn : 0 < n) : l[n - 1]? = some (l.getLastD 0) := by
  subst hl
  rw [List.getLastD_eq_getLast?, List.getLast?_eq_getElem?]
  rw [List.getElem?_eq_getElem (by omega)]; rfl
theorem sp_at {l : List Int} {k : Nat} {x last : Int} (h : l[k]? = some x) : spErrL (l.drop k) last = if ¬ (0 ≤ x ∧ x ≤ 360000) then 1 else if x ≠ 0 ∧ x ≤ last then 7 else spErrL (l.drop (k + 1)) (if x ≠ 0 then x else last) := by
  rw [drop_at h]; rfl

set_option maxHeartbeats 800000 in
theorem checkSplits_c (r : Race) (A : Option Addr) (n c : Nat) (l : List Int) (w : World) (h : RI 3 w A n l) :
    Calls Tryd.prog 66 #[r.val, .slice A n c] w fun e w' => e = .returned (.int .i64 (checkSp r l)) ∧ Below w.heap.size w w' := by
  have Hc := fun W => checkRace_c r W
  have Hl := fun W h => lengths_c r W h
  by_cases h0 : raceErr r = 0
  · have hlb := lenV_bd h0
    have hE : checkSp r l = if (l.length : Int) ≠ lenV r then 3 else if spErrL l 0 ≠ 0 then spErrL l 0 else if l.getLastD 0 = 0 then 8 else 0 := by unfold checkSp splitsErr; rw [if_neg (by simpa using h0)]
    have Hl := fun W => Hl W h0
    rw [h0] at Hc
    generalize lenV r = y at *
    generalize checkSp r l = E at *
    clear h0
    obtain ⟨key, metres, stroke, course, legs, sex, young, old⟩ := r
    dsimp only [Race.val, Race.cells] at *
    have Hc' := Lib.hid Hc; clear Hc
    have Hl' := Lib.hid Hl; clear Hl
    have hn := h.bd
    have hlen := h.len
    by_cases hyl : (n : Int) = y
    · have hyl' := Lib.hid hyl
      have hnp : 0 < n := by omega
      have hne : ((n : Int) != y) = false := by simpa using hyl
      rw [if_neg (by rw [hlen]; simpa using hyl)] at hE
      have hE' := Lib.hid hE
      clear hyl hE
      have hlen' := Lib.hid hlen; clear hlen
      go_enter Tryd.func66, Tryd.ntmps66
      go_wp2_with fail
      refine (Hc'.out _).mono ?_; rintro e w1 ⟨rfl, hb1⟩; obtain ⟨C1, F1⟩ := bcell hb1; have hB1 := below_box hb1
      go_wp2_with fail
      refine (Hl'.out _).mono ?_; rintro e w2 ⟨rfl, hb2⟩; have hB2 := below_next hB1 hb2
      have h2 := h.below hB2
      clear h C1 F1
      go_wp2
      go_loop [6, 21] (fun t i => ∃ (k : Nat) (last : Int), k ≤ n ∧ i = .int .i64 k ∧ t = .int .i64 last ∧ Hid (spErrL (l.drop k) last = spErrL l 0)) (fun _ i => n - (intOf i).toNat)
      case atStart => exact ⟨0, 0, Nat.zero_le _, rfl, rfl, Lib.hid rfl⟩
      case round =>
        obtain ⟨k, last, hk, rfl, rfl, hF⟩ := hrel
        by_cases hlt : k < n
        · obtain ⟨b, off, x, rfl, hbl, hx, hcell⟩ := h2.at_ hlt
          have hS := Lib.hid (sp_at (last := last) hx)
          clear hx h2
          go_wp2_with (go_at_call 109; refine (within_c _ _ _ _).mono ?_; rintro e w' ⟨rfl, rfl⟩)
          · go_ret
            have e1 : spErrL l 0 = 1 := by rw [← hF.out, hS.out, if_pos (by first | omega | (simp_all; done) | (simp_all; omega))]
            exact ⟨ret_i (by rw [hE'.out, e1]; rfl), hB2⟩
          · go_ret
            have e1 : spErrL l 0 = 7 := by rw [← hF.out, hS.out, if_neg (by first | omega | (simp_all; done) | (simp_all; omega)), if_pos (by first | omega | (simp_all; done) | (simp_all; omega))]
            exact ⟨ret_i (by rw [hE'.out, e1]; rfl), hB2⟩
          · go_round
            case rel => exact ⟨k + 1, x, by omega, by go_num, rfl, Lib.hid (by rw [← hF.out, hS.out, if_neg (by first | omega | (simp_all; done) | (simp_all; omega)), if_neg (by first | omega | (simp_all; done) | (simp_all; omega)), if_pos (by first | omega | (simp_all; done) | (simp_all; omega))])⟩
            case measure => simp [intOf]; omega
          · go_round
            case rel => exact ⟨k + 1, last, by omega, by go_num, rfl, Lib.hid (by rw [← hF.out, hS.out, if_neg (by first | omega | (simp_all; done) | (simp_all; omega)), if_neg (by first | omega | (simp_all; done) | (simp_all; omega)), if_neg (by first | omega | (simp_all; done) | (simp_all; omega))])⟩
            case measure => simp [intOf]; omega
        · obtain ⟨b, off, x, rfl, hbl, hx, hcell⟩ := h2.at_ (k := n - 1) (by omega)
          have hX : Hid (l.getLastD 0 = x) := Lib.hid (by rw [last_at hlen'.out hnp] at hx; exact Option.some.inj hx)
          have hS : Hid (spErrL l 0 = 0) := Lib.hid (by rw [← hF.out, drop_end (by rw [hlen'.out]; omega)]; rfl)
          clear hx h2
          go_wp2
          · go_ret
            exact ⟨ret_i (by rw [hE'.out, hS.out, hX.out, if_neg (by simp), if_pos (by first | omega | (simp_all; done) | (simp_all; omega))]), hB2⟩
          · go_ret
            exact ⟨ret_i (by rw [hE'.out, hS.out, hX.out, if_neg (by simp), if_neg (by first | omega | (simp_all; done) | (simp_all; omega))]), hB2⟩
    · have hne : ((n : Int) != y) = true := by simpa using hyl
      have hE' : Hid (E = 3) := Lib.hid (by rw [hE, if_pos (by rw [hlen]; exact hyl)])
      clear hE hyl
      go_enter Tryd.func66, Tryd.ntmps66
      go_wp2_with fail
      refine (Hc'.out _).mono ?_; rintro e w1 ⟨rfl, hb1⟩; obtain ⟨C1, F1⟩ := bcell hb1; have hB1 := below_box hb1
      go_wp2_with fail
      refine (Hl'.out _).mono ?_; rintro e w2 ⟨rfl, hb2⟩; have hB2 := below_next hB1 hb2
      go_wp2
      go_ret
      exact ⟨ret_i (by rw [hE'.out]), hB2⟩
  · have hE : Hid (checkSp r l = raceErr r) := Lib.hid (by unfold checkSp; rw [if_pos h0])
    have hx : (raceErr r != 0) = true := by simpa using h0
    clear h0 Hl
    generalize raceErr r = x at *
    obtain ⟨key, metres, stroke, course, legs, sex, young, old⟩ := r
    dsimp only [Race.val, Race.cells] at *
    have Hc' := Lib.hid Hc; clear Hc
    go_enter Tryd.func66, Tryd.ntmps66
    go_wp2_with fail
    refine (Hc'.out _).mono ?_; rintro e w1 ⟨rfl, hb1⟩; have hB1 := below_box hb1
    go_wp2
    go_ret
    exact ⟨ret_i (by rw [hE.out]), hB1⟩
end Go.Proofs.YtjfppcejcbfngaaDoor
