import Derived.Test.YtklggnglaeagpaaGreatDoorShelf
import Derived.Test.YtklggnglaeagpaaGreatDoorQStructs
import Derived.BigGuardPart
import Derived.Test.YtklggnglaeagpaaGreatDoorQLens
import Derived.Test.YtklggnglaeagpaaGreatDoorQClock
/- Library functions on slices of ints, in this family's words: Contains, Equal, Clone; cmp.Or. -/
namespace Go.Proofs.YtklggnglaeagpaaGreatDoor
open Go.RowKit
set_option linter.unusedVariables false

theorem RI.shelf {e : TypeId} {w : World} {A : Option Addr} {n : Nat} {l : List Int} (h : RI e w A n l) (hn : 0 < n) :
    ∃ b off, A = some ⟨b, off, none⟩ ∧ b < w.heap.size ∧ ∀ j, j < l.length → w.cell? ⟨b, off + j, none⟩ = some (.int .i64 (l.getD j 0)) := by
  obtain ⟨b, off, cs, fz, ha, hb, hc⟩ := h.2.2 hn
  refine ⟨b, off, ha, lt_of_heap hb, fun j hj => ?_⟩
  rw [cell_of_row w b _ cs e fz hb, hc j _ (List.getElem?_eq_getElem hj), List.getD_eq_getElem?_getD, List.getElem?_eq_getElem hj]
  rfl
def hasB (l : List Int) (x : Int) : Bool := l.contains x
def eqB (a b : List Int) : Bool := a == b
theorem equal_c (A1 A2 : Option Addr) (n c m d : Nat) (l1 l2 : List Int) (w : World) (h1 : RI 3 w A1 n l1) (h2 : RI 3 w A2 m l2) :
    Calls Tryz.prog 38 #[.slice A1 n c, .slice A2 m d] w fun e w' => e = .returned (.bool (eqB l1 l2)) ∧ Below w.heap.size w w' := by
  have hl1 := h1.len
  have hb1 := h1.bd
  have hl2 := h2.len
  have hb2 := h2.bd
  by_cases hnm : n = m
  · subst hnm
    rcases Nat.eq_zero_or_pos n with h0 | hp
    · subst h0
      obtain rfl : l1 = [] := List.eq_nil_of_length_eq_zero hl1
      obtain rfl : l2 = [] := List.eq_nil_of_length_eq_zero hl2
      exact (Tryz.slices_Equal_int_empty A1 A2 c 0 d w (by omega)).mono fun _ _ ⟨he, hw⟩ => ⟨he, by rw [hw]; exact Below.refl _ _⟩
    · obtain ⟨b1, o1, rfl, _, hc1⟩ := h1.shelf hp
      obtain ⟨b2, o2, rfl, _, hc2⟩ := h2.shelf hp
      refine (Tryz.slices_Equal_int b1 o1 n c b2 o2 n d l1 l2 w (by omega) (by omega) (by omega) (by omega) hc1 hc2).mono fun _ _ ⟨he, q, hw⟩ => ⟨?_, by rw [hw]; exact below_drewN (Below.refl _ _) q⟩
      rw [he, List.take_of_length_le (by omega), List.take_of_length_le (by omega)]; rfl
  · refine (Tryz.slices_Equal_int_lens A1 A2 n c m d w hnm).mono fun _ _ ⟨he, hw⟩ => ⟨?_, by rw [hw]; exact Below.refl _ _⟩
    rw [he]
    congr 2
    symm
    unfold eqB
    rw [beq_eq_false_iff_ne]
    rintro rfl
    omega
theorem clone_c (A : Option Addr) (n c : Nat) (l : List Int) (w : World) (h : RI 3 w A n l) (hn : n ≤ 1000000) :
    Calls Tryz.prog 143 #[.slice A n c] w fun e w' => ∃ A' c', e = .returned (.slice A' n c') ∧ w'.ownsRow w.heap.size 3 1 (.slice A' n c') n (ints l) ∧ Below w.heap.size w w' := by
  have hl := h.len
  rcases A with _ | ad
  · have h0 : n = 0 := by
      rcases Nat.eq_zero_or_pos n with h0 | hp
      · exact h0
      · obtain ⟨b, off, e, _⟩ := h.shelf hp
        cases e
    subst h0
    obtain rfl : l = [] := List.eq_nil_of_length_eq_zero hl
    exact (Tryz.slices_Clone_int_nil 0 c w).mono fun _ _ ⟨he, hw⟩ => ⟨none, 0, he, by rw [hw]; exact World.ownsRow_nil _ _ _ _, by rw [hw]; exact Below.refl _ _⟩
  · rcases Nat.eq_zero_or_pos n with h0 | hp
    · subst h0
      obtain rfl : l = [] := List.eq_nil_of_length_eq_zero hl
      refine (Tryz.slices_Clone_int_zero ad c w).mono fun _ _ ⟨v, he, ho, _, hB⟩ => ?_
      obtain ⟨A', c', rfl⟩ := own_shape ho
      exact ⟨A', c', he, ho, hB⟩
    · obtain ⟨b, off, hA, _, hc⟩ := h.shelf hp
      injection hA with hA
      subst hA
      refine (Tryz.slices_Clone_int b off n c l w (by omega) (by omega) hc).mono fun _ _ ⟨v, he, ho, _, hB⟩ => ?_
      obtain ⟨A', c', rfl⟩ := own_shape ho
      rw [List.take_of_length_le (by omega)] at ho
      exact ⟨A', c', he, ho, hB⟩
end Go.Proofs.YtklggnglaeagpaaGreatDoor

/- The errors of splits: the program's and the reference's. -/
namespace Go.Proofs.YtklggnglaeagpaaGreatDoor
open Go.RowKit
set_option linter.unusedVariables false

def spErrL : List Int → Int → Int
  | [], _ => 0
  | x :: r, last => if ¬ (0 ≤ x ∧ x ≤ 360000) then 1 else if x ≠ 0 ∧ x ≤ last then 7 else spErrL r (if x ≠ 0 then x else last)
def splitsErr (r : Race) (l : List Int) : Int := if (l.length : Int) ≠ lenV r then 3 else if spErrL l 0 ≠ 0 then spErrL l 0 else if l.getLastD 0 = 0 then 8 else 0
def checkSp (r : Race) (l : List Int) : Int := if raceErr r ≠ 0 then raceErr r else splitsErr r l
def knownErr (r : Race) (l : List Int) : Int := if splitsErr r l ≠ 0 then splitsErr r l else if hasB l 0 then 8 else 0
def wholeErr (r : Race) (l : List Int) : Int := if raceErr r ≠ 0 then raceErr r else knownErr r l

theorem last_at {l : List Int} {n : Nat} (hl : l.length = n) (hn : 0 < n) : l[n - 1]? = some (l.getLastD 0) := by
  subst hl
  rw [List.getLastD_eq_getLast?, List.getLast?_eq_getElem?]
  rw [List.getElem?_eq_getElem (by omega)]; rfl
theorem sp_at {l : List Int} {k : Nat} {x last : Int} (h : l[k]? = some x) : spErrL (l.drop k) last = if ¬ (0 ≤ x ∧ x ≤ 360000) then 1 else if x ≠ 0 ∧ x ≤ last then 7 else spErrL (l.drop (k + 1)) (if x ≠ 0 then x else last) := by
  rw [drop_at h]; rfl

set_option maxHeartbeats 800000 in
theorem checkSplits_c (r : Race) (A : Option Addr) (n c : Nat) (l : List Int) (w : World) (h : RI 3 w A n l) :
    Calls Tryz.prog 142 #[r.val, .slice A n c] w fun e w' => e = .returned (.int .i64 (checkSp r l)) ∧ Below w.heap.size w w' := by
  have Hc := fun W => checkRace_c r W
  have Hl := fun W h => lengths_c r W h
  by_cases h0 : raceErr r = 0
  · have hlb := lenV_bd h0
    have hE : checkSp r l = if (l.length : Int) ≠ lenV r then 3 else if spErrL l 0 ≠ 0 then spErrL l 0 else if l.getLastD 0 = 0 then 8 else 0 := by unfold checkSp splitsErr; rw [if_neg (by simpa using h0)]
    have Hl := fun W => Hl W h0
    rw [h0] at Hc
    generalize lenV r = y at *
    generalize checkSp r l = E at *
    clear h0
    obtain ⟨key, metres, stroke, course, legs, sex, young, old⟩ := r
    dsimp only [Race.val, Race.cells] at *
    have Hc' := Lib.hid Hc; clear Hc
    have Hl' := Lib.hid Hl; clear Hl
    have hn := h.bd
    have hlen := h.len
    by_cases hyl : (n : Int) = y
    · have hyl' := Lib.hid hyl
      have hnp : 0 < n := by omega
      have hne : ((n : Int) != y) = false := by simpa using hyl
      rw [if_neg (by rw [hlen]; simpa using hyl)] at hE
      have hE' := Lib.hid hE
      clear hyl hE
      have hlen' := Lib.hid hlen; clear hlen
      go_enter Tryz.func142, Tryz.ntmps142
      go_wp2_with fail
      refine (Hc'.out _).mono ?_; rintro e w1 ⟨rfl, hb1⟩; obtain ⟨C1, F1⟩ := bcell hb1; have hB1 := below_box hb1
      go_wp2_with fail
      refine (Hl'.out _).mono ?_; rintro e w2 ⟨rfl, hb2⟩; have hB2 := below_next hB1 hb2
      have h2 := h.below hB2
      clear h C1 F1
      go_wp2
      go_loop [6, 21] (fun t i => ∃ (k : Nat) (last : Int), k ≤ n ∧ i = .int .i64 k ∧ t = .int .i64 last ∧ Hid (spErrL (l.drop k) last = spErrL l 0)) (fun _ i => n - (intOf i).toNat)
      case atStart => exact ⟨0, 0, Nat.zero_le _, rfl, rfl, Lib.hid rfl⟩
      case round =>
        obtain ⟨k, last, hk, rfl, rfl, hF⟩ := hrel
        by_cases hlt : k < n
        · obtain ⟨b, off, x, rfl, hbl, hx, hcell⟩ := h2.at_ hlt
          have hS := Lib.hid (sp_at (last := last) hx)
          clear hx h2
          go_wp2_with (go_at_call 128; refine (within_c _ _ _ _).mono ?_; rintro e w' ⟨rfl, rfl⟩)
          · go_ret
            have e1 : spErrL l 0 = 1 := by rw [← hF.out, hS.out, if_pos (by first | omega | (simp_all; done) | (simp_all; omega))]
            exact ⟨ret_i (by rw [hE'.out, e1]; rfl), hB2⟩
          · go_ret
            have e1 : spErrL l 0 = 7 := by rw [← hF.out, hS.out, if_neg (by first | omega | (simp_all; done) | (simp_all; omega)), if_pos (by first | omega | (simp_all; done) | (simp_all; omega))]
            exact ⟨ret_i (by rw [hE'.out, e1]; rfl), hB2⟩
          · go_round
            case rel => exact ⟨k + 1, x, by omega, by go_num, rfl, Lib.hid (by rw [← hF.out, hS.out, if_neg (by first | omega | (simp_all; done) | (simp_all; omega)), if_neg (by first | omega | (simp_all; done) | (simp_all; omega)), if_pos (by first | omega | (simp_all; done) | (simp_all; omega))])⟩
            case measure => simp [intOf]; omega
          · go_round
            case rel => exact ⟨k + 1, last, by omega, by go_num, rfl, Lib.hid (by rw [← hF.out, hS.out, if_neg (by first | omega | (simp_all; done) | (simp_all; omega)), if_neg (by first | omega | (simp_all; done) | (simp_all; omega)), if_neg (by first | omega | (simp_all; done) | (simp_all; omega))])⟩
            case measure => simp [intOf]; omega
        · obtain ⟨b, off, x, rfl, hbl, hx, hcell⟩ := h2.at_ (k := n - 1) (by omega)
          have hX : Hid (l.getLastD 0 = x) := Lib.hid (by rw [last_at hlen'.out hnp] at hx; exact Option.some.inj hx)
          have hS : Hid (spErrL l 0 = 0) := Lib.hid (by rw [← hF.out, drop_end (by rw [hlen'.out]; omega)]; rfl)
          clear hx h2
          go_wp2
          · go_ret
            exact ⟨ret_i (by rw [hE'.out, hS.out, hX.out, if_neg (by simp), if_pos (by first | omega | (simp_all; done) | (simp_all; omega))]), hB2⟩
          · go_ret
            exact ⟨ret_i (by rw [hE'.out, hS.out, hX.out, if_neg (by simp), if_neg (by first | omega | (simp_all; done) | (simp_all; omega))]), hB2⟩
    · have hne : ((n : Int) != y) = true := by simpa using hyl
      have hE' : Hid (E = 3) := Lib.hid (by rw [hE, if_pos (by rw [hlen]; exact hyl)])
      clear hE hyl
      go_enter Tryz.func142, Tryz.ntmps142
      go_wp2_with fail
      refine (Hc'.out _).mono ?_; rintro e w1 ⟨rfl, hb1⟩; obtain ⟨C1, F1⟩ := bcell hb1; have hB1 := below_box hb1
      go_wp2_with fail
      refine (Hl'.out _).mono ?_; rintro e w2 ⟨rfl, hb2⟩; have hB2 := below_next hB1 hb2
      go_wp2
      go_ret
      exact ⟨ret_i (by rw [hE'.out]), hB2⟩
  · have hE : Hid (checkSp r l = raceErr r) := Lib.hid (by unfold checkSp; rw [if_pos h0])
    have hx : (raceErr r != 0) = true := by simpa using h0
    clear h0 Hl
    generalize raceErr r = x at *
    obtain ⟨key, metres, stroke, course, legs, sex, young, old⟩ := r
    dsimp only [Race.val, Race.cells] at *
    have Hc' := Lib.hid Hc; clear Hc
    go_enter Tryz.func142, Tryz.ntmps142
    go_wp2_with fail
    refine (Hc'.out _).mono ?_; rintro e w1 ⟨rfl, hb1⟩; have hB1 := below_box hb1
    go_wp2
    go_ret
    exact ⟨ret_i (by rw [hE.out]), hB1⟩
end Go.Proofs.YtklggnglaeagpaaGreatDoor

/- The errors of splits by the reference; whole splits. -/
namespace Go.Proofs.YtklggnglaeagpaaGreatDoor
open Go.RowKit
set_option linter.unusedVariables false

end Go.Proofs.YtklggnglaeagpaaGreatDoor

/- Plain lemmas: a list that is filled in order; bounds of right splits. -/
namespace Go.Proofs.YtklggnglaeagpaaGreatDoor
open Go.RowKit
set_option linter.unusedVariables false

def listOf (f : Nat → Int) (n : Nat) : List Int := (List.range n).map f
theorem ints_set (l : List Int) (k : Nat) (x : Int) : (ints l).set k (.int .i64 x) = ints (l.set k x) := by
  unfold ints; rw [List.map_set]
theorem spErrL_bd {l : List Int} : ∀ {last : Int}, spErrL l last = 0 → ∀ x ∈ l, 0 ≤ x ∧ x ≤ 360000 := by
  induction l with
  | nil => intro _ _ x hx; cases hx
  | cons a t ih =>
    intro last h x hx
    unfold spErrL at h
    split at h
    · cases h
    · rename_i h1
      split at h
      · cases h
      · rcases List.mem_cons.1 hx with rfl | hx
        · exact Decidable.not_not.1 h1
        · exact ih h x hx
theorem checkSp_ok {r : Race} {l : List Int} (h : checkSp r l = 0) : raceErr r = 0 ∧ splitsErr r l = 0 := by
  unfold checkSp at h
  split at h
  · omega
  · exact ⟨by omega, h⟩
theorem splitsErr_ok {r : Race} {l : List Int} (h : splitsErr r l = 0) : (l.length : Int) = lenV r ∧ spErrL l 0 = 0 ∧ l.getLastD 0 ≠ 0 := by
  unfold splitsErr at h
  split at h
  · cases h
  · rename_i h1
    split at h
    · omega
    · split at h
      · cases h
      · exact ⟨by omega, by omega, by assumption⟩
theorem checkSp_of {r : Race} {l : List Int} (h0 : raceErr r = 0) (h1 : splitsErr r l = 0) : checkSp r l = 0 := by unfold checkSp; rw [if_neg (by simpa using h0)]; exact h1
theorem splits_bd {r : Race} {l : List Int} (h : checkSp r l = 0) : 1 ≤ l.length ∧ l.length ≤ 240 ∧ ∀ x ∈ l, 0 ≤ x ∧ x ≤ 360000 := by
  obtain ⟨h0, h1⟩ := checkSp_ok h
  obtain ⟨h2, h3, _⟩ := splitsErr_ok h1
  have := lenV_bd h0
  exact ⟨by omega, by omega, spErrL_bd h3⟩
theorem getD_of {l : List Int} {k : Nat} {x : Int} (h : l[k]? = some x) : l.getD k 0 = x := by rw [List.getD_eq_getElem?_getD, h]; rfl
theorem mem_of_at {l : List Int} {k : Nat} {x : Int} (h : l[k]? = some x) : x ∈ l := List.mem_of_getElem? h
end Go.Proofs.YtklggnglaeagpaaGreatDoor
