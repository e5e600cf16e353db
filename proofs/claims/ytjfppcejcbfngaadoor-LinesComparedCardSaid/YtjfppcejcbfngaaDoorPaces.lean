/- Even and proportional splits: race.Even, Like; the references EvenOf, LikeOf, rising. -/
import Derived.Test.YtjfppcejcbfngaaDoorLaps
namespace Go.Proofs.YtjfppcejcbfngaaDoor
open Go.RowKit
set_option linter.unusedVariables false

def risingF : List Int → Int → Bool
  | [], _ => true
  | x :: r, last => if x ≤ last then false else risingF r x
theorem rising_at {l : List Int} {k : Nat} {x last : Int} (h : l[k]? = some x) : risingF (l.drop k) last = if x ≤ last then false else risingF (l.drop (k + 1)) x := by rw [drop_at h]; rfl
theorem rising_c (A : Option Addr) (n c : Nat) (l : List Int) (w : World) (h : RI 3 w A n l) :
    Calls Tryd.prog 112 #[.slice A n c] w fun e w' => e = .returned (.bool (risingF l 0)) ∧ w = w' := by
  have hl := h.len
  have hb := h.bd
  go_enter Tryd.func112, Tryd.ntmps112
  go_wp2
  go_loop [3, 8] (fun t i => ∃ (k : Nat) (s : Int), k ≤ n ∧ i = .int .i64 k ∧ t = .int .i64 s ∧ Hid (risingF (l.drop k) s = risingF l 0)) (fun _ i => n - (intOf i).toNat)
  case atStart => exact ⟨0, 0, Nat.zero_le _, rfl, rfl, Lib.hid rfl⟩
  case round =>
    obtain ⟨k, s, hk, rfl, rfl, hF⟩ := hrel
    by_cases hlt : k < n
    · obtain ⟨b, off, x, rfl, _, hx, hcell⟩ := h.at_ hlt
      have hS := Lib.hid (rising_at (last := s) hx)
      clear hx h hl
      go_wp2
      · go_ret
        exact ⟨ret_b (by rw [← hF.out, hS.out, if_pos (by first | omega | (simp_all; done) | (simp_all; omega))]), rfl⟩
      · go_round
        case rel => exact ⟨k + 1, x, by omega, by go_num, rfl, Lib.hid (by rw [← hF.out, hS.out, if_neg (by first | omega | (simp_all; done) | (simp_all; omega))])⟩
        case measure => simp [intOf]; omega
    · have hS : Hid (risingF l 0 = true) := Lib.hid (by rw [← hF.out, drop_end (by omega)]; rfl)
      clear hl
      go_wp2
      go_ret
      exact ⟨ret_b (by rw [hS.out]), rfl⟩
theorem risingR_t (A : Option Addr) (n c : Nat) (l : List Int) (w : World) (h : RI 3 w A n l) (hr : risingF l 0 = true) :
    Calls Tryd.prog 113 #[.slice A n c] w fun e w' => e = .returned (.tuple #[.slice A n c, .int .i64 0]) ∧ w = w' := by
  have hl := h.len
  have hb := h.bd
  have hr' := Lib.hid hr; clear hr
  go_enter Tryd.func113, Tryd.ntmps113
  go_wp2
  go_loop [4, 9] (fun t i => ∃ (k : Nat) (s : Int), k ≤ n ∧ i = .int .i64 k ∧ t = .int .i64 s ∧ Hid (risingF (l.drop k) s = true)) (fun _ i => n - (intOf i).toNat)
  case atStart => exact ⟨0, 0, Nat.zero_le _, rfl, rfl, Lib.hid hr'.out⟩
  case round =>
    obtain ⟨k, s, hk, rfl, rfl, hF⟩ := hrel
    by_cases hlt : k < n
    · obtain ⟨b, off, x, rfl, _, hx, hcell⟩ := h.at_ hlt
      have hS := rising_at (last := s) hx
      rw [hF.out] at hS
      have hsx : s < x := by
        by_cases hx : x ≤ s
        · rw [if_pos hx] at hS; cases hS
        · omega
      rw [if_neg (by omega)] at hS
      have hS' := Lib.hid hS
      clear hx h hl hS
      go_wp2
      go_round
      case rel => exact ⟨k + 1, x, by omega, by go_num, rfl, Lib.hid hS'.out.symm⟩
      case measure => simp [intOf]; omega
    · clear hl
      go_wp2
      go_ret2
      exact ⟨rfl, rfl⟩
theorem risingR_f (A : Option Addr) (n c : Nat) (l : List Int) (w : World) (h : RI 3 w A n l) (hr : risingF l 0 = false) :
    Calls Tryd.prog 113 #[.slice A n c] w fun e w' => e = .returned (.tuple #[.slice none 0 0, .int .i64 16]) ∧ w = w' := by
  have hl := h.len
  have hb := h.bd
  have hr' := Lib.hid hr; clear hr
  go_enter Tryd.func113, Tryd.ntmps113
  go_wp2
  go_loop [4, 9] (fun t i => ∃ (k : Nat) (s : Int), k ≤ n ∧ i = .int .i64 k ∧ t = .int .i64 s ∧ Hid (risingF (l.drop k) s = false)) (fun _ i => n - (intOf i).toNat)
  case atStart => exact ⟨0, 0, Nat.zero_le _, rfl, rfl, Lib.hid hr'.out⟩
  case round =>
    obtain ⟨k, s, hk, rfl, rfl, hF⟩ := hrel
    by_cases hlt : k < n
    · obtain ⟨b, off, x, rfl, _, hx, hcell⟩ := h.at_ hlt
      have hS := rising_at (last := s) hx
      rw [hF.out] at hS
      have hS' := Lib.hid hS
      clear hx h hl hS
      go_wp2
      · go_ret2
        exact ⟨rfl, rfl⟩
      · go_round
        case rel => exact ⟨k + 1, x, by omega, by go_num, rfl, Lib.hid (by have := hS'.out; rw [if_neg (by first | omega | (simp_all; done) | (simp_all; omega))] at this; exact this.symm)⟩
        case measure => simp [intOf]; omega
    · exfalso
      have := hF.out
      rw [drop_end (by omega)] at this
      cases this

/-- what a list of splits comes to: itself, or nothing with an error -/
def riseL (l : List Int) : List Int := if risingF l 0 then l else []
def riseE (l : List Int) : Int := if risingF l 0 then 0 else 16
/-- a call that answers with a list of ints and an error -/
def RetLE (B : World) (L : List Int) (E : Int) (e : Ending) (w' : World) : Prop :=
  ∃ A n c, e = .returned (.tuple #[.slice A n c, .int .i64 E]) ∧ RI 3 w' A n L ∧ Below B.heap.size B w'

theorem retLE_t {B w' : World} {A : Option Addr} {n c : Nat} {L : List Int} (hr : RI 3 w' A n L) (hb : Below B.heap.size B w') (h : risingF L 0 = true) : RetLE B (riseL L) (riseE L) (.returned (.tuple #[.slice A n c, .int .i64 0])) w' := by
  unfold riseL riseE; rw [if_pos h, if_pos h]; exact ⟨A, n, c, rfl, hr, hb⟩
theorem retLE_f {B w' : World} {L : List Int} (hb : Below B.heap.size B w') (h : risingF L 0 = false) : RetLE B (riseL L) (riseE L) (.returned (.tuple #[.slice none 0 0, .int .i64 16])) w' := by
  unfold riseL riseE; rw [if_neg (by simp [h]), if_neg (by simp [h])]; exact ⟨none, 0, 0, rfl, R1.nil_ _ _ _ _, hb⟩
theorem retLE_e {B w' : World} (x : Int) (hb : Below B.heap.size B w') : RetLE B [] x (.returned (.tuple #[.slice none 0 0, .int .i64 x])) w' := ⟨none, 0, 0, rfl, R1.nil_ _ _ _ _, hb⟩
def evGo (t N : Int) : Nat → Int → List Int
  | 0, _ => []
  | m + 1, k => (t * k / N) :: evGo t N m (k + 1)
def evenL (t N : Int) : List Int := evGo t N N.toNat 1

theorem mulT_bd {a b : Int} (h0 : 0 ≤ a) (h1 : a ≤ 360000) (h2 : 0 ≤ b) (h3 : b ≤ 360000) : 0 ≤ a * b ∧ a * b ≤ 129600000000 := by
  have := mul_bd h0 h1 h2 h3
  omega

set_option maxRecDepth 100000 in
set_option maxHeartbeats 1600000 in
theorem evenOf_c (r : Race) (t : Int) (w : World) (h0 : raceErr r = 0) (ht0 : 1 ≤ t) (ht1 : t ≤ 360000) :
    Calls Tryd.prog 29 #[r.val, .int .i64 t] w (RetLE w (riseL (evenL t (lenV r))) (riseE (evenL t (lenV r)))) := by
  have Hl := fun W => lengthsOf_c r W h0
  have hlb := lenV_bd h0
  obtain ⟨N, hN⟩ : ∃ N : Nat, lenV r = N := ⟨(lenV r).toNat, by omega⟩
  rw [hN] at Hl hlb ⊢
  have hM : evenL t N = evGo t N N 1 := by unfold evenL; rw [Int.toNat_natCast]
  generalize evenL t N = L at *
  have hM' := Lib.hid hM
  have Hl' := Lib.hid Hl
  clear h0 hN hM Hl
  obtain ⟨key, metres, stroke, course, legs, sex, young, old⟩ := r
  dsimp only [Race.val, Race.cells] at *
  go_enter Tryd.func29, Tryd.ntmps29
  go_wp2_with fail
  refine (Hl'.out _).mono ?_; rintro e w1 ⟨rfl, hb1⟩; have hB1 := below_box hb1
  go_wp2
  go_loopw [7, 8] (fun out i wr => ∃ (j : Nat) (acc : List Int), j ≤ N ∧ i = .int .i64 ((j : Int) + 1) ∧ wr.ownsRow w.heap.size 3 1 out j (ints acc) ∧ Below w.heap.size w wr ∧ Hid (acc ++ evGo t N (N - j) (j + 1) = L)) (fun _ i _ => N + 1 - (intOf i).toNat)
  case atStart => exact ⟨0, [], Nat.zero_le _, rfl, World.ownsRow_nil _ _ _ _, hB1, Lib.hid (by rw [hM'.out]; rfl)⟩
  case round =>
    obtain ⟨j, acc, hj, rfl, hown, hB, hK⟩ := hrel
    by_cases hlt : j < N
    · have hp := mulT_bd (a := t) (b := (j : Int) + 1) (by omega) ht1 (by omega) (by omega)
      have hq0 : 0 ≤ t * ((j : Int) + 1) / (N : Int) := Int.ediv_nonneg hp.1 (by omega)
      have hq1 : t * ((j : Int) + 1) / (N : Int) ≤ 129600000000 := Int.le_trans (Int.ediv_le_self _ hp.1) hp.2
      have hz := hB.size
      go_wp2_with (at_builtin; refine wpList_app rfl (.tmp 16) (.tmp 22) 22 rfl Tryd.underlying22 info_int rfl (by omega) (by omega) hown rfl rfl rfl rfl (by simp [Value.oneCell']) (by omega) hz ?_; intro v4 w4 hown4 hg4)
      have hB4 := below_own hB hown hg4 hz (Nat.le_refl _)
      go_roundw
      case rel =>
        refine ⟨j + 1, acc ++ [t * ((j : Int) + 1) / (N : Int)], by omega, by go_num, ?_, hB4, Lib.hid ?_⟩
        · rw [ints_app]; exact hown4
        · rw [← hK.out, List.append_assoc]
          congr 1
          rw [show N - j = (N - (j + 1)) + 1 from by omega, evGo]
          simp
      case measure => simp [intOf]; omega
    · obtain rfl : j = N := by omega
      have hL := hK.out
      rw [Nat.sub_self, evGo, List.append_nil] at hL
      subst hL
      obtain ⟨A, c, rfl⟩ := own_shape hown
      have hr := R1.of_own hown (by omega)
      clear hown hM' hK
      cases hrise : risingF acc 0
      · have hR := Lib.hid hrise; clear hrise
        go_wp2_with fail
        refine (risingR_f _ _ _ acc _ hr hR.out).mono ?_; rintro e w' ⟨rfl, rfl⟩
        go_wp2
        go_ret2
        exact retLE_f hB hR.out
      · have hR := Lib.hid hrise; clear hrise
        go_wp2_with fail
        refine (risingR_t _ _ _ acc _ hr hR.out).mono ?_; rintro e w' ⟨rfl, rfl⟩
        go_wp2
        go_ret2
        exact retLE_t hr hB hR.out

set_option maxRecDepth 100000 in
set_option maxHeartbeats 1600000 in
theorem even_c (r : Race) (t : Int) (w : World) (h0 : raceErr r = 0) (ht0 : 1 ≤ t) (ht1 : t ≤ 360000) :
    Calls Tryd.prog 26 #[r.val, .int .i64 t] w (RetLE w (riseL (evenL t (lenV r))) (riseE (evenL t (lenV r)))) := by
  have Hl := fun W => Lengths_ok r W h0
  have hlb := lenV_bd h0
  obtain ⟨N, hN⟩ : ∃ N : Nat, lenV r = N := ⟨(lenV r).toNat, by omega⟩
  rw [hN] at Hl hlb ⊢
  have hM : evenL t N = evGo t N N 1 := by unfold evenL; rw [Int.toNat_natCast]
  generalize evenL t N = L at *
  have hM' := Lib.hid hM
  have Hl' := Lib.hid Hl
  clear h0 hN hM Hl
  obtain ⟨key, metres, stroke, course, legs, sex, young, old⟩ := r
  dsimp only [Race.val, Race.cells] at *
  go_enter Tryd.func26, Tryd.ntmps26
  go_wp2_with fail
  refine (Hl'.out _).mono ?_; rintro e w1 ⟨rfl, hb1⟩; have hB1 := below_box hb1
  go_wp2_with fail
  refine (isTime_c _ _).mono ?_; rintro e w' ⟨rfl, rfl⟩
  go_wp2
  go_loopw [8, 9] (fun out i wr => ∃ (j : Nat) (acc : List Int), j ≤ N ∧ i = .int .i64 ((j : Int) + 1) ∧ wr.ownsRow w.heap.size 3 1 out j (ints acc) ∧ Below w.heap.size w wr ∧ Hid (acc ++ evGo t N (N - j) (j + 1) = L)) (fun _ i _ => N + 1 - (intOf i).toNat)
  case atStart => exact ⟨0, [], Nat.zero_le _, rfl, World.ownsRow_nil _ _ _ _, hB1, Lib.hid (by rw [hM'.out]; rfl)⟩
  case round =>
    obtain ⟨j, acc, hj, rfl, hown, hB, hK⟩ := hrel
    by_cases hlt : j < N
    · have hp := mulT_bd (a := t) (b := (j : Int) + 1) (by omega) ht1 (by omega) (by omega)
      have hq0 : 0 ≤ t * ((j : Int) + 1) / (N : Int) := Int.ediv_nonneg hp.1 (by omega)
      have hq1 : t * ((j : Int) + 1) / (N : Int) ≤ 129600000000 := Int.le_trans (Int.ediv_le_self _ hp.1) hp.2
      have hz := hB.size
      go_wp2_with (at_builtin; refine wpList_app rfl (.tmp 26) (.tmp 32) 22 rfl Tryd.underlying22 info_int rfl (by omega) (by omega) hown rfl rfl rfl rfl (by simp [Value.oneCell']) (by omega) hz ?_; intro v4 w4 hown4 hg4)
      have hB4 := below_own hB hown hg4 hz (Nat.le_refl _)
      go_roundw
      case rel =>
        refine ⟨j + 1, acc ++ [t * ((j : Int) + 1) / (N : Int)], by omega, by go_num, ?_, hB4, Lib.hid ?_⟩
        · rw [ints_app]; exact hown4
        · rw [← hK.out, List.append_assoc]
          congr 1
          rw [show N - j = (N - (j + 1)) + 1 from by omega, evGo]
          simp
      case measure => simp [intOf]; omega
    · obtain rfl : j = N := by omega
      have hL := hK.out
      rw [Nat.sub_self, evGo, List.append_nil] at hL
      subst hL
      obtain ⟨A, c, rfl⟩ := own_shape hown
      have hr := R1.of_own hown (by omega)
      clear hown hM' hK
      cases hrise : risingF acc 0
      · have hR := Lib.hid hrise; clear hrise
        go_wp2_with fail
        refine (rising_c _ _ _ acc _ hr).mono ?_; rintro e w' ⟨rfl, rfl⟩
        have hR' := hR.out
        go_wp2
        go_ret2
        exact retLE_f hB hR.out
      · have hR := Lib.hid hrise; clear hrise
        go_wp2_with fail
        refine (rising_c _ _ _ acc _ hr).mono ?_; rintro e w' ⟨rfl, rfl⟩
        have hR' := hR.out
        go_wp2
        go_ret2
        exact retLE_t hr hB hR.out
theorem even_err (r : Race) (t : Int) (w : World) (h : raceErr r ≠ 0) :
    Calls Tryd.prog 26 #[r.val, .int .i64 t] w (RetLE w [] (raceErr r)) := by
  have Hl := fun W => Lengths_err r W h
  have hn : (raceErr r != 0) = true := by simpa using h
  generalize raceErr r = x at *
  have Hl' := Lib.hid Hl
  clear h Hl
  obtain ⟨key, metres, stroke, course, legs, sex, young, old⟩ := r
  dsimp only [Race.val, Race.cells] at *
  go_enter Tryd.func26, Tryd.ntmps26
  go_wp2_with fail
  refine (Hl'.out _).mono ?_; rintro e w1 ⟨rfl, hb1⟩; have hB1 := below_box hb1
  go_wp2
  go_ret2
  exact retLE_e _ hB1
theorem even_arg (r : Race) (t : Int) (w : World) (h : raceErr r = 0) (ht : ¬ (1 ≤ t ∧ t ≤ 360000)) :
    Calls Tryd.prog 26 #[r.val, .int .i64 t] w (RetLE w [] 1) := by
  have Hl := fun W => Lengths_ok r W h
  generalize lenV r = y at *
  have Hl' := Lib.hid Hl
  have ht' := Lib.hid ht
  clear h Hl ht
  obtain ⟨key, metres, stroke, course, legs, sex, young, old⟩ := r
  dsimp only [Race.val, Race.cells] at *
  go_enter Tryd.func26, Tryd.ntmps26
  go_wp2_with fail
  refine (Hl'.out _).mono ?_; rintro e w1 ⟨rfl, hb1⟩; have hB1 := below_box hb1
  go_wp2_with fail
  refine (isTime_c _ _).mono ?_; rintro e w' ⟨rfl, rfl⟩
  have ht := ht'.out
  go_wp2
  go_ret2
  exact retLE_e _ hB1
end Go.Proofs.YtjfppcejcbfngaaDoor
