/- Turns: as data; comparison, worth, the check of one turn. -/
import Derived.Test.YtjfppcejcbfngaaDoorStructs
import Derived.Test.YtjfppcejcbfngaaDoorFrac
import Derived.Test.YtjfppcejcbfngaaDoorKey0
import Derived.Test.YtjfppcejcbfngaaDoorLists
import Derived.Deep.RegionHeld3
import Derived.Laws.StructEq
import Derived.BigGuardPart
import Derived.IntWalk
namespace Go.Proofs.YtjfppcejcbfngaaDoor
open Go.RowKit
set_option linter.unusedVariables false

structure Trn where
  stroke : Int
  metres : Int
  num : Int
  den : Int
  fixed : Int
def Trn.cells (t : Trn) : Array Value := #[.int .i64 t.stroke, .int .i64 t.metres, .int .i64 t.num, .int .i64 t.den, .int .i64 t.fixed]
abbrev Trn.val (t : Trn) : Value := .agg t.cells
def trnE (t : Trn) : List Value := [.int .i64 t.stroke, .int .i64 t.metres, .int .i64 t.num, .int .i64 t.den, .int .i64 t.fixed]
theorem trnE_len : ∀ x, (trnE x).length = 5 := fun _ => rfl
abbrev RTn (w : World) (A : Option Addr) (n : Nat) (l : List Trn) : Prop := RN 5 trnE 160 w A n l
theorem RTn.at5 {w : World} {A : Option Addr} {n : Nat} {l : List Trn} (h : RTn w A n l) {k : Nat} (hk : k < n) : ∃ b off x, A = some ⟨b, off, none⟩ ∧ b < w.heap.size ∧ l[k]? = some x ∧ w.cell? ⟨b, off + k * 5, none⟩ = some (.int .i64 x.stroke) ∧ w.cell? ⟨b, off + k * 5 + 1, none⟩ = some (.int .i64 x.metres) ∧ w.cell? ⟨b, off + k * 5 + 2, none⟩ = some (.int .i64 x.num) ∧ w.cell? ⟨b, off + k * 5 + 3, none⟩ = some (.int .i64 x.den) ∧ w.cell? ⟨b, off + k * 5 + 4, none⟩ = some (.int .i64 x.fixed) := by
  obtain ⟨b, off, x, hA, hb, hx, hc⟩ := h.at_ hk
  exact ⟨b, off, x, hA, hb, hx, hc 0 _ rfl, hc 1 _ rfl, hc 2 _ rfl, hc 3 _ rfl, hc 4 _ rfl⟩

/-! ## comparison -/
def cmpV (a b : Int) : Int := if a < b then -1 else if b < a then 1 else 0
theorem compare_c (a b : Int) (w : World) : Calls Tryd.prog 130 #[.int .i64 a, .int .i64 b] w fun e w' => e = .returned (.int .i64 (cmpV a b)) ∧ w = w' :=
  (Tryd.cmp_Compare_int a b w).mono fun e w' ⟨he, hw⟩ => ⟨by rw [he]; rfl, hw.symm⟩
theorem cmpV_bd (a b : Int) : -1 ≤ cmpV a b ∧ cmpV a b ≤ 1 := by unfold cmpV; split <;> (try split) <;> omega
theorem orI_c (A : Option Addr) (n c : Nat) (l : List Int) (w : World) (h : RI 3 w A n l) :
    Calls Tryd.prog 129 #[.slice A n c] w fun e w' => e = .returned (.int .i64 (orV l)) ∧ w = w' := by
  have hl := h.len
  have hb := h.bd
  go_enter Tryd.func129, Tryd.ntmps129
  go_wp2
  go_loop [8] (fun i => ∃ k : Nat, k ≤ n ∧ i = .int .i64 k ∧ Hid (orV (l.drop k) = orV l)) (fun i => n - (intOf i).toNat)
  case atStart => exact ⟨0, Nat.zero_le _, rfl, Lib.hid rfl⟩
  case round =>
    obtain ⟨k, hk, rfl, hF⟩ := hrel
    by_cases hlt : k < n
    · obtain ⟨b, off, x, rfl, _, hx, hcell⟩ := h.at_ hlt
      have hS := Lib.hid (orV_at hx)
      clear hx h hl
      go_wp2
      · go_ret
        exact ⟨ret_i (by rw [← hF.out, hS.out, if_pos (by first | omega | (simp_all; done) | (simp_all; omega))]), rfl⟩
      · go_round
        case rel => exact ⟨k + 1, by omega, by go_num, Lib.hid (by rw [← hF.out, hS.out, if_neg (by first | omega | (simp_all; done) | (simp_all; omega))])⟩
        case measure => simp [intOf]; omega
    · have hS : Hid (orV l = 0) := Lib.hid (by rw [← hF.out, drop_end (by omega)]; rfl)
      clear hl
      go_wp2
      go_ret
      exact ⟨ret_i (by rw [hS.out]), rfl⟩

/-! ## worth -/
def worthV (t : Trn) (n : Int) : Int := n - n * t.num / t.den - t.fixed
def Trn.ok (t : Trn) : Prop := 1 ≤ t.den ∧ t.den ≤ 10000 ∧ 0 ≤ t.num ∧ t.num ≤ t.den ∧ 0 ≤ t.fixed ∧ t.fixed ≤ 6000
theorem worth_c (t : Trn) (n : Int) (w : World) (ht : t.ok) (h0 : 0 ≤ n) (h1 : n ≤ 360000) :
    Calls Tryd.prog 133 #[t.val, .int .i64 n] w fun e w' => e = .returned (.int .i64 (worthV t n)) ∧ Below w.heap.size w w' := by
  obtain ⟨d0, d1, n0, n1, f0, f1⟩ := ht
  have hW : Hid (worthV t n = n - n * t.num / t.den - t.fixed) := Lib.hid rfl
  obtain ⟨s, m, a, b, f⟩ := t
  dsimp only [Trn.val, Trn.cells] at *
  obtain ⟨m0, m1⟩ := mul_bd h0 h1 n0 (show a ≤ 10000 by omega)
  have q0 : 0 ≤ n * a / b := Int.ediv_nonneg m0 (by omega)
  have q1 : n * a / b ≤ n * a := Int.ediv_le_self _ m0
  go_enter Tryd.func133, Tryd.ntmps133
  go_wp2
  go_quiet (fail)
  go_wp2
  go_ret
  exact ⟨ret_i hW.out.symm, below_drewN (below_new w _) _⟩
theorem shorter_c (t : Trn) (n : Int) (w : World) (ht : t.ok) (h0 : 0 ≤ n) (h1 : n ≤ 360000) :
    Calls Tryd.prog 135 #[t.val, .int .i64 n] w fun e w' => e = .returned (.int .i64 (worthV t n)) ∧ Below w.heap.size w w' := by
  obtain ⟨d0, d1, n0, n1, f0, f1⟩ := ht
  have hW : Hid (worthV t n = n - n * t.num / t.den - t.fixed) := Lib.hid rfl
  obtain ⟨s, m, a, b, f⟩ := t
  dsimp only [Trn.val, Trn.cells] at *
  obtain ⟨m0, m1⟩ := mul_bd h0 h1 n0 (show a ≤ 10000 by omega)
  have q0 : 0 ≤ n * a / b := Int.ediv_nonneg m0 (by omega)
  have q1 : n * a / b ≤ n * a := Int.ediv_le_self _ m0
  go_enter Tryd.func135, Tryd.ntmps135
  go_wp2
  go_quiet (fail)
  go_wp2
  go_ret
  exact ⟨ret_i hW.out.symm, below_drewN (below_new w _) _⟩

/-! ## the check of one turn -/
def turnErr (t : Trn) : Int :=
  if ¬ (1 ≤ t.stroke ∧ t.stroke ≤ 5) then 4
  else if ¬ (50 ≤ t.metres ∧ t.metres ≤ 1500) ∨ ¬ (0 ≤ t.fixed ∧ t.fixed ≤ 6000) then 1
  else if ¬ (1 ≤ t.den ∧ t.den ≤ 10000) ∨ ¬ (0 ≤ t.num ∧ t.num ≤ t.den) ∨ (Int.gcd t.num t.den : Int) ≠ 1 then 3
  else 0
theorem turnErr_ok {t : Trn} (h : turnErr t = 0) : t.ok ∧ 1 ≤ t.stroke ∧ t.stroke ≤ 5 ∧ 50 ≤ t.metres ∧ t.metres ≤ 1500 := by
  unfold turnErr at h
  split at h
  · cases h
  · split at h
    · cases h
    · split at h
      · cases h
      · unfold Trn.ok; omega
theorem frac_same {a b : Int} (h : (Int.gcd a b : Int) = 1) : fracN a b = a ∧ fracD a b = b := by
  unfold fracN fracD; rw [h, Int.ediv_one, Int.ediv_one]; exact ⟨rfl, rfl⟩
theorem frac_diff {a b : Int} (hb : 1 ≤ b) (h : (Int.gcd a b : Int) ≠ 1) : fracD a b ≠ b := by
  unfold fracD
  have hp := gcd_pos (a := a) (b := b) (by omega)
  have : b / (Int.gcd a b : Int) < b := Int.ediv_lt_self_of_pos_of_ne_one (by omega) (by omega)
  omega
theorem within_q (a b c : Int) (w : World) : Calls Tryd.prog 109 #[.int .i64 a, .int .i64 b, .int .i64 c] w fun e w' => e = .returned (.bool (decide (b ≤ a ∧ a ≤ c))) ∧ w' = w := (within_c a b c w).mono fun _ _ ⟨h1, h2⟩ => ⟨h1, h2.symm⟩
set_option maxHeartbeats 1600000 in
set_option maxRecDepth 100000 in
theorem checkTurn_c (t : Trn) (w : World) : Calls Tryd.prog 131 #[t.val] w fun e w' => e = .returned (.int .i64 (turnErr t)) ∧ Below w.heap.size w w' := by
  have hE : turnErr t = if ¬ (1 ≤ t.stroke ∧ t.stroke ≤ 5) then 4 else if ¬ (50 ≤ t.metres ∧ t.metres ≤ 1500) ∨ ¬ (0 ≤ t.fixed ∧ t.fixed ≤ 6000) then 1 else if ¬ (1 ≤ t.den ∧ t.den ≤ 10000) ∨ ¬ (0 ≤ t.num ∧ t.num ≤ t.den) ∨ (Int.gcd t.num t.den : Int) ≠ 1 then 3 else 0 := rfl
  generalize turnErr t = E at *
  obtain ⟨s, m, a, b, f⟩ := t
  dsimp only [Trn.val, Trn.cells] at *
  by_cases h1 : 1 ≤ s ∧ s ≤ 5
  rotate_left
  · obtain rfl : E = 4 := by rw [hE, if_pos h1]
    have hd := Lib.hid (show decide (1 ≤ s ∧ s ≤ 5) = false by simpa using h1)
    clear hE h1
    go_enter Tryd.func131, Tryd.ntmps131
    go_wp2_with fail
    refine (within_c _ _ _ _).mono ?_; rintro e w' ⟨rfl, rfl⟩
    rw [hd.out]
    go_wp2
    go_ret
    exact ⟨rfl, below_new _ _⟩
  have hd := Lib.hid (show decide (1 ≤ s ∧ s ≤ 5) = true by simpa using h1)
  rw [if_neg (by omega)] at hE
  clear h1
  by_cases h2 : ¬ (50 ≤ m ∧ m ≤ 1500) ∨ ¬ (0 ≤ f ∧ f ≤ 6000)
  · obtain rfl : E = 1 := by rw [hE, if_pos h2]
    clear hE
    by_cases h3 : 50 ≤ m ∧ m ≤ 1500
    · have hd1 := Lib.hid (show decide (50 ≤ m ∧ m ≤ 1500) = true by simpa using h3)
      have hd2 := Lib.hid (show decide (0 ≤ f ∧ f ≤ 6000) = false by simp; omega)
      clear h2 h3
      go_enter Tryd.func131, Tryd.ntmps131
      go_wp2_with fail
      refine (within_c _ _ _ _).mono ?_; rintro e w' ⟨rfl, rfl⟩
      rw [hd.out]
      go_wp2_with fail
      refine (within_c _ _ _ _).mono ?_; rintro e w' ⟨rfl, rfl⟩
      rw [hd1.out]
      go_wp2_with fail
      refine (within_c _ _ _ _).mono ?_; rintro e w' ⟨rfl, rfl⟩
      rw [hd2.out]
      go_wp2
      go_ret
      exact ⟨rfl, below_new _ _⟩
    · have hd1 := Lib.hid (show decide (50 ≤ m ∧ m ≤ 1500) = false by simpa using h3)
      clear h2 h3
      go_enter Tryd.func131, Tryd.ntmps131
      go_wp2_with fail
      refine (within_c _ _ _ _).mono ?_; rintro e w' ⟨rfl, rfl⟩
      rw [hd.out]
      go_wp2_with fail
      refine (within_c _ _ _ _).mono ?_; rintro e w' ⟨rfl, rfl⟩
      rw [hd1.out]
      go_wp2
      go_ret
      exact ⟨rfl, below_new _ _⟩
  rw [if_neg h2] at hE
  have hd1 := Lib.hid (show decide (50 ≤ m ∧ m ≤ 1500) = true by simp; omega)
  have hd2 := Lib.hid (show decide (0 ≤ f ∧ f ≤ 6000) = true by simp; omega)
  clear h2
  have hnew := (blk_facts (heap_alloc_new w (.cells #[.int .i64 s, .int .i64 m, .int .i64 a, .int .i64 b, .int .i64 f] 160))).1
  go_enter Tryd.func131, Tryd.ntmps131
  go_wp2_with fail
  refine (within_c _ _ _ _).mono ?_; rintro e w' ⟨rfl, rfl⟩
  rw [hd.out]
  go_wp2_with fail
  refine (within_c _ _ _ _).mono ?_; rintro e w' ⟨rfl, rfl⟩
  rw [hd1.out]
  go_wp2_with fail
  refine (within_c _ _ _ _).mono ?_; rintro e w' ⟨rfl, rfl⟩
  rw [hd2.out]
  by_cases h4 : 1 ≤ b ∧ b ≤ 10000
  rotate_left
  · obtain rfl : E = 3 := by rw [hE, if_pos (by omega)]
    have hd3 : decide (1 ≤ b ∧ b ≤ 10000) = false := by simpa using h4
    clear hE h4
    have hq := within_q b 1 10000
    rw [hd3] at hq
    have hq' := Lib.hid hq
    clear hq hd3
    go_wp2_with fail
    go_quiet ((go_at_call 109; exact Calls.quiet_of_same (hq'.out _)))
    go_wp2
    go_ret
    exact ⟨rfl, below_drewN (below_new _ _) _⟩
  have hd3 : decide (1 ≤ b ∧ b ≤ 10000) = true := by simpa using h4
  have hq := within_q b 1 10000
  rw [hd3] at hq
  have hq' := Lib.hid hq
  clear hq hd3
  by_cases h5 : 0 ≤ a ∧ a ≤ b
  rotate_left
  · obtain rfl : E = 3 := by rw [hE, if_pos (by omega)]
    have hd4 : decide (0 ≤ a ∧ a ≤ b) = false := by simpa using h5
    have hr := within_q a 0 b
    rw [hd4] at hr
    have hr' := Lib.hid hr
    clear hE h5 h4 hr hd4
    go_wp2_with fail
    go_quiet ((go_at_call 109; first | (with_reducible exact Calls.quiet_of_same (hq'.out _)) | (with_reducible exact Calls.quiet_of_same (hr'.out _))))
    go_wp2
    go_ret
    exact ⟨rfl, below_drewN (below_new _ _) _⟩
  have hd4 : decide (0 ≤ a ∧ a ≤ b) = true := by simpa using h5
  have hr := within_q a 0 b
  rw [hd4] at hr
  have hr' := Lib.hid hr
  have hF := fun W => frac_c a b W (by omega) (by omega) (by omega) (by omega)
  unfold fracV at hF
  have hcase : ((Int.gcd a b : Int) = 1 ∧ fracN a b = a ∧ fracD a b = b) ∨ ((Int.gcd a b : Int) ≠ 1 ∧ fracD a b ≠ b) := by
    by_cases hg : (Int.gcd a b : Int) = 1
    · exact .inl ⟨hg, frac_same hg⟩
    · exact .inr ⟨hg, frac_diff (by omega) hg⟩
  generalize fracN a b = p at *
  generalize fracD a b = q at *
  rcases hcase with ⟨hg, rfl, rfl⟩ | ⟨hg, hpq⟩
  · obtain rfl : E = 0 := by rw [hE, if_neg (by omega)]
    have hF' := Lib.hid hF
    clear hE h4 h5 hr hd4 hg hF
    have hn0 := hnew 0
    go_wp2_with fail
    go_region_held3 (fun w' => w'.cell? ⟨w.heap.size, 2, none⟩ = some (.int .i64 p) ∧ w'.cell? ⟨w.heap.size, 3, none⟩ = some (.int .i64 q)) (go_keep)
      (first
        | (go_at_call 109; (first | (with_reducible refine (hq'.out _).mono ?_) | (with_reducible refine (hr'.out _).mono ?_)); rintro e w' ⟨rfl, rfl⟩)
        | (go_at_call 115; refine (hF'.out _).mono ?_; rintro e w5 ⟨rfl, B5⟩; obtain ⟨hc5, hf5⟩ := bcell B5))
    all_goals
      go_wp2
      go_ret
      exact ⟨rfl, below_next (below_drewN (below_new w _) 1) B5⟩
  · obtain rfl : E = 3 := by rw [hE, if_pos (by omega)]
    have hF' := Lib.hid hF
    clear hE h4 h5 hr hd4 hg hF
    have hqb : (q == b) = false := beq_eq_false_iff_ne.2 hpq
    have hpa : (p == a) = false ∨ p = a := by
      by_cases h : p = a
      · exact .inr h
      · exact .inl (beq_eq_false_iff_ne.2 h)
    clear hpq
    have hn0 := hnew 0
    rcases hpa with hpa | hpa
    · have _t := hpa
      go_wp2_with fail
      go_region_held3 (fun w' => w'.cell? ⟨w.heap.size, 2, none⟩ = some (.int .i64 a) ∧ w'.cell? ⟨w.heap.size, 3, none⟩ = some (.int .i64 b)) (go_keep)
        (first
          | (go_at_call 109; (first | (with_reducible refine (hq'.out _).mono ?_) | (with_reducible refine (hr'.out _).mono ?_)); rintro e w' ⟨rfl, rfl⟩)
          | (go_at_call 115; refine (hF'.out _).mono ?_; rintro e w5 ⟨rfl, B5⟩; obtain ⟨hc5, hf5⟩ := bcell B5))
      all_goals
        go_wp2
        go_ret
        exact ⟨rfl, below_next (below_drewN (below_new w _) 1) B5⟩
    · subst hpa
      go_wp2_with fail
      go_region_held3 (fun w' => w'.cell? ⟨w.heap.size, 2, none⟩ = some (.int .i64 p) ∧ w'.cell? ⟨w.heap.size, 3, none⟩ = some (.int .i64 b)) (go_keep)
        (first
          | (go_at_call 109; (first | (with_reducible refine (hq'.out _).mono ?_) | (with_reducible refine (hr'.out _).mono ?_)); rintro e w' ⟨rfl, rfl⟩)
          | (go_at_call 115; refine (hF'.out _).mono ?_; rintro e w5 ⟨rfl, B5⟩; obtain ⟨hc5, hf5⟩ := bcell B5))
      all_goals
        go_wp2
        go_ret
        exact ⟨rfl, below_next (below_drewN (below_new w _) 1) B5⟩
end Go.Proofs.YtjfppcejcbfngaaDoor
