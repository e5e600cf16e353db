/- What a time is worth in the other pool: the program's and the reference's. -/
import Derived.Test.YtjfppcejcbfngaaDoorTrn5
namespace Go.Proofs.YtjfppcejcbfngaaDoor
open Go.RowKit
set_option linter.unusedVariables false

/-! ## plain -/
theorem turnsGo_mem : ∀ {l : List Trn} {p : Option Trn}, turnsGo p l = 0 → ∀ t ∈ l, turnErr t = 0
  | [], _, _, t, h => by simp at h
  | x :: l, p, h0, t, h => by
    unfold turnsGo at h0
    split at h0
    · rename_i h1; exact absurd h0 h1
    · rename_i h1
      split at h0
      · cases h0
      · rcases List.mem_cons.mp h with rfl | h
        · omega
        · exact turnsGo_mem h0 t h
theorem turns_ok {l : List Trn} (h : turnsErr l = 0) : ∀ t ∈ l, t.ok := fun t ht => by
  unfold turnsErr at h
  split at h
  · cases h
  · exact (turnErr_ok (turnsGo_mem h t ht)).1
theorem findT_mem : ∀ {l : List Trn} {s m : Int} {t : Trn}, findT s m l = some t → t ∈ l ∧ t.stroke = s ∧ t.metres = m
  | [], _, _, _, h => by simp [findT] at h
  | x :: l, s, m, t, h => by
    unfold findT at h
    split at h
    · rename_i h1
      obtain rfl := Option.some.inj h
      exact ⟨by simp, h1⟩
    · obtain ⟨h1, h2⟩ := findT_mem h
      exact ⟨by simp [h1], h2⟩
theorem look_turns {l : List Trn} {r : Race} {c t : Int} (h : lookErr l r c t = 0) : turnsErr l = 0 ∧ raceErr r = 0 ∧ r.course = c ∧ r.legs = 1 ∧ 1 ≤ t ∧ t ≤ 360000 := by
  have := lookErr_cases l r c t
  omega
theorem look_ok {l : List Trn} {r : Race} {c tm : Int} {t : Trn} (h : lookErr l r c tm = 0) (hf : findT r.stroke r.metres l = some t) : t.ok := turns_ok (look_turns h).1 t (findT_mem hf).1
theorem worth_step {t : Trn} (ht : t.ok) (n : Int) : worthV t n ≤ worthV t (n + 1) := by
  obtain ⟨d0, d1, n0, n1, f0, f1⟩ := ht
  unfold worthV
  have h1 : (n + 1) * t.num ≤ n * t.num + t.den := by rw [Int.add_mul, Int.one_mul]; omega
  have h2 : (n + 1) * t.num / t.den ≤ (n * t.num + t.den) / t.den := Int.ediv_le_ediv (by omega) h1
  have h3 : (n * t.num + t.den) / t.den = n * t.num / t.den + 1 := by rw [Int.add_ediv_of_dvd_right (Int.dvd_refl _), Int.ediv_self (by omega)]
  omega
theorem worth_mono {t : Trn} (ht : t.ok) : ∀ (k : Nat) (n : Int), worthV t n ≤ worthV t (n + k)
  | 0, n => by simp
  | k + 1, n => by
    have h1 := worth_mono ht k n
    have h2 := worth_step ht (n + k)
    have e : n + ((k + 1 : Nat) : Int) = n + (k : Int) + 1 := by omega
    rw [e]; omega
theorem worth_le {t : Trn} (ht : t.ok) {n m : Int} (h : n ≤ m) : worthV t n ≤ worthV t m := by
  have := worth_mono ht (m - n).toNat n
  rw [show n + ((m - n).toNat : Int) = m from by omega] at this
  exact this
def Least (t : Trn) (time v : Int) : Prop := 1 ≤ v ∧ v ≤ 360000 ∧ time ≤ worthV t v ∧ ∀ m, 1 ≤ m → m < v → worthV t m < time
theorem least_one {t : Trn} {time v v' : Int} (h : Least t time v) (h' : Least t time v') : v = v' := by
  obtain ⟨a1, a2, a3, a4⟩ := h
  obtain ⟨b1, b2, b3, b4⟩ := h'
  by_cases h1 : v < v'
  · have := b4 v a1 h1; omega
  · by_cases h2 : v' < v
    · have := a4 v' b1 h2; omega
    · omega
def shortV (o : Option Trn) (time : Int) : Int := match o with | none => 0 | some t => max 0 (worthV t time)
def LongIs (o : Option Trn) (time v : Int) : Prop := match o with
  | none => v = 0
  | some t => (worthV t 360000 < time ∧ v = 0) ∨ (time ≤ worthV t 360000 ∧ Least t time v)
theorem long_one {o : Option Trn} {time v v' : Int} (h : LongIs o time v) (h' : LongIs o time v') : v = v' := by
  cases o with
  | none => exact h.trans h'.symm
  | some t =>
    rcases h with ⟨h1, h2⟩ | ⟨h1, h2⟩ <;> rcases h' with ⟨h3, h4⟩ | ⟨h3, h4⟩
    · omega
    · omega
    · omega
    · exact least_one h2 h4
theorem worth_bd {t : Trn} (ht : t.ok) {n : Int} (h0 : 0 ≤ n) (h1 : n ≤ 360000) : -10000000000 ≤ worthV t n ∧ worthV t n ≤ 360000 := by
  obtain ⟨d0, d1, n0, n1, f0, f1⟩ := ht
  obtain ⟨m0, m1⟩ := mul_bd h0 h1 n0 (show t.num ≤ 10000 by omega)
  have q0 : 0 ≤ n * t.num / t.den := Int.ediv_nonneg m0 (by omega)
  have q1 : n * t.num / t.den ≤ n * t.num := Int.ediv_le_self _ m0
  unfold worthV; omega

/-! ## the program's -/
def shortE (l : List Trn) (r : Race) (time : Int) : Int := if lookErr l r 50 time = 0 then shortV (findT r.stroke r.metres l) time else 0
set_option maxHeartbeats 1600000 in
set_option maxRecDepth 100000 in
theorem toShort_c (A : Option Addr) (n c : Nat) (l : List Trn) (r : Race) (time : Int) (w : World) (h : RTn w A n l) :
    Calls Tryd.prog 73 #[.slice A n c, r.val, .int .i64 time] w fun e w' => e = .returned (.tuple #[.int .i64 (shortE l r time), .bool (decide (0 < shortE l r time)), .int .i64 (lookErr l r 50 time)]) ∧ Below w.heap.size w w' := by
  by_cases h0 : lookErr l r 50 time = 0
  rotate_left
  · have hS : shortE l r time = 0 := if_neg h0
    have hT := Lib.hid (fun W h => turn_err A n c l r time 50 W h h0)
    rw [hS]
    generalize lookErr l r 50 time = E at *
    have ht : (E != 0) = true := by simpa using h0
    clear h0 hS
    obtain ⟨key, metres, stroke, course', legs, sex, young, old⟩ := r
    dsimp only [Race.val, Race.cells, Trn.val, Trn.cells, trn0] at *
    go_enter Tryd.func73, Tryd.ntmps73
    go_wp2_with fail
    refine (hT.out _ (h.alloc _)).mono ?_; rintro e w1 ⟨rfl, B1⟩
    have hB := below_box B1
    go_wp2
    go_ret3
    exact ⟨rfl, hB.alloc hB.size _⟩
  have hS : shortE l r time = shortV (findT r.stroke r.metres l) time := if_pos h0
  have hT := Lib.hid (fun W h => turn_ok A n c l r time 50 W h h0)
  have hok := fun t ht => look_ok (t := t) h0 ht
  obtain ⟨ht0, ht1⟩ := (look_turns h0).2.2.2.2
  rw [hS, h0]
  generalize findT r.stroke r.metres l = o at *
  clear h0 hS
  obtain ⟨key, metres, stroke, course', legs, sex, young, old⟩ := r
  dsimp only [Race.val, Race.cells] at *
  cases o with
  | none =>
    dsimp only [trnO, Trn.val, Trn.cells, trn0, Option.isSome] at *
    rw [show shortV none time = 0 from rfl]
    clear hok
    go_enter Tryd.func73, Tryd.ntmps73
    go_wp2_with fail
    refine (hT.out _ (h.alloc _)).mono ?_; rintro e w1 ⟨rfl, B1⟩
    have hB := below_box B1
    go_wp2
    go_ret3
    exact ⟨rfl, hB.alloc hB.size _⟩
  | some t =>
    have hW := Lib.hid (fun W => worth_c t time W (hok t rfl) (by omega) ht1)
    have hV : Hid (shortV (some t) time = max 0 (worthV t time)) := Lib.hid rfl
    have hbd := worth_bd (hok t rfl) (n := time) (by omega) ht1
    obtain ⟨x0, x1, x2, x3, x4⟩ := t
    dsimp only [trnO, Trn.val, Trn.cells, Option.isSome] at *
    generalize worthV ⟨x0, x1, x2, x3, x4⟩ time = v at *
    generalize shortV (some ⟨x0, x1, x2, x3, x4⟩) time = sv at *
    clear hok
    go_enter Tryd.func73, Tryd.ntmps73
    go_wp2_with fail
    refine (hT.out _ (h.alloc _)).mono ?_; rintro e w1 ⟨rfl, B1⟩
    have hB := below_box B1
    go_wp2_with fail
    refine (hW.out _).mono ?_; rintro e w2 ⟨rfl, B2⟩
    have hB2 := below_next (hB.alloc hB.size _) B2
    by_cases hv : v < 1
    · obtain rfl : sv = 0 := by rw [hV.out]; omega
      go_wp2
      go_ret3
      exact ⟨rfl, hB2⟩
    · obtain rfl : sv = v := by rw [hV.out]; omega
      have hd := Lib.hid (show decide (0 < sv) = true from decide_eq_true (by omega))
      go_wp2
      go_ret3
      exact ⟨by rw [hd.out]; rfl, hB2⟩
end Go.Proofs.YtjfppcejcbfngaaDoor
