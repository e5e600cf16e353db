/- The reference's words on the other pool. -/
import Derived.Test.YtjfppcejcbfngaaDoorTrn7
namespace Go.Proofs.YtjfppcejcbfngaaDoor
open Go.RowKit
set_option linter.unusedVariables false

theorem otherFault_c (r : Race) (course time : Int) (w : World) :
    Calls Tryd.prog 75 #[r.val, .int .i64 course, .int .i64 time] w fun e w' => e = .returned (.int .i64 (otherErr r course time)) ∧ Below w.heap.size w w' := by
  have hE : otherErr r course time = if r.course ≠ course then 4 else if r.legs ≠ 1 then 3 else timeErr time := rfl
  generalize otherErr r course time = E at *
  obtain ⟨key, metres, stroke, course', legs, sex, young, old⟩ := r
  dsimp only [Race.val, Race.cells] at *
  by_cases h1 : course' = course
  rotate_left
  · have ht : (course' != course) = true := by simpa using h1
    obtain rfl : E = 4 := by rw [hE, if_pos h1]
    clear hE h1
    go_enter Tryd.func75, Tryd.ntmps75
    go_wp2
    go_ret
    exact ⟨rfl, below_new _ _⟩
  rw [if_neg (by simpa using h1)] at hE
  subst h1
  by_cases h2 : legs = 1
  rotate_left
  · have ht : (legs != 1) = true := by simpa using h2
    obtain rfl : E = 3 := by rw [hE, if_pos h2]
    clear hE h2
    go_enter Tryd.func75, Tryd.ntmps75
    go_wp2
    go_ret
    exact ⟨rfl, below_new _ _⟩
  rw [if_neg (by simpa using h2)] at hE
  subst h2
  have hE' := Lib.hid hE
  clear hE
  go_enter Tryd.func75, Tryd.ntmps75
  go_wp2_with fail
  refine (timeFault_c _ _).mono ?_; rintro e w' ⟨rfl, rfl⟩
  go_wp2
  go_ret
  exact ⟨ret_i hE'.out.symm, below_new _ _⟩
set_option maxHeartbeats 1600000 in
set_option maxRecDepth 100000 in
theorem shortOf_c (A : Option Addr) (n c : Nat) (l : List Trn) (r : Race) (time co : Int) (w : World) (h : RTn w A n l) (h0 : lookErr l r co time = 0) :
    Calls Tryd.prog 76 #[.slice A n c, r.val, .int .i64 time] w fun e w' => e = .returned (.int .i64 (shortV (findT r.stroke r.metres l) time)) ∧ Below w.heap.size w w' := by
  have hT := Lib.hid (fun W h => turnOf_c A n c l r W h)
  have hok := fun t ht => look_ok (t := t) h0 ht
  obtain ⟨ht0, ht1⟩ := (look_turns h0).2.2.2.2
  generalize findT r.stroke r.metres l = o at *
  clear h0
  obtain ⟨key, metres, stroke, course', legs, sex, young, old⟩ := r
  dsimp only [Race.val, Race.cells] at *
  cases o with
  | none =>
    dsimp only [trnO, Trn.val, Trn.cells, trn0, Option.isSome] at *
    rw [show shortV none time = 0 from rfl]
    clear hok
    go_enter Tryd.func76, Tryd.ntmps76
    go_wp2_with fail
    refine (hT.out _ (h.alloc _)).mono ?_; rintro e w1 ⟨rfl, B1⟩
    have hB := below_box B1
    go_wp2
    go_ret
    exact ⟨rfl, hB.alloc hB.size _⟩
  | some t =>
    have hW := Lib.hid (fun W => shorter_c t time W (hok t rfl) (by omega) ht1)
    have hV : Hid (shortV (some t) time = max 0 (worthV t time)) := Lib.hid rfl
    have hbd := worth_bd (hok t rfl) (n := time) (by omega) ht1
    obtain ⟨x0, x1, x2, x3, x4⟩ := t
    dsimp only [trnO, Trn.val, Trn.cells, Option.isSome] at *
    generalize worthV ⟨x0, x1, x2, x3, x4⟩ time = v at *
    generalize shortV (some ⟨x0, x1, x2, x3, x4⟩) time = sv at *
    clear hok
    go_enter Tryd.func76, Tryd.ntmps76
    go_wp2_with fail
    refine (hT.out _ (h.alloc _)).mono ?_; rintro e w1 ⟨rfl, B1⟩
    have hB := below_box B1
    go_wp2_with fail
    refine (hW.out _).mono ?_; rintro e w2 ⟨rfl, B2⟩
    have hB2 := below_next (hB.alloc hB.size _) B2
    go_wp2
    all_goals
      go_ret
      exact ⟨ret_i (by rw [hV.out]; first | done | omega), hB2⟩
set_option maxHeartbeats 3200000 in
set_option maxRecDepth 100000 in
theorem longOf_c (A : Option Addr) (n c : Nat) (l : List Trn) (r : Race) (time co : Int) (w : World) (h : RTn w A n l) (h0 : lookErr l r co time = 0) :
    Calls Tryd.prog 77 #[.slice A n c, r.val, .int .i64 time] w fun e w' => ∃ v : Int, e = .returned (.int .i64 v) ∧ LongIs (findT r.stroke r.metres l) time v ∧ Below w.heap.size w w' := by
  have hT := Lib.hid (fun W h => turnOf_c A n c l r W h)
  have hok := fun t ht => look_ok (t := t) h0 ht
  obtain ⟨ht0, ht1⟩ := (look_turns h0).2.2.2.2
  generalize findT r.stroke r.metres l = o at *
  clear h0
  obtain ⟨key, metres, stroke, course', legs, sex, young, old⟩ := r
  dsimp only [Race.val, Race.cells] at *
  cases o with
  | none =>
    dsimp only [trnO, Trn.val, Trn.cells, trn0, Option.isSome] at *
    have hL : Hid (LongIs none time 0) := Lib.hid rfl
    clear hok
    go_enter Tryd.func77, Tryd.ntmps77
    go_wp2_with fail
    refine (hT.out _ (h.alloc _)).mono ?_; rintro e w1 ⟨rfl, B1⟩
    have hB := below_box B1
    go_wp2
    go_ret
    exact ⟨0, rfl, hL.out, hB.alloc hB.size _⟩
  | some t =>
    have hW := Lib.hid (fun (m : Int) W (h0 : 0 ≤ m) (h1 : m ≤ 360000) => shorter_c t m W (hok t rfl) h0 h1)
    have hmono := Lib.hid (fun (a b : Int) (h : a ≤ b) => worth_le (hok t rfl) h)
    have hLs1 := Lib.hid (show worthV t 360000 < time → LongIs (some t) time 0 from fun h => .inl ⟨h, rfl⟩)
    have hLs2 := Lib.hid (show time ≤ worthV t 360000 → ∀ v, Least t time v → LongIs (some t) time v from fun h v hv => .inr ⟨h, hv⟩)
    have hLe := Lib.hid (fun (v : Int) (h1 : 1 ≤ v) (h2 : v ≤ 360000) (h3 : time ≤ worthV t v) (h4 : ∀ m, 1 ≤ m → m < v → worthV t m < time) => show Least t time v from ⟨h1, h2, h3, h4⟩)
    generalize Least t time = LT at *
    generalize LongIs (some t) time = LE at *
    obtain ⟨x0, x1, x2, x3, x4⟩ := t
    dsimp only [trnO, Trn.val, Trn.cells, Option.isSome] at *
    generalize worthV ⟨x0, x1, x2, x3, x4⟩ = WV at *
    clear hok
    go_enter Tryd.func77, Tryd.ntmps77
    go_wp2_with fail
    refine (hT.out _ (h.alloc _)).mono ?_; rintro e w1 ⟨rfl, B1⟩
    have hB := below_box B1
    have hbk := heap_alloc_new w1 (.cells #[.int .i64 x0, .int .i64 x1, .int .i64 x2, .int .i64 x3, .int .i64 x4] 160)
    go_wp2_with fail
    refine (hW.out 360000 _ (by omega) (by omega)).mono ?_; rintro e w2 ⟨rfl, B2⟩
    have hB2 := below_next (hB.alloc hB.size _) B2
    replace hbk := blk_below hbk B2
    by_cases hm : WV 360000 < time
    · have hR := Lib.hid (hLs1.out hm)
      go_wp2
      go_ret
      exact ⟨0, rfl, hR.out, hB2⟩
    · have hge : time ≤ WV 360000 := by omega
      have hge' := Lib.hid hge
      clear hB B1 B2
      go_wp2_with fail
      go_loopw [9, 10] (fun a b wr => ∃ (lo hi : Int), a = .int .i64 lo ∧ b = .int .i64 hi ∧ 1 ≤ lo ∧ lo ≤ hi ∧ hi ≤ 360000 ∧ Below w2.heap.size w2 wr ∧ Hid (time ≤ WV hi) ∧ Hid (∀ m, 1 ≤ m → m < lo → WV m < time)) (fun a b _ => (intOf b - intOf a).toNat)
      case atStart => exact ⟨1, 360000, rfl, rfl, by omega, by omega, by omega, Below.refl _ _, hge', Lib.hid (fun m h1 h2 => by omega)⟩
      case round =>
        obtain ⟨lo, hi, rfl, rfl, l1, l2, l3, hBr, h1, h2⟩ := hrel
        have hbr := blk_below hbk hBr
        have zc := (blk_facts hbr).1
        by_cases hlt : lo < hi
        · have q1 : lo ≤ (lo + hi) / 2 := by omega
          have q2 : (lo + hi) / 2 < hi := by omega
          go_wp2_with fail
          refine (hW.out _ _ (by omega) (by omega)).mono ?_; rintro e w3 ⟨rfl, B3⟩
          have hB3 := below_next hBr B3
          by_cases hv : time ≤ WV ((lo + hi) / 2)
          · have hv' := Lib.hid hv
            go_wp2
            go_roundw
            case rel => exact ⟨lo, (lo + hi) / 2, rfl, rfl, by omega, by omega, by omega, hB3, hv', h2⟩
            case measure => simp [intOf]; omega
          · have hv' := Lib.hid (show ∀ m, 1 ≤ m → m < (lo + hi) / 2 + 1 → WV m < time from fun m g1 g2 => by
              have := hmono.out m ((lo + hi) / 2) (by omega)
              omega)
            go_wp2
            go_roundw
            case rel => exact ⟨(lo + hi) / 2 + 1, hi, rfl, rfl, by omega, by omega, by omega, hB3, h1, hv'⟩
            case measure => simp [intOf]; omega
        · obtain rfl : lo = hi := by omega
          have hR := Lib.hid (hLs2.out hge'.out lo (hLe.out lo l1 l3 h1.out h2.out))
          go_wp2
          go_ret
          exact ⟨lo, rfl, hR.out, below_next hB2 hBr⟩
end Go.Proofs.YtjfppcejcbfngaaDoor
