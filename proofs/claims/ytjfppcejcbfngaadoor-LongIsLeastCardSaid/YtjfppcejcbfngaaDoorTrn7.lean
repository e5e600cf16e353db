/- What a time is worth in the long pool: the program's and the reference's; the reference's for the short one. -/
import Derived.Test.YtjfppcejcbfngaaDoorTrn6
namespace Go.Proofs.YtjfppcejcbfngaaDoor
open Go.RowKit
set_option linter.unusedVariables false

def LongE (l : List Trn) (r : Race) (time v : Int) : Prop := (lookErr l r 25 time ≠ 0 ∧ v = 0) ∨ (lookErr l r 25 time = 0 ∧ LongIs (findT r.stroke r.metres l) time v)
set_option maxHeartbeats 3200000 in
set_option maxRecDepth 100000 in
theorem toLong_c (A : Option Addr) (n c : Nat) (l : List Trn) (r : Race) (time : Int) (w : World) (h : RTn w A n l) :
    Calls Tryd.prog 74 #[.slice A n c, r.val, .int .i64 time] w fun e w' => ∃ v : Int, e = .returned (.tuple #[.int .i64 v, .bool (decide (0 < v)), .int .i64 (lookErr l r 25 time)]) ∧ LongE l r time v ∧ Below w.heap.size w w' := by
  by_cases h0 : lookErr l r 25 time = 0
  rotate_left
  · have hL : Hid (LongE l r time 0) := Lib.hid (.inl ⟨h0, rfl⟩)
    have hT := Lib.hid (fun W h => turn_err A n c l r time 25 W h h0)
    generalize LongE l r time = LE at *
    generalize lookErr l r 25 time = E at *
    have ht : (E != 0) = true := by simpa using h0
    clear h0
    obtain ⟨key, metres, stroke, course', legs, sex, young, old⟩ := r
    dsimp only [Race.val, Race.cells, Trn.val, Trn.cells, trn0] at *
    go_enter Tryd.func74, Tryd.ntmps74
    go_wp2_with fail
    refine (hT.out _ (h.alloc _)).mono ?_; rintro e w1 ⟨rfl, B1⟩
    have hB := below_box B1
    go_wp2
    go_ret3
    exact ⟨0, rfl, hL.out, hB.alloc hB.size _⟩
  have hL : Hid (∀ v, LongIs (findT r.stroke r.metres l) time v → LongE l r time v) := Lib.hid (fun v hv => .inr ⟨h0, hv⟩)
  have hT := Lib.hid (fun W h => turn_ok A n c l r time 25 W h h0)
  have hok := fun t ht => look_ok (t := t) h0 ht
  obtain ⟨ht0, ht1⟩ := (look_turns h0).2.2.2.2
  rw [h0]
  generalize LongE l r time = LE at *
  generalize findT r.stroke r.metres l = o at *
  clear h0
  obtain ⟨key, metres, stroke, course', legs, sex, young, old⟩ := r
  dsimp only [Race.val, Race.cells] at *
  cases o with
  | none =>
    dsimp only [trnO, Trn.val, Trn.cells, trn0, Option.isSome] at *
    clear hok
    go_enter Tryd.func74, Tryd.ntmps74
    go_wp2_with fail
    refine (hT.out _ (h.alloc _)).mono ?_; rintro e w1 ⟨rfl, B1⟩
    have hB := below_box B1
    go_wp2
    go_ret3
    exact ⟨0, rfl, hL.out 0 rfl, hB.alloc hB.size _⟩
  | some t =>
    have hW := Lib.hid (fun (m : Int) W (h0 : 0 ≤ m) (h1 : m ≤ 360000) => worth_c t m W (hok t rfl) h0 h1)
    have hmono := Lib.hid (fun (a b : Int) (h : a ≤ b) => worth_le (hok t rfl) h)
    have hwb := Lib.hid (fun (a : Int) (h0 : 0 ≤ a) (h1 : a ≤ 360000) => worth_bd (hok t rfl) h0 h1)
    have hLs := Lib.hid (fun v hv => hL.out v hv)
    have hLs1 := Lib.hid (show worthV t 360000 < time → LE 0 from fun h => hL.out 0 (.inl ⟨h, rfl⟩))
    have hLs2 := Lib.hid (show time ≤ worthV t 360000 → ∀ v, Least t time v → LE v from fun h v hv => hL.out v (.inr ⟨h, hv⟩))
    have hLe := Lib.hid (fun (v : Int) (h1 : 1 ≤ v) (h2 : v ≤ 360000) (h3 : time ≤ worthV t v) (h4 : ∀ m, 1 ≤ m → m < v → worthV t m < time) => show Least t time v from ⟨h1, h2, h3, h4⟩)
    generalize Least t time = LT at *
    obtain ⟨x0, x1, x2, x3, x4⟩ := t
    dsimp only [trnO, Trn.val, Trn.cells, Option.isSome] at *
    generalize worthV ⟨x0, x1, x2, x3, x4⟩ = WV at *
    clear hok hL hLs
    go_enter Tryd.func74, Tryd.ntmps74
    go_wp2_with fail
    refine (hT.out _ (h.alloc _)).mono ?_; rintro e w1 ⟨rfl, B1⟩
    have hB := below_box B1
    have hbk := heap_alloc_new w1 (.cells #[.int .i64 x0, .int .i64 x1, .int .i64 x2, .int .i64 x3, .int .i64 x4] 160)
    go_wp2_with fail
    refine (hW.out 360000 _ (by omega) (by omega)).mono ?_; rintro e w2 ⟨rfl, B2⟩
    have hB2 := below_next (hB.alloc hB.size _) B2
    replace hbk := blk_below hbk B2
    by_cases hm : WV 360000 < time
    · have hR := Lib.hid (hLs1.out hm)
      go_wp2
      go_ret3
      exact ⟨0, rfl, hR.out, hB2⟩
    · have hge : time ≤ WV 360000 := by omega
      have hge' := Lib.hid hge
      clear hB B1 B2
      go_wp2_with fail
      go_loopw [12, 13] (fun a b wr => ∃ (lo hi : Int), a = .int .i64 lo ∧ b = .int .i64 hi ∧ 1 ≤ lo ∧ lo ≤ hi ∧ hi ≤ 360000 ∧ Below w2.heap.size w2 wr ∧ Hid (time ≤ WV hi) ∧ Hid (∀ m, 1 ≤ m → m < lo → WV m < time)) (fun a b _ => (intOf b - intOf a).toNat)
      case atStart => exact ⟨1, 360000, rfl, rfl, by omega, by omega, by omega, Below.refl _ _, hge', Lib.hid (fun m h1 h2 => by omega)⟩
      case round =>
        obtain ⟨lo, hi, rfl, rfl, l1, l2, l3, hBr, h1, h2⟩ := hrel
        have hbr := blk_below hbk hBr
        have zc := (blk_facts hbr).1
        by_cases hlt : lo < hi
        · have q1 : lo ≤ (lo + hi) / 2 := by omega
          have q2 : (lo + hi) / 2 < hi := by omega
          go_wp2_with fail
          refine (hW.out _ _ (by omega) (by omega)).mono ?_; rintro e w3 ⟨rfl, B3⟩
          have hB3 := below_next hBr B3
          by_cases hv : time ≤ WV ((lo + hi) / 2)
          · have hv' := Lib.hid hv
            go_wp2
            go_roundw
            case rel => exact ⟨lo, (lo + hi) / 2, rfl, rfl, by omega, by omega, by omega, hB3, hv', h2⟩
            case measure => simp [intOf]; omega
          · have hv' := Lib.hid (show ∀ m, 1 ≤ m → m < (lo + hi) / 2 + 1 → WV m < time from fun m g1 g2 => by
              have := hmono.out m ((lo + hi) / 2) (by omega)
              omega)
            go_wp2
            go_roundw
            case rel => exact ⟨(lo + hi) / 2 + 1, hi, rfl, rfl, by omega, by omega, by omega, hB3, h1, hv'⟩
            case measure => simp [intOf]; omega
        · obtain rfl : lo = hi := by omega
          have hR := Lib.hid (hLs2.out hge'.out lo (hLe.out lo l1 l3 h1.out h2.out))
          have hd := Lib.hid (show decide (0 < lo) = true from decide_eq_true (by omega))
          go_wp2
          go_ret3
          exact ⟨lo, by rw [hd.out]; rfl, hR.out, below_next hB2 hBr⟩
end Go.Proofs.YtjfppcejcbfngaaDoor
