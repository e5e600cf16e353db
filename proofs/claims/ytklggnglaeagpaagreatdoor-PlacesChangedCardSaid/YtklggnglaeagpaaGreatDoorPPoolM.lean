import Derived.Test.YtklggnglaeagpaaGreatDoorPEnv
import Derived.Test.YtklggnglaeagpaaGreatDoorPDraws
import Derived.IntWalk
/- The stream's FinalOf: how finals are made. -/
namespace Go.Proofs.YtklggnglaeagpaaGreatDoor
open Go.RowKit
set_option linter.unusedVariables false

/-- what FinalOf hands back -/
def RetFi (w : World) (g : Nat) (zs : Zs) (k : Nat) (e : Ending) (w' : World) : Prop := ∃ (a b c : Int) (k' : Nat), e = .returned (.agg #[.int .i64 a, .int .i64 b, .int .i64 c]) ∧ (-1099511627776 ≤ a ∧ a ≤ 1099511627776) ∧ (-1099511627776 ≤ b ∧ b ≤ 1099511627776) ∧ (-1099511627776 ≤ c ∧ c ≤ 1099511627776) ∧ St w' g zs k' ∧ k' ≤ k + 20 ∧ w.grownBy w' (some g)
set_option maxHeartbeats 1600000 in
set_option maxRecDepth 100000 in
theorem finalOf_c (g : Nat) (zs : Zs) (k : Nat) (w : World) (h : St w g zs k) (hk : k + 100 ≤ 1099511627776) :
    Calls Tryz.prog 71 #[.pointer (some ⟨g, 0, none⟩)] w (RetFi w g zs k) := by
  have E0 := Env1.new h #[.int .i64 0, .int .i64 0, .int .i64 0] 128
  go_enter Tryz.func71, Tryz.ntmps71
  go_wp2_with fail
  refine (pickE_c g zs k _ _ _ [1, 2, 3, 3, 8] _ (E0.tmp _).st (by omega) (R1.litAt _ _ _ _ (by first | rfl | (simp; done)) (by simp) (by simp)) (by decide)).mono ?_; rintro e w1 ⟨a, rfl, ha, s1, g1⟩
  have E1 := (E0.tmp _).call s1 g1
  have ha2 : 0 ≤ a ∧ a ≤ 8 := by simp at ha; omega
  clear E0 s1 g1 h ha
  go_wp2_with fail
  refine (pickE_c g zs _ _ _ _ [1, 1, 2, 3] _ (E1.tmp _).st (by omega) (R1.litAt _ _ _ _ (by first | rfl | (simp; done)) (by simp) (by simp)) (by decide)).mono ?_; rintro e w2 ⟨b, rfl, hb, s2, g2⟩
  have E2 := (E1.tmp _).call s2 g2
  have hb2 : 0 ≤ b ∧ b ≤ 8 := by simp at hb; omega
  clear E1 s2 g2 hb
  go_wp2_with fail
  refine (pickE_c g zs _ _ _ _ [0, 1, 2] _ (E2.tmp _).st (by omega) (R1.litAt _ _ _ _ (by first | rfl | (simp; done)) (by simp) (by simp)) (by decide)).mono ?_; rintro e w3 ⟨c, rfl, hc, s3, g3⟩
  have E3 := (E2.tmp _).call s3 g3
  have hc2 : 0 ≤ c ∧ c ≤ 8 := by simp at hc; omega
  clear E2 s3 g3 hc
  have E4 := E3.box #[.int .i64 a, .int .i64 b, .int .i64 c] 128
  go_wp2_with fail
  refine (flipE_c g zs _ _ _ E4.E.st (by omega) (by omega) (by omega)).mono ?_; rintro e w4 ⟨fl, rfl, s4, g4⟩
  have E5 := E4.call s4 g4
  clear E4 s4 g4 E3
  cases fl
  · obtain ⟨C, F⟩ := E5.facts
    obtain ⟨Z, Y⟩ := E5.E.facts
    have hS := E5.E.st
    have hG := E5.E.gr
    have hl1 : g < w.heap.size := E5.E.glt
    have hl0 : w.heap.size < w3.heap.size := E5.ne
    have hl2 : g < w3.heap.size := by omega
    have hl3 : w.heap.size ≤ w3.heap.size := by omega
    have hl4 : w.heap.size ≤ w.heap.size := Nat.le_refl _
    clear E5
    go_wp2
    refine bodyPost_ret (v := .agg #[.int .i64 a, .int .i64 b, .int .i64 c]) (by simp [results, Tryz.results71, go_sem, Z]) rfl ⟨a, b, c, k + 1 + 1 + 1 + 1, rfl, by omega, by omega, by omega, ?_, by omega, ?_⟩
    · repeat (with_reducible refine St.setAt ?_ (by assumption) _)
      exact hS
    · repeat (with_reducible refine grown_setAt ?_ (by assumption) _)
      exact hG
  · go_wp2_with fail
    refine (oddE_c g zs _ 1 10 _ E5.E.st (by omega) (by decide) (by decide) (by decide)).mono ?_; rintro e w5 ⟨x, rfl, x0, x1, s5, g5⟩
    have E6 := E5.call s5 g5
    clear E5 s5 g5
    go_wp2_with fail
    refine (oddE_c g zs _ 1 5 _ E6.E.st (by omega) (by decide) (by decide) (by decide)).mono ?_; rintro e w6 ⟨y, rfl, y0, y1, s6, g6⟩
    have E7 := E6.call s6 g6
    clear E6 s6 g6
    go_wp2_with fail
    refine (oddE_c g zs _ 0 10 _ E7.E.st (by omega) (by decide) (by decide) (by decide)).mono ?_; rintro e w7 ⟨z, rfl, z0, z1, s7, g7⟩
    have E8 := E7.call s7 g7
    clear E7 s7 g7
    obtain ⟨C, F⟩ := E8.facts
    obtain ⟨Z, Y⟩ := E8.E.facts
    have hS := E8.E.st
    have hG := E8.E.gr
    have hl1 : g < w.heap.size := E8.E.glt
    have hl0 : w.heap.size < w3.heap.size := E8.ne
    have hl2 : g < w3.heap.size := by omega
    have hl3 : w.heap.size ≤ w3.heap.size := by omega
    have hl4 : w.heap.size ≤ w.heap.size := Nat.le_refl _
    clear E8
    go_wp2
    refine bodyPost_ret (v := .agg #[.int .i64 x, .int .i64 y, .int .i64 z]) (by simp [results, Tryz.results71, go_sem, Z]) rfl ⟨x, y, z, k + 1 + 1 + 1 + 1 + 2 + 2 + 2, rfl, ⟨x0, x1⟩, ⟨y0, y1⟩, ⟨z0, z1⟩, ?_, by omega, ?_⟩
    · repeat (with_reducible refine St.setAt ?_ (by assumption) _)
      exact hS
    · repeat (with_reducible refine grown_setAt ?_ (by assumption) _)
      exact hG
end Go.Proofs.YtklggnglaeagpaaGreatDoor

/- The stream's PoolOf: a pool. -/
namespace Go.Proofs.YtklggnglaeagpaaGreatDoor
open Go.RowKit
set_option linter.unusedVariables false

/-- what PoolOf hands back -/
def RetPo (w : World) (g : Nat) (zs : Zs) (k : Nat) (e : Ending) (w' : World) : Prop := ∃ (a b c d : Int) (k' : Nat), e = .returned (.agg #[.int .i64 a, .int .i64 b, .int .i64 c, .int .i64 d]) ∧ (-1099511627776 ≤ a ∧ a ≤ 1099511627776) ∧ (-1099511627776 ≤ b ∧ b ≤ 1099511627776) ∧ (-1099511627776 ≤ c ∧ c ≤ 1099511627776) ∧ (-1099511627776 ≤ d ∧ d ≤ 1099511627776) ∧ St w' g zs k' ∧ k' ≤ k + 20 ∧ w.grownBy w' (some g)
set_option maxHeartbeats 1600000 in
set_option maxRecDepth 100000 in
theorem poolOf_c (g : Nat) (zs : Zs) (k : Nat) (w : World) (h : St w g zs k) (hk : k + 100 ≤ 1099511627776) :
    Calls Tryz.prog 72 #[.pointer (some ⟨g, 0, none⟩)] w (RetPo w g zs k) := by
  have E0 := Env1.new h #[.int .i64 0, .int .i64 0, .int .i64 0, .int .i64 0] 131
  go_enter Tryz.func72, Tryz.ntmps72
  go_wp2_with fail
  refine (pickE_c g zs k _ _ _ [1, 1, 2, 3] _ (E0.tmp _).st (by omega) (R1.litAt _ _ _ _ (by first | rfl | (simp; done)) (by simp) (by simp)) (by decide)).mono ?_; rintro e w1 ⟨a, rfl, ha, s1, g1⟩
  have E1 := (E0.tmp _).call s1 g1
  have ha2 : 1 ≤ a ∧ a ≤ 10 := by simp at ha; omega
  clear E0 s1 g1 h ha
  go_wp2_with fail
  refine (pickE_c g zs _ _ _ _ [3, 5, 6, 8, 10] _ (E1.tmp _).st (by omega) (R1.litAt _ _ _ _ (by first | rfl | (simp; done)) (by simp) (by simp)) (by decide)).mono ?_; rintro e w2 ⟨b, rfl, hb, s2, g2⟩
  have E2 := (E1.tmp _).call s2 g2
  have hb2 : 1 ≤ b ∧ b ≤ 10 := by simp at hb; omega
  clear E1 s2 g2 hb
  go_wp2_with fail
  refine (pickE_c g zs _ _ _ _ [1, 2, 3] _ (E2.tmp _).st (by omega) (R1.litAt _ _ _ _ (by first | rfl | (simp; done)) (by simp) (by simp)) (by decide)).mono ?_; rintro e w3 ⟨c, rfl, hc, s3, g3⟩
  have E3 := (E2.tmp _).call s3 g3
  have hc2 : 1 ≤ c ∧ c ≤ 10 := by simp at hc; omega
  clear E2 s3 g3 hc
  go_wp2_with fail
  refine (pickE_c g zs _ _ _ _ [1, 2, 3, 10] _ (E3.tmp _).st (by omega) (R1.litAt _ _ _ _ (by first | rfl | (simp; done)) (by simp) (by simp)) (by decide)).mono ?_; rintro e w30 ⟨d, rfl, hd, s30, g30⟩
  have E30 := (E3.tmp _).call s30 g30
  have hd2 : 1 ≤ d ∧ d ≤ 10 := by simp at hd; omega
  clear E3 s30 g30 hd
  have u1 : IntKind.i64.wrap (b - a) = b - a := IntWalk.i64_in _ (by omega)
  have u2 : IntKind.i64.wrap (b - a + 1) = b - a + 1 := IntWalk.i64_in _ (by omega)
  rcases Int.lt_or_le (b - a + 1) c with hm | hm
  · have hm1 : ¬ (c ≤ b - a + 1) := by omega
    have hm2 : min c (b - a + 1) = b - a + 1 := by omega
    have E4 := E30.box #[.int .i64 a, .int .i64 b, .int .i64 (b - a + 1), .int .i64 d] 131
    clear E30
    go_wp2_with fail
    refine (flipE_c g zs _ 20 _ E4.E.st (by omega) (by decide) (by decide)).mono ?_; rintro e w4 ⟨fl, rfl, s4, g4⟩
    have E5 := E4.call s4 g4
    clear E4 s4 g4
    cases fl
    · obtain ⟨C, F⟩ := E5.facts
      obtain ⟨Z, Y⟩ := E5.E.facts
      have hS := E5.E.st
      have hG := E5.E.gr
      have hl1 : g < w.heap.size := E5.E.glt
      have hl0 : w.heap.size < w30.heap.size := E5.ne
      have hl2 : g < w30.heap.size := by omega
      have hl3 : w.heap.size ≤ w30.heap.size := by omega
      have hl4 : w.heap.size ≤ w.heap.size := Nat.le_refl _
      clear E5
      go_wp2
      refine bodyPost_ret (v := .agg #[.int .i64 a, .int .i64 b, .int .i64 ((b - a + 1)), .int .i64 d]) (by simp [results, Tryz.results72, go_sem, Z]) rfl ⟨a, b, (b - a + 1), d, k + 1 + 1 + 1 + 1 + 1, rfl, by omega, by omega, by omega, by omega, ?_, by omega, ?_⟩
      · repeat (with_reducible refine St.setAt ?_ (by assumption) _)
        exact hS
      · repeat (with_reducible refine grown_setAt ?_ (by assumption) _)
        exact hG
    · go_wp2_with fail
      refine (oddE_c g zs _ 1 10 _ E5.E.st (by omega) (by decide) (by decide) (by decide)).mono ?_; rintro e w5 ⟨x, rfl, x0, x1, s5, g5⟩
      have E6 := E5.call s5 g5
      clear E5 s5 g5
      go_wp2_with fail
      refine (oddE_c g zs _ 1 10 _ E6.E.st (by omega) (by decide) (by decide) (by decide)).mono ?_; rintro e w6 ⟨y, rfl, y0, y1, s6, g6⟩
      have E7 := E6.call s6 g6
      clear E6 s6 g6
      go_wp2_with fail
      refine (oddE_c g zs _ 1 10 _ E7.E.st (by omega) (by decide) (by decide) (by decide)).mono ?_; rintro e w7 ⟨z, rfl, z0, z1, s7, g7⟩
      have E8 := E7.call s7 g7
      clear E7 s7 g7
      go_wp2_with fail
      refine (oddE_c g zs _ 1 10 _ E8.E.st (by omega) (by decide) (by decide) (by decide)).mono ?_; rintro e w8 ⟨v, rfl, v0, v1, s8, g8⟩
      have E9 := E8.call s8 g8
      clear E8 s8 g8
      obtain ⟨C, F⟩ := E9.facts
      obtain ⟨Z, Y⟩ := E9.E.facts
      have hS := E9.E.st
      have hG := E9.E.gr
      have hl1 : g < w.heap.size := E9.E.glt
      have hl0 : w.heap.size < w30.heap.size := E9.ne
      have hl2 : g < w30.heap.size := by omega
      have hl3 : w.heap.size ≤ w30.heap.size := by omega
      have hl4 : w.heap.size ≤ w.heap.size := Nat.le_refl _
      clear E9
      go_wp2
      refine bodyPost_ret (v := .agg #[.int .i64 x, .int .i64 y, .int .i64 z, .int .i64 v]) (by simp [results, Tryz.results72, go_sem, Z]) rfl ⟨x, y, z, v, k + 1 + 1 + 1 + 1 + 1 + 2 + 2 + 2 + 2, rfl, ⟨x0, x1⟩, ⟨y0, y1⟩, ⟨z0, z1⟩, ⟨v0, v1⟩, ?_, by omega, ?_⟩
      · repeat (with_reducible refine St.setAt ?_ (by assumption) _)
        exact hS
      · repeat (with_reducible refine grown_setAt ?_ (by assumption) _)
        exact hG
  · have hm1 : ¬ (b - a + 1 < c) := by omega
    have hm2 : min c (b - a + 1) = c := by omega
    have E4 := E30.box #[.int .i64 a, .int .i64 b, .int .i64 c, .int .i64 d] 131
    clear E30
    go_wp2_with fail
    refine (flipE_c g zs _ 20 _ E4.E.st (by omega) (by decide) (by decide)).mono ?_; rintro e w4 ⟨fl, rfl, s4, g4⟩
    have E5 := E4.call s4 g4
    clear E4 s4 g4
    cases fl
    · obtain ⟨C, F⟩ := E5.facts
      obtain ⟨Z, Y⟩ := E5.E.facts
      have hS := E5.E.st
      have hG := E5.E.gr
      have hl1 : g < w.heap.size := E5.E.glt
      have hl0 : w.heap.size < w30.heap.size := E5.ne
      have hl2 : g < w30.heap.size := by omega
      have hl3 : w.heap.size ≤ w30.heap.size := by omega
      have hl4 : w.heap.size ≤ w.heap.size := Nat.le_refl _
      clear E5
      go_wp2
      refine bodyPost_ret (v := .agg #[.int .i64 a, .int .i64 b, .int .i64 (c), .int .i64 d]) (by simp [results, Tryz.results72, go_sem, Z]) rfl ⟨a, b, c, d, k + 1 + 1 + 1 + 1 + 1, rfl, by omega, by omega, by omega, by omega, ?_, by omega, ?_⟩
      · repeat (with_reducible refine St.setAt ?_ (by assumption) _)
        exact hS
      · repeat (with_reducible refine grown_setAt ?_ (by assumption) _)
        exact hG
    · go_wp2_with fail
      refine (oddE_c g zs _ 1 10 _ E5.E.st (by omega) (by decide) (by decide) (by decide)).mono ?_; rintro e w5 ⟨x, rfl, x0, x1, s5, g5⟩
      have E6 := E5.call s5 g5
      clear E5 s5 g5
      go_wp2_with fail
      refine (oddE_c g zs _ 1 10 _ E6.E.st (by omega) (by decide) (by decide) (by decide)).mono ?_; rintro e w6 ⟨y, rfl, y0, y1, s6, g6⟩
      have E7 := E6.call s6 g6
      clear E6 s6 g6
      go_wp2_with fail
      refine (oddE_c g zs _ 1 10 _ E7.E.st (by omega) (by decide) (by decide) (by decide)).mono ?_; rintro e w7 ⟨z, rfl, z0, z1, s7, g7⟩
      have E8 := E7.call s7 g7
      clear E7 s7 g7
      go_wp2_with fail
      refine (oddE_c g zs _ 1 10 _ E8.E.st (by omega) (by decide) (by decide) (by decide)).mono ?_; rintro e w8 ⟨v, rfl, v0, v1, s8, g8⟩
      have E9 := E8.call s8 g8
      clear E8 s8 g8
      obtain ⟨C, F⟩ := E9.facts
      obtain ⟨Z, Y⟩ := E9.E.facts
      have hS := E9.E.st
      have hG := E9.E.gr
      have hl1 : g < w.heap.size := E9.E.glt
      have hl0 : w.heap.size < w30.heap.size := E9.ne
      have hl2 : g < w30.heap.size := by omega
      have hl3 : w.heap.size ≤ w30.heap.size := by omega
      have hl4 : w.heap.size ≤ w.heap.size := Nat.le_refl _
      clear E9
      go_wp2
      refine bodyPost_ret (v := .agg #[.int .i64 x, .int .i64 y, .int .i64 z, .int .i64 v]) (by simp [results, Tryz.results72, go_sem, Z]) rfl ⟨x, y, z, v, k + 1 + 1 + 1 + 1 + 1 + 2 + 2 + 2 + 2, rfl, ⟨x0, x1⟩, ⟨y0, y1⟩, ⟨z0, z1⟩, ⟨v0, v1⟩, ?_, by omega, ?_⟩
      · repeat (with_reducible refine St.setAt ?_ (by assumption) _)
        exact hS
      · repeat (with_reducible refine grown_setAt ?_ (by assumption) _)
        exact hG
end Go.Proofs.YtklggnglaeagpaaGreatDoor
