/- The stream's race that is nearly always right. -/
import Derived.Test.YtnkhdofcmanipaaGreatDoorFaDraws
import Derived.Test.YtnkhdofcmanipaaGreatDoorFaEnv
namespace Go.Proofs.YtnkhdofcmanipaaGreatDoor
open Go.RowKit
set_option linter.unusedVariables false

def swumRace (zs : Zs) (k : Nat) : Race × Nat :=
  if nextV zs (k + 9) 15 == 0 then
    if nextV zs (k + 10) 5 == 0 then ({ (plainRace zs k).1 with key := pickV zs (k + 11) [⟨#[]⟩, ra], course := pickV zs (k + 12) [25, 50, 33, 0] }, k + 13)
    else if nextV zs (k + 10) 5 == 1 then ({ (plainRace zs k).1 with stroke := oddV zs (k + 11) 1 5, sex := oddV zs (k + 13) 0 2 }, k + 15)
    else if nextV zs (k + 10) 5 == 2 then ({ (plainRace zs k).1 with metres := pickV zs (k + 11) [0, 30, 100, 1500, 1525, 50] }, k + 12)
    else if nextV zs (k + 10) 5 == 3 then ({ (plainRace zs k).1 with legs := oddV zs (k + 11) 1 4, stroke := pickV zs (k + 13) [(plainRace zs k).1.stroke, 5] }, k + 14)
    else ({ (plainRace zs k).1 with young := oddV zs (k + 11) 0 20, old := oddV zs (k + 13) 10 120 }, k + 15)
  else ((plainRace zs k).1, k + 10)
theorem swumRace_k (zs : Zs) (k : Nat) : (swumRace zs k).2 ≤ k + 15 := by unfold swumRace; (repeat' split) <;> simp

set_option maxHeartbeats 3200000 in
theorem swumRace_c (g : Nat) (zs : Zs) (k : Nat) (w : World) (h : St w g zs k) (hk : k + 20 ≤ 1099511627776) :
    Calls Tryz.prog 19 #[.pointer (some ⟨g, 0, none⟩)] w fun e w' => e = .returned (swumRace zs k).1.val ∧ St w' g zs (swumRace zs k).2 ∧ w.grownBy w' (some g) := by
  have E0 := Env1.new h #[.string ⟨#[]⟩, .int .i64 0, .int .i64 0, .int .i64 0, .int .i64 0, .int .i64 0, .int .i64 0, .int .i64 0] 51
  go_enter Tryz.func19, Tryz.ntmps19
  go_wp2_with fail
  refine (plainRace_c g zs k _ E0.st (by omega)).mono ?_; rintro e w1 ⟨rfl, s1, g1⟩
  have E1 := E0.call s1 g1
  rw [plainRace_2] at E1
  clear E0 s1 g1
  have hX : swumRace zs k = swumRace zs k := rfl
  conv at hX => rhs; unfold swumRace
  generalize hp : (plainRace zs k).1 = p at hX
  clear hp
  obtain ⟨key, metres, stroke, course, legs, sex, young, old⟩ := p
  dsimp only at hX
  have E2 := E1.box #[.string key, .int .i64 metres, .int .i64 stroke, .int .i64 course, .int .i64 legs, .int .i64 sex, .int .i64 young, .int .i64 old] 51
  have HX := Lib.hid hX
  clear hX
  dsimp only [Race.val, Race.cells]
  go_wp2_with fail
  refine (flip_c g zs (k + 9) _ _ E2.E.st (by omega) (by omega) (by omega)).mono ?_; rintro e w2 ⟨rfl, s2, g2⟩
  have E3 := E2.call s2 g2
  clear E2 s2 g2 E1
  by_cases hf : (nextV zs (k + 9) 15 == 0) = true
  · have hX := HX.out; clear HX
    rw [if_pos hf] at hX
    have HX := Lib.hid hX; clear hX
    go_wp2_with fail
    refine (next_c g zs (k + 10) _ _ E3.E.st (by omega) (by omega) (by omega)).mono ?_; rintro e w3 ⟨rfl, s3, g3⟩
    have E4 := E3.call s3 g3
    clear E3 s3 g3
    have hX := HX.out; clear HX
    by_cases h0 : (nextV zs (k + 10) 5 == 0) = true
    · rw [if_pos h0] at hX; have HX := Lib.hid hX; clear hX
      go_wp2_with fail
      refine (some_c g zs (k + 11) _ _ _ [⟨#[]⟩, ra] _ (E4.tmp _).E.st (by omega) (R1.litAt _ _ _ _ (by simp) rfl (le_big (by simp))) (by simp)).mono ?_; rintro e w4 ⟨rfl, s4, g4⟩
      have E5 := (E4.tmp _).call s4 g4
      go_wp2_with fail
      refine (pick_c g zs (k + 12) _ _ _ [25, 50, 33, 0] _ (E5.tmp _).E.st (by omega) (R1.litAt _ _ _ _ (by simp) rfl (le_big (by simp))) (by simp)).mono ?_; rintro e w5 ⟨rfl, s5, g5⟩
      have E6 := (E5.tmp _).call s5 g5
      obtain ⟨C, F⟩ := E6.facts
      obtain ⟨Z, Y⟩ := E6.E.facts
      have hS := E6.E.st
      have hG := E6.E.gr
      have hl1 : g < w.heap.size := E6.E.glt
      have hl0 : w.heap.size < w1.heap.size := E6.ne
      have hl2 : g < w1.heap.size := by omega
      have hl3 : w.heap.size ≤ w1.heap.size := by omega
      have hl4 : w.heap.size ≤ w.heap.size := Nat.le_refl _
      clear E4 E5 E6 s4 g4 s5 g5
      go_wp2
      refine bodyPost_ret (v := .agg #[.string (pickV zs (k + 11) [⟨#[]⟩, ra]), .int .i64 (metres), .int .i64 (stroke), .int .i64 (pickV zs (k + 12) [25, 50, 33, 0]), .int .i64 (legs), .int .i64 (sex), .int .i64 (young), .int .i64 (old)]) (by simp [results, Tryz.results19, go_sem, Z]) rfl ⟨by rw [HX.out]; rfl, ?_, ?_⟩
      · rw [HX.out]; repeat (with_reducible refine St.setAt ?_ (by assumption) _)
        exact hS
      · repeat (with_reducible refine grown_setAt ?_ (by assumption) _)
        exact hG
    rw [if_neg h0] at hX
    by_cases h1 : (nextV zs (k + 10) 5 == 1) = true
    · rw [if_pos h1] at hX; have HX := Lib.hid hX; clear hX
      go_wp2_with fail
      refine (odd_c g zs (k + 11) _ _ _ E4.E.st (by omega) (by omega) (by omega) (by omega)).mono ?_; rintro e w4 ⟨rfl, s4, g4⟩
      have E5 := E4.call s4 g4
      go_wp2_with fail
      refine (odd_c g zs (k + 13) _ _ _ E5.E.st (by omega) (by omega) (by omega) (by omega)).mono ?_; rintro e w5 ⟨rfl, s5, g5⟩
      have E6 := E5.call s5 g5
      obtain ⟨C, F⟩ := E6.facts
      obtain ⟨Z, Y⟩ := E6.E.facts
      have hS := E6.E.st
      have hG := E6.E.gr
      have hl1 : g < w.heap.size := E6.E.glt
      have hl0 : w.heap.size < w1.heap.size := E6.ne
      have hl2 : g < w1.heap.size := by omega
      have hl3 : w.heap.size ≤ w1.heap.size := by omega
      have hl4 : w.heap.size ≤ w.heap.size := Nat.le_refl _
      clear E4 E5 E6 s4 g4 s5 g5
      go_wp2
      refine bodyPost_ret (v := .agg #[.string (key), .int .i64 (metres), .int .i64 (oddV zs (k + 11) 1 5), .int .i64 (course), .int .i64 (legs), .int .i64 (oddV zs (k + 13) 0 2), .int .i64 (young), .int .i64 (old)]) (by simp [results, Tryz.results19, go_sem, Z]) rfl ⟨by rw [HX.out]; rfl, ?_, ?_⟩
      · rw [HX.out]; repeat (with_reducible refine St.setAt ?_ (by assumption) _)
        exact hS
      · repeat (with_reducible refine grown_setAt ?_ (by assumption) _)
        exact hG
    rw [if_neg h1] at hX
    by_cases h2 : (nextV zs (k + 10) 5 == 2) = true
    · rw [if_pos h2] at hX; have HX := Lib.hid hX; clear hX
      go_wp2_with fail
      refine (pick_c g zs (k + 11) _ _ _ [0, 30, 100, 1500, 1525, 50] _ (E4.tmp _).E.st (by omega) (R1.litAt _ _ _ _ (by simp) rfl (le_big (by simp))) (by simp)).mono ?_; rintro e w5 ⟨rfl, s5, g5⟩
      have E6 := (E4.tmp _).call s5 g5
      obtain ⟨C, F⟩ := E6.facts
      obtain ⟨Z, Y⟩ := E6.E.facts
      have hS := E6.E.st
      have hG := E6.E.gr
      have hl1 : g < w.heap.size := E6.E.glt
      have hl0 : w.heap.size < w1.heap.size := E6.ne
      have hl2 : g < w1.heap.size := by omega
      have hl3 : w.heap.size ≤ w1.heap.size := by omega
      have hl4 : w.heap.size ≤ w.heap.size := Nat.le_refl _
      clear E4 E6 s5 g5
      go_wp2
      refine bodyPost_ret (v := .agg #[.string (key), .int .i64 (pickV zs (k + 11) [0, 30, 100, 1500, 1525, 50]), .int .i64 (stroke), .int .i64 (course), .int .i64 (legs), .int .i64 (sex), .int .i64 (young), .int .i64 (old)]) (by simp [results, Tryz.results19, go_sem, Z]) rfl ⟨by rw [HX.out]; rfl, ?_, ?_⟩
      · rw [HX.out]; repeat (with_reducible refine St.setAt ?_ (by assumption) _)
        exact hS
      · repeat (with_reducible refine grown_setAt ?_ (by assumption) _)
        exact hG
    rw [if_neg h2] at hX
    by_cases h3 : (nextV zs (k + 10) 5 == 3) = true
    · rw [if_pos h3] at hX; have HX := Lib.hid hX; clear hX
      have hw := E4.ne
      obtain ⟨C4, F4⟩ := E4.facts
      go_wp2_with fail
      go_region_with (first
        | (go_at_call 48; refine (odd_c g zs (k + 11) _ _ _ (by first | exact E4.drew.E.st | exact ((E4.tmp _).drew).E.st) (by omega) (by omega) (by omega) (by omega)).mono ?_; rintro e w4 ⟨rfl, s4, g4⟩; first | (have E5 := E4.drew.call s4 g4; obtain ⟨C5, F5⟩ := E5.facts) | (have R5 := (R1.lit (enc := Value.int .i64) (e := 3) w3 #[.int .i64 stroke, .int .i64 5] [stroke, 5] rfl (le_big (by simp))).drew.keep (T := 25) (by decide) ((E4.tmp (.cells #[.int .i64 stroke, .int .i64 5] 3)).drew.E.st.keep g4); have E5 := ((E4.tmp _).drew).call s4 g4; obtain ⟨C5, F5⟩ := E5.facts))
        | (go_at_call 21; refine (pick_c g zs (k + 13) _ _ _ [stroke, 5] _ (by first | exact E5.E.st | exact (E5.tmp _).E.st) (by omega) (by first | exact R5 | exact R1.litAt _ _ _ _ (by simp) rfl (le_big (by simp))) (by simp)).mono ?_; rintro e w5 ⟨rfl, s5, g5⟩; first | (have E6 := E5.call s5 g5; obtain ⟨C6, F6⟩ := E6.facts) | (have E6 := (E5.tmp _).call s5 g5; obtain ⟨C6, F6⟩ := E6.facts)))
      all_goals
        clear C4 F4 C5 F5 C6 F6
        obtain ⟨C, F⟩ := E6.facts
        obtain ⟨Z, Y⟩ := E6.E.facts
        have hS := E6.E.st
        have hG := E6.E.gr
        have hl1 : g < w.heap.size := E6.E.glt
        have hl0 : w.heap.size < w1.heap.size := E6.ne
        have hl2 : g < w1.heap.size := by omega
        have hl3 : w.heap.size ≤ w1.heap.size := by omega
        have hl4 : w.heap.size ≤ w.heap.size := Nat.le_refl _
        clear E4 E5 E6
        go_wp2
        refine bodyPost_ret (v := .agg #[.string (key), .int .i64 (metres), .int .i64 (pickV zs (k + 13) [stroke, 5]), .int .i64 (course), .int .i64 (oddV zs (k + 11) 1 4), .int .i64 (sex), .int .i64 (young), .int .i64 (old)]) (by simp [results, Tryz.results19, go_sem, Z]) rfl ⟨by rw [HX.out]; rfl, ?_, ?_⟩
        · rw [HX.out]; repeat (with_reducible refine St.setAt ?_ (by assumption) _)
          exact hS
        · repeat (with_reducible refine grown_setAt ?_ (by assumption) _)
          exact hG
    · rw [if_neg h3] at hX; have HX := Lib.hid hX; clear hX
      go_wp2_with fail
      refine (odd_c g zs (k + 11) _ _ _ E4.E.st (by omega) (by omega) (by omega) (by omega)).mono ?_; rintro e w4 ⟨rfl, s4, g4⟩
      have E5 := E4.call s4 g4
      go_wp2_with fail
      refine (odd_c g zs (k + 13) _ _ _ E5.E.st (by omega) (by omega) (by omega) (by omega)).mono ?_; rintro e w5 ⟨rfl, s5, g5⟩
      have E6 := E5.call s5 g5
      obtain ⟨C, F⟩ := E6.facts
      obtain ⟨Z, Y⟩ := E6.E.facts
      have hS := E6.E.st
      have hG := E6.E.gr
      have hl1 : g < w.heap.size := E6.E.glt
      have hl0 : w.heap.size < w1.heap.size := E6.ne
      have hl2 : g < w1.heap.size := by omega
      have hl3 : w.heap.size ≤ w1.heap.size := by omega
      have hl4 : w.heap.size ≤ w.heap.size := Nat.le_refl _
      clear E4 E5 E6 s4 g4 s5 g5
      go_wp2
      refine bodyPost_ret (v := .agg #[.string (key), .int .i64 (metres), .int .i64 (stroke), .int .i64 (course), .int .i64 (legs), .int .i64 (sex), .int .i64 (oddV zs (k + 11) 0 20), .int .i64 (oddV zs (k + 13) 10 120)]) (by simp [results, Tryz.results19, go_sem, Z]) rfl ⟨by rw [HX.out]; rfl, ?_, ?_⟩
      · rw [HX.out]; repeat (with_reducible refine St.setAt ?_ (by assumption) _)
        exact hS
      · repeat (with_reducible refine grown_setAt ?_ (by assumption) _)
        exact hG
  · have hX := HX.out; clear HX
    rw [if_neg hf] at hX; have HX := Lib.hid hX; clear hX
    obtain ⟨C, F⟩ := E3.facts
    obtain ⟨Z, Y⟩ := E3.E.facts
    have hS := E3.E.st
    have hG := E3.E.gr
    have hl1 : g < w.heap.size := E3.E.glt
    have hl0 : w.heap.size < w1.heap.size := E3.ne
    have hl2 : g < w1.heap.size := by omega
    have hl3 : w.heap.size ≤ w1.heap.size := by omega
    have hl4 : w.heap.size ≤ w.heap.size := Nat.le_refl _
    clear E3
    go_wp2
    refine bodyPost_ret (v := .agg #[.string (key), .int .i64 (metres), .int .i64 (stroke), .int .i64 (course), .int .i64 (legs), .int .i64 (sex), .int .i64 (young), .int .i64 (old)]) (by simp [results, Tryz.results19, go_sem, Z]) rfl ⟨by rw [HX.out]; rfl, ?_, ?_⟩
    · rw [HX.out]; repeat (with_reducible refine St.setAt ?_ (by assumption) _)
      exact hS
    · repeat (with_reducible refine grown_setAt ?_ (by assumption) _)
      exact hG
end Go.Proofs.YtnkhdofcmanipaaGreatDoor
