/- timing.Legs. -/
import Derived.Test.YtjfppcejcbfngaaDoorLegs
import Derived.IntWalk
namespace Go.Proofs.YtjfppcejcbfngaaDoor
open Go.RowKit
set_option linter.unusedVariables false

set_option maxHeartbeats 1600000 in
set_option maxRecDepth 100000 in
theorem legs_c (r : Race) (A : Option Addr) (n c : Nat) (l : List Int) (w : World) (h : RI 3 w A n l) (h0 : checkSp r l = 0) :
    Calls Tryd.prog 63 #[r.val, .slice A n c] w (RetLE w (legL (legsR r l)) (legE (legsR r l))) := by
  obtain ⟨hn1, hn, hbd⟩ := splits_bd h0
  obtain ⟨hre, _⟩ := checkSp_ok h0
  obtain ⟨_, _, _, _, _, hco, _, _, hm1, hm2, _⟩ := raceErr_ok hre
  obtain ⟨e, g, he, hg, he1, he2, hg1, hg2, hlen, hR⟩ := len_eq h0
  rw [h.len] at hn hn1 hlen
  generalize legsR r l = R at *
  have Hs := fun W h => checkSplits_c r A n c l W h
  rw [h0] at Hs
  have hR' := Lib.hid hR
  have hlen' := Lib.hid hlen
  obtain ⟨key, metres, stroke, course, legs, sex, young, old⟩ := r
  dsimp only [Race.val, Race.cells] at *
  have hc0 : course ≠ 0 := by omega
  have Hs' := Lib.hid Hs
  clear hR hlen h0 hre hg Hs
  go_enter Tryd.func63, Tryd.ntmps63
  go_wp2_with fail
  refine (Hs'.out _ (h.alloc _)).mono ?_; rintro e w0 ⟨rfl, hb0⟩; have hB0 := below_box hb0
  have hcl := (blk_facts (blk_below (heap_alloc_new w (.cells #[.string key, .int .i64 metres, .int .i64 stroke, .int .i64 course, .int .i64 legs, .int .i64 sex, .int .i64 young, .int .i64 old] 27)) hb0)).1
  go_wp2_with fail
  rw [he]
  clear he hcl hb0
  go_loopw [9, 8, 10] (fun out la i wr => ∃ (j q : Nat) (last : Int) (acc : List Int), j ≤ g ∧ Hid (q + 1 = e + e * j) ∧ i = .int .i64 q ∧ la = .int .i64 last ∧ 0 ≤ last ∧ last ≤ 360000 ∧ q ≤ 300 ∧ wr.ownsRow w.heap.size 3 1 out j (ints acc) ∧ Below w.heap.size w wr ∧ Hid ((legsF l e (g - j) q last).map (fun r => acc ++ r) = R)) (fun _ _ i _ => 1000 - (intOf i).toNat)
  case atStart => exact ⟨0, e - 1, 0, [], Nat.zero_le _, Lib.hid (by omega), by first | rfl | (congr 1; omega), rfl, by omega, by omega, by omega, World.ownsRow_nil _ _ _ _, hB0, Lib.hid (by rw [hR'.out]; simp)⟩
  case round =>
    obtain ⟨j, q, last, acc, hj, hq, rfl, rfl, hla0, hla1, hq3, hown, hB, hK⟩ := hrel
    by_cases hlt : q < n
    · have hr := h.below hB
      obtain ⟨b, off, x, rfl, _, hx, hcell⟩ := hr.at_ hlt
      have hxb := hbd x (mem_of_at hx)
      have hz := hB.size
      have hjg : j < g := by
        have h1 := hq.out; have h2 := hlen'.out
        rcases Nat.lt_or_ge j g with h3 | h3
        · exact h3
        · have : e * g ≤ e * j := Nat.mul_le_mul_left e h3
          omega
      have hS0 := Lib.hid (fun hx0 => legsF_zero (l := l) (e := e) (m := g - j - 1) (last := last) hx hx0)
      have hS1 := Lib.hid (fun hx0 => legsF_step (l := l) (e := e) (m := g - j - 1) (last := last) hx hx0)
      have eg : g - j = (g - j - 1) + 1 := by omega
      rw [eg] at hK
      have hX := Lib.hid hx
      clear hr hx hbd eg
      by_cases hx0 : x = 0
      · have hN := Lib.hid (by have := hK.out; rw [hS0.out hx0] at this; exact this.symm)
        have hxt : (x == 0) = true := by simpa using hx0
        clear hS0 hS1 hK hx0
        go_wp2
        go_ret2
        exact retLE_noleg hB hN.out
      · have hN := Lib.hid (by have := hK.out; rw [hS1.out hx0, map_app] at this; exact this)
        have hxt : (x == 0) = false := by simpa using hx0
        clear hS0 hS1 hK hx0
        go_wp2_with fail
        have hbw : b < w.heap.size := by obtain ⟨b', off', x', e', hl, _⟩ := h.at_ hlt; injection e' with e'; injection e' with e1; omega
        obtain ⟨Ao, co, rfl⟩ := own_shape hown
        have hne : (Value.slice Ao j co).ownBlock ≠ some b := fun e => by have := own_row_lt hown b e; omega
        have hwr : IntKind.i64.wrap (x - last) = x - last := IntWalk.i64_in _ (by omega)
        obtain ⟨i0, hi0, hz0, hz1, hz2⟩ := info_parts info_int
        go_region_held3 (fun w' => w'.cell? ⟨b, off + q, none⟩ = some (.int .i64 x))
          (first
            | go_keep
            | (rw [hgrow.cell_far _ (by simp; omega) (Ne.symm hne)]; assumption))
          ((refine step_append_lies _ (by rfl) _ _ _ (by rfl) w.heap.size 3 i0 _ 1 8 Tryd.underlying22 hi0 hz0 hz1 hz2 rfl (by omega) (.slice Ao j co) j (ints acc) (by rfl) ((hown.alloc _).drew)
              ⟨wr.heap.size, 0, none⟩ 1 1 [.int .i64 (x - last)] (by rfl) (by rfl) (World.news_of_block (cs := #[.int .i64 (x - last)]) (t := 3) (fr := (0, 0)) (heap_alloc_new wr _)) (by simp [Value.oneCell'])
              (by omega) (by unfold maxLen; omega) (by omega) (by simp; omega) (wr.heap.size + 1) (by simp) ?_; intro gg cap w1 hown1 hgrow hat hlt))
        have hB4 : Below w.heap.size w w1 := below_own (w := (wr.alloc (.cells #[.int .i64 (x - last)] 3)).drew) (below_drewN (hB.alloc hz _) 1) ((hown.alloc _).drew) hgrow (by simp; omega) (Nat.le_refl _)
        have hown4 : w1.ownsRow w.heap.size 3 1 (.slice (some ⟨gg, 0, none⟩) (j + 1) cap) (j + 1) (ints (acc ++ [x - last])) := by rw [ints_app]; exact hown1
        clear hown1 hgrow hat hlt hwr
        go_wp2
        go_roundw
        case rel =>
          refine ⟨j + 1, q + e, x, acc ++ [x - last], by omega, Lib.hid ?_, by go_num, rfl, by omega, by omega, by omega, hown4, hB4, Lib.hid ?_⟩
          · have := hq.out; rw [Nat.mul_add]; omega
          · have := hN.out; rw [show g - (j + 1) = g - j - 1 from by omega]; exact this
        case measure => simp [intOf]; omega
    · have hjg : j = g := by
        have h1 := hq.out; have h2 := hlen'.out
        rcases Nat.lt_or_ge j g with h3 | h3
        · have := leg_at he1 h3
          omega
        · omega
      subst hjg
      have hL := Lib.hid (by have := hK.out; rw [Nat.sub_self] at this; simpa [legsF] using this.symm)
      obtain ⟨A', c', rfl⟩ := own_shape hown
      have hr := R1.of_own hown (by omega)
      clear h hK hown
      go_wp2
      go_ret2
      exact retLE_leg hr hB hL.out
end Go.Proofs.YtjfppcejcbfngaaDoor
