/- timing.Fill. -/
import Derived.Test.YtjfppcejcbfngaaDoorFillV
import Derived.Test.YtjfppcejcbfngaaDoorLegs
import Derived.Test.YtjfppcejcbfngaaDoorSplits2
namespace Go.Proofs.YtjfppcejcbfngaaDoor
open Go.RowKit
set_option linter.unusedVariables false

theorem own_cellI {w : World} {base b n c : Nat} {L : List Int} (h : w.ownsRow base 3 1 (.slice (some ⟨b, 0, none⟩) n c) n (ints L)) {j : Nat} (hj : j < n) : ∃ u : Int, w.cell? ⟨b, j, none⟩ = some (.int .i64 u) := by
  have hl := h.1
  rw [ints_len, Nat.mul_one] at hl
  obtain ⟨u, hu⟩ := at_of_lt (l := L) (k := j) (by omega)
  exact ⟨u, by rw [h.cellAt j (by omega), ints_at, hu]; rfl⟩
theorem own_setI {w : World} {base b n c : Nat} {L : List Int} (h : w.ownsRow base 3 1 (.slice (some ⟨b, 0, none⟩) n c) n (ints L)) (j : Nat) (x : Int) : (w.setCell ⟨b, j, none⟩ (.int .i64 x)).ownsRow base 3 1 (.slice (some ⟨b, 0, none⟩) n c) n (ints (L.set j x)) := by
  have := (h.stored j (.int .i64 x)).1
  rwa [ints_set] at this

set_option maxHeartbeats 3200000 in
set_option maxRecDepth 100000 in
theorem fill_c (r : Race) (A : Option Addr) (n c : Nat) (l : List Int) (w : World) (h : RI 3 w A n l) (h0 : checkSp r l = 0) :
    Calls Tryd.prog 65 #[r.val, .slice A n c] w (RetLE w (riseL (fillL l)) (riseE (fillL l))) := by
  obtain ⟨hn1, hn, hbd⟩ := splits_bd h0
  obtain ⟨hre, hse⟩ := checkSp_ok h0
  obtain ⟨_, hsp, hla⟩ := splitsErr_ok hse
  have Hs := fun W h => checkSplits_c r A n c l W h
  rw [h0] at Hs
  have hlen := h.len
  have hlast := last_at hlen (by omega)
  have hfl := fillL_len l
  rw [hlen] at hn hn1
  have hlen' := Lib.hid hlen
  have hla' := Lib.hid hla
  have hsp' := Lib.hid hsp
  have Hs' := Lib.hid Hs
  have hlast' := Lib.hid hlast
  have hfl' := Lib.hid hfl
  clear Hs h0 hre hse hlen hla hsp hlast hfl
  obtain ⟨key, metres, stroke, course, legs, sex, young, old⟩ := r
  dsimp only [Race.val, Race.cells] at *
  go_enter Tryd.func65, Tryd.ntmps65
  go_wp2_with fail
  refine (Hs'.out _ (h.alloc _)).mono ?_; rintro e w0 ⟨rfl, hb0⟩; have hB0 := below_box hb0
  go_wp2_with fail
  refine (clone_c _ _ _ _ _ (h.below hB0) (by omega)).mono ?_; rintro e w1 ⟨A1, c1, rfl, hown1, hB1⟩
  have hownA := own_mono (base' := w.heap.size) hown1 hB0.size
  have hBA := below_next hB0 hB1
  obtain ⟨bo, rfl, hbo⟩ := own_some hownA (by omega)
  clear hb0 hB0 hown1 hB1
  go_wp2_with fail
  go_loopw [8, 9, 26] (fun fr a i wr => ∃ (k m : Nat) (f av : Int), k ≤ n ∧ m ≤ k ∧ i = .int .i64 k ∧ fr = .int .i64 f ∧ a = .int .i64 av ∧ f + 1 ≤ m ∧ m ≤ f + 1 ∧ 0 ≤ av ∧ av ≤ 360000 ∧ wr.ownsRow w.heap.size 3 1 (.slice (some ⟨bo, 0, none⟩) n c1) n (ints (mixK (fillAt l) l m)) ∧ Below w.heap.size w wr ∧ Hid (prevF l m = ((m : Int) - 1, av) ∧ (∀ t, m ≤ t → t < k → l.getD t 0 = 0) ∧ spErrL (l.drop k) av = 0)) (fun _ _ i _ => n - (intOf i).toNat)
  case atStart => exact ⟨0, 0, -1, 0, Nat.zero_le _, Nat.zero_le _, rfl, rfl, rfl, by omega, by omega, by omega, by omega, by rw [mixK_zero]; exact hownA, hBA, Lib.hid ⟨rfl, fun t _ h => absurd h (by omega), by rw [List.drop_zero]; exact hsp'.out⟩⟩
  case round =>
    clear hownA hBA
    obtain ⟨k, m, f, av, hk, hmk, rfl, rfl, rfl, hf1, hf2, ha0, ha1, hown, hB, hK⟩ := hrel
    by_cases hlt : k < n
    · have hr := h.below hB
      obtain ⟨b, off, x, rfl, _, hx, hcell⟩ := hr.at_ hlt
      have hxb := hbd x (mem_of_at hx)
      have hX := Lib.hid hx
      clear hr hx hbd
      by_cases hx0 : x = 0
      · have hK2 := Lib.hid (show prevF l m = ((m : Int) - 1, av) ∧ (∀ t, m ≤ t → t < k + 1 → l.getD t 0 = 0) ∧ spErrL (l.drop (k + 1)) av = 0 from by
          obtain ⟨h1, h2, h3⟩ := hK.out
          refine ⟨h1, fun t ht ht2 => ?_, ?_⟩
          · by_cases e : t = k
            · rw [e, getD_of hX.out]; exact hx0
            · exact h2 t ht (by omega)
          · have := (sp_step h3 hX.out).2.2
            rwa [if_neg (by simp [hx0])] at this)
        have hxt : (x == 0) = true := by simpa using hx0
        clear hK hx0
        go_wp2
        go_roundw
        case rel => exact ⟨k + 1, m, f, av, by omega, by omega, by go_num, rfl, rfl, hf1, hf2, ha0, ha1, hown, hB, hK2⟩
        case measure => simp [intOf]; omega
      · have hxt : (x == 0) = false := by simpa using hx0
        have hav : av < x := (sp_step hK.out.2.2 hX.out).2.1 hx0
        have hx0' := Lib.hid hx0
        have hxpos : 0 < x := by omega
        clear hx0
        go_wp2_with fail
        go_loopw [12] (fun i wr => ∃ (q : Nat), m ≤ q ∧ q ≤ k ∧ i = .int .i64 q ∧ wr.ownsRow w.heap.size 3 1 (.slice (some ⟨bo, 0, none⟩) n c1) n (ints (mixK (fillAt l) l q)) ∧ Below w.heap.size w wr) (fun i _ => n - (intOf i).toNat)
        case atStart => exact ⟨m, Nat.le_refl _, hmk, by congr 1; omega, hown, hB⟩
        case round =>
          clear hown hB hcell
          obtain ⟨q, hmq, hqk, rfl, hown, hB⟩ := hrel
          by_cases hq : q < k
          · have hfe := Lib.hid (show fillAt l q = av + (x - av) * (q - f) / (k - f) from by
              obtain ⟨h1, h2, h3⟩ := hK.out
              have := fillAt_eq h1 hmq hqk (getD_of hX.out) hx0'.out h2
              rw [show (m : Int) - 1 = f from by omega] at this
              exact this)
            have m1 := mul_bd (a := x - av) (b := (q : Int) - f) (A := 360000) (B := 240) (by omega) (by omega) (by omega) (by omega)
            have m2 := frac_bd (D := x - av) (i := (q : Int) - f) (q := k - f) (by omega) (by omega) (by omega) (by omega)
            obtain ⟨u0, hco⟩ := own_cellI hown (j := q) (by omega)
            have hfo := hown.frozenAt q
            have hs := own_setI hown q (fillAt l q)
            rw [mixK_set] at hs
            have hs' := Lib.hid hs
            have hBs := fun v => hB.setCell (p := ⟨bo, q, none⟩) hbo v
            have hBs' := Lib.hid hBs
            clear hs hBs hown hB h
            go_wp2
            go_roundw
            case rel => exact ⟨q + 1, by omega, by omega, by go_num, by have := hs'.out; rw [hfe.out] at this; exact this, hBs'.out _⟩
            case measure => simp [intOf]; omega
          · obtain rfl : q = k := by omega
            have hkn := Lib.hid (show fillAt l q = l.getD q 0 from by
              obtain ⟨h1, h2, h3⟩ := hK.out
              rw [getD_of hX.out]
              exact fillAt_known h1 hmk (getD_of hX.out) hx0'.out h2)
            rw [mixK_skip _ _ _ hkn.out] at hown
            have hK2 := Lib.hid (show prevF l (q + 1) = (((q + 1 : Nat) : Int) - 1, x) ∧ (∀ t, q + 1 ≤ t → t < q + 1 → l.getD t 0 = 0) ∧ spErrL (l.drop (q + 1)) x = 0 from by
              obtain ⟨h1, h2, h3⟩ := hK.out
              refine ⟨by rw [prevF_known (by rw [getD_of hX.out]; exact hx0'.out), getD_of hX.out]; congr 1; omega, fun t h1 h2 => absurd h2 (by omega), ?_⟩
              have := (sp_step h3 hX.out).2.2
              rwa [if_pos hx0'.out] at this)
            clear hK h
            go_wp2
            go_roundw
            case rel => exact ⟨q + 1, q + 1, q, x, by omega, by omega, by go_num, rfl, rfl, by omega, by omega, by omega, by omega, hown, hB, hK2⟩
            case measure => simp [intOf]; omega
    · obtain rfl : k = n := by omega
      have hmn : m = k := by
        rcases Nat.lt_or_ge m k with h1 | h1
        · exfalso
          have h2 := hK.out.2.1 (k - 1) (by omega) (by omega)
          rw [getD_of hlast'.out] at h2
          exact hla'.out h2
        · omega
      subst hmn
      have hL : mixK (fillAt l) l m = fillL l := by have := mixK_full (fillAt l) l; rw [hlen'.out] at this; rw [this]; unfold fillL; rw [hlen'.out]
      rw [hL] at hown
      have hr := R1.of_own hown (by omega)
      clear hL hK h hown
      generalize fillL l = L at *
      go_wp2_with fail
      go_loop [13, 61] (fun t i => ∃ (k : Nat) (s : Int), k ≤ m ∧ i = .int .i64 k ∧ t = .int .i64 s ∧ Hid (risingF (L.drop k) s = risingF L 0)) (fun _ i => m - (intOf i).toNat)
      case atStart => exact ⟨0, 0, Nat.zero_le _, rfl, rfl, Lib.hid rfl⟩
      case round =>
        obtain ⟨k, s, hk, rfl, rfl, hF⟩ := hrel
        by_cases hlt : k < m
        · obtain ⟨b, off, x, e, _, hx, hcell⟩ := hr.at_ hlt
          have hS := rising_at (last := s) hx
          rw [hF.out] at hS
          have hS' := Lib.hid hS
          obtain ⟨rfl, rfl⟩ : bo = b ∧ 0 = off := by injection e with e; injection e with e1 e2; exact ⟨e1, e2⟩
          rw [Nat.zero_add] at hcell
          clear hx hS e
          go_wp2
          · go_ret2
            exact retLE_f hB (by rw [hS'.out, if_pos (by first | omega | (simp_all; done) | (simp_all; omega))])
          · go_round
            case rel => exact ⟨k + 1, x, by omega, by go_num, rfl, Lib.hid (by rw [hS'.out, if_neg (by first | omega | (simp_all; done) | (simp_all; omega))])⟩
            case measure => simp [intOf]; omega
        · have hF' := Lib.hid (by have := hF.out; rw [drop_end (by have := hfl'.out; have := hlen'.out; omega)] at this; exact this.symm)
          clear hF
          go_wp2
          go_ret2
          exact retLE_t hr hB hF'.out
end Go.Proofs.YtjfppcejcbfngaaDoor
