/- The reference's FilledOf. -/
import Derived.Test.YtjfppcejcbfngaaDoorFillP
namespace Go.Proofs.YtjfppcejcbfngaaDoor
open Go.RowKit
set_option linter.unusedVariables false

/-- the one before -/
def lastOf (L : List Int) (k : Nat) : Int := if k = 0 then 0 else L.getD (k - 1) 0
theorem lastOf_succ {L : List Int} {k : Nat} {x : Int} (h : L[k]? = some x) : lastOf L (k + 1) = x := by unfold lastOf; rw [if_neg (by omega)]; exact getD_of h

set_option maxHeartbeats 3200000 in
set_option maxRecDepth 100000 in
theorem filledOf_c (A : Option Addr) (n c : Nat) (l : List Int) (w : World) (h : RI 3 w A n l) (hn1 : 1 ≤ n) (hn : n ≤ 240) (hbd : ∀ x ∈ l, 0 ≤ x ∧ x ≤ 360000) (hsp : spErrL l 0 = 0) (hla : l.getLastD 0 ≠ 0) :
    Calls Tryd.prog 68 #[.slice A n c] w (RetLE w (riseL (fillL l)) (riseE (fillL l))) := by
  have hlen := h.len
  have hlast := last_at hlen (by omega)
  have hfl := fillL_len l
  have hlen' := Lib.hid hlen
  have hla' := Lib.hid hla
  have hsp' := Lib.hid hsp
  have hlast' := Lib.hid hlast
  have hfl' := Lib.hid hfl
  have hfb := Lib.hid (fun i hi => fill_bd hsp hla (i := i) hi)
  have hfm := Lib.hid (fun i hi => fill_mono hsp hla (i := i) hi)
  clear hlen hla hsp hlast hfl
  go_enter Tryd.func68, Tryd.ntmps68
  go_wp2_with fail
  refine (clone_c _ _ _ _ _ h (by omega)).mono ?_; rintro e w1 ⟨A1, c1, rfl, hownA, hBA⟩
  obtain ⟨bo, rfl, hbo⟩ := own_some hownA (by omega)
  go_wp2_with fail
  go_loopw [6, 5, 16] (fun fr a i wr => ∃ (k m : Nat) (f av : Int), k ≤ n ∧ m ≤ k ∧ i = .int .i64 k ∧ fr = .int .i64 f ∧ a = .int .i64 av ∧ f + 1 ≤ m ∧ m ≤ f + 1 ∧ 0 ≤ av ∧ av ≤ 360000 ∧ wr.ownsRow w.heap.size 3 1 (.slice (some ⟨bo, 0, none⟩) n c1) n (ints (mixK (fillAt l) l m)) ∧ Below w.heap.size w wr ∧ Hid (prevF l m = ((m : Int) - 1, av) ∧ (∀ t, m ≤ t → t < k → l.getD t 0 = 0) ∧ spErrL (l.drop k) av = 0)) (fun _ _ i _ => n - (intOf i).toNat)
  case atStart => exact ⟨0, 0, -1, 0, Nat.zero_le _, Nat.zero_le _, rfl, rfl, rfl, by omega, by omega, by omega, by omega, by rw [mixK_zero]; exact hownA, hBA, Lib.hid ⟨rfl, fun t _ h => absurd h (by omega), by rw [List.drop_zero]; exact hsp'.out⟩⟩
  case round =>
    clear hownA hBA
    obtain ⟨k, m, f, av, hk, hmk, rfl, rfl, rfl, hf1, hf2, ha0, ha1, hown, hB, hK⟩ := hrel
    by_cases hlt : k < n
    · have hr := h.below hB
      obtain ⟨b, off, x, rfl, _, hx, hcell⟩ := hr.at_ hlt
      have hxb := hbd x (mem_of_at hx)
      have hX := Lib.hid hx
      clear hr hx hbd
      by_cases hx0 : x = 0
      · have hK2 := Lib.hid (show prevF l m = ((m : Int) - 1, av) ∧ (∀ t, m ≤ t → t < k + 1 → l.getD t 0 = 0) ∧ spErrL (l.drop (k + 1)) av = 0 from by
          obtain ⟨h1, h2, h3⟩ := hK.out
          refine ⟨h1, fun t ht ht2 => ?_, ?_⟩
          · by_cases e : t = k
            · rw [e, getD_of hX.out]; exact hx0
            · exact h2 t ht (by omega)
          · have := (sp_step h3 hX.out).2.2
            rwa [if_neg (by simp [hx0])] at this)
        have hxt : (x == 0) = true := by simpa using hx0
        clear hK hx0
        go_wp2
        go_roundw
        case rel => exact ⟨k + 1, m, f, av, by omega, by omega, by go_num, rfl, rfl, hf1, hf2, ha0, ha1, hown, hB, hK2⟩
        case measure => simp [intOf]; omega
      · have hxt : (x == 0) = false := by simpa using hx0
        have hav : av < x := (sp_step hK.out.2.2 hX.out).2.1 hx0
        have hx0' := Lib.hid hx0
        have hxpos : 0 < x := by omega
        clear hx0
        go_wp2_with fail
        go_loopw [9] (fun i wr => ∃ (q : Nat) (ii : Int), m ≤ q ∧ q ≤ k ∧ i = .int .i64 ii ∧ f + ii = q ∧ wr.ownsRow w.heap.size 3 1 (.slice (some ⟨bo, 0, none⟩) n c1) n (ints (mixK (fillAt l) l q)) ∧ Below w.heap.size w wr) (fun i _ => n + 5 - (intOf i).toNat)
        case atStart => exact ⟨m, 1, Nat.le_refl _, hmk, rfl, by omega, hown, hB⟩
        case round =>
          clear hown hB hcell
          obtain ⟨q, ii, hmq, hqk, rfl, hfi, hown, hB⟩ := hrel
          by_cases hq : q < k
          · have hfe := Lib.hid (show fillAt l q = av + (x - av) * ii / (k - f) from by
              obtain ⟨h1, h2, h3⟩ := hK.out
              have := fillAt_eq h1 hmq hqk (getD_of hX.out) hx0'.out h2
              rw [show (m : Int) - 1 = f from by omega, show (q : Int) - f = ii from by omega] at this
              exact this)
            have m1 := mul_bd (a := x - av) (b := ii) (A := 360000) (B := 240) (by omega) (by omega) (by omega) (by omega)
            have m2 := frac_bd (D := x - av) (i := ii) (q := k - f) (by omega) (by omega) (by omega) (by omega)
            obtain ⟨u0, hco⟩ := own_cellI hown (j := q) (by omega)
            have hfo := hown.frozenAt q
            have hs := own_setI hown q (fillAt l q)
            rw [mixK_set] at hs
            have hs' := Lib.hid hs
            have hBs := fun v => hB.setCell (p := ⟨bo, q, none⟩) hbo v
            have hBs' := Lib.hid hBs
            clear hs hBs hown hB h
            go_wp2
            go_roundw
            case rel => exact ⟨q + 1, ii + 1, by omega, by omega, rfl, by omega, by have := hs'.out; rw [hfe.out] at this; exact this, hBs'.out _⟩
            case measure => simp [intOf]; omega
          · obtain rfl : q = k := by omega
            have hkn := Lib.hid (show fillAt l q = l.getD q 0 from by
              obtain ⟨h1, h2, h3⟩ := hK.out
              rw [getD_of hX.out]
              exact fillAt_known h1 hmk (getD_of hX.out) hx0'.out h2)
            rw [mixK_skip _ _ _ hkn.out] at hown
            have hK2 := Lib.hid (show prevF l (q + 1) = (((q + 1 : Nat) : Int) - 1, x) ∧ (∀ t, q + 1 ≤ t → t < q + 1 → l.getD t 0 = 0) ∧ spErrL (l.drop (q + 1)) x = 0 from by
              obtain ⟨h1, h2, h3⟩ := hK.out
              refine ⟨by rw [prevF_known (by rw [getD_of hX.out]; exact hx0'.out), getD_of hX.out]; congr 1; omega, fun t h1 h2 => absurd h2 (by omega), ?_⟩
              have := (sp_step h3 hX.out).2.2
              rwa [if_pos hx0'.out] at this)
            clear hK h
            go_wp2
            go_roundw
            case rel => exact ⟨q + 1, q + 1, q, x, by omega, by omega, by go_num, rfl, rfl, by omega, by omega, by omega, by omega, hown, hB, hK2⟩
            case measure => simp [intOf]; omega
    · obtain rfl : k = n := by omega
      have hmn : m = k := by
        rcases Nat.lt_or_ge m k with h1 | h1
        · exfalso
          have h2 := hK.out.2.1 (k - 1) (by omega) (by omega)
          rw [getD_of hlast'.out] at h2
          exact hla'.out h2
        · omega
      subst hmn
      have hL : mixK (fillAt l) l m = fillL l := by have := mixK_full (fillAt l) l; rw [hlen'.out] at this; rw [this]; unfold fillL; rw [hlen'.out]
      rw [hL] at hown
      have hr := R1.of_own hown (by omega)
      have hfb' := Lib.hid (show ∀ (i : Nat) (x : Int), (fillL l)[i]? = some x → 0 ≤ x ∧ x ≤ 360000 from fun i x hx => by
        have hi := (List.getElem?_eq_some_iff.mp hx).1
        rw [fillL_len] at hi
        rw [fillL_at hi] at hx
        obtain rfl := Option.some.inj hx
        exact (hfb.out i hi).2)
      have hfm' := Lib.hid (show ∀ (i : Nat) (y x : Int), (fillL l)[i]? = some y → (fillL l)[i + 1]? = some x → y ≤ x from fun i y x hy hx => by
        have hi := (List.getElem?_eq_some_iff.mp hx).1
        rw [fillL_len] at hi
        rw [fillL_at (by omega)] at hy
        rw [fillL_at hi] at hx
        obtain rfl := Option.some.inj hy
        obtain rfl := Option.some.inj hx
        exact hfm.out i hi)
      clear hL hK h hown hfb hfm
      generalize fillL l = L at *
      go_wp2_with fail
      go_loop [51] (fun i => ∃ (k : Nat), k ≤ m ∧ i = .int .i64 k ∧ Hid (risingF (L.drop k) (lastOf L k) = risingF L 0)) (fun i => m - (intOf i).toNat)
      case atStart => exact ⟨0, Nat.zero_le _, rfl, Lib.hid rfl⟩
      case round =>
        obtain ⟨k, hk, rfl, hF⟩ := hrel
        by_cases hlt : k < m
        · obtain ⟨b, off, x, e, _, hx, hcell⟩ := hr.at_ hlt
          have hS := rising_at (last := lastOf L k) hx
          rw [hF.out] at hS
          have hS' := Lib.hid hS
          obtain ⟨rfl, rfl⟩ : bo = b ∧ 0 = off := by injection e with e; injection e with e1 e2; exact ⟨e1, e2⟩
          rw [Nat.zero_add] at hcell
          have hx1 := hfb'.out k x hx
          have hX1 := Lib.hid (show lastOf L (k + 1) = x from lastOf_succ hx)
          by_cases hk0 : k = 0
          · have hl0 := Lib.hid (show lastOf L k = 0 from by rw [hk0]; rfl)
            have hk1 : (k : Int) < 1 := by omega
            clear hx hS e hk0
            by_cases hx0 : x = 0
            · have hxt : (x == 0) = true := by simpa using hx0
              have hR := Lib.hid (show risingF L 0 = false from by rw [hS'.out, hl0.out, if_pos (by omega)])
              clear hx0
              go_wp2
              go_ret2
              exact retLE_f hB hR.out
            · have hxt : (x == 0) = false := by simpa using hx0
              have hR := Lib.hid (show risingF (L.drop (k + 1)) (lastOf L (k + 1)) = risingF L 0 from by rw [hX1.out, hS'.out, hl0.out, if_neg (by omega)])
              clear hx0
              go_wp2
              go_round
              case rel => exact ⟨k + 1, by omega, by go_num, hR⟩
              case measure => simp [intOf]; omega
          · obtain ⟨b', off', y, e', _, hy, hcell'⟩ := hr.at_ (k := k - 1) (by omega)
            obtain ⟨rfl, rfl⟩ : bo = b' ∧ 0 = off' := by injection e' with e; injection e with e1 e2; exact ⟨e1, e2⟩
            rw [Nat.zero_add] at hcell'
            have hyx := hfm'.out (k - 1) y x hy (by rw [show k - 1 + 1 = k from by omega]; exact hx)
            have hy1 := hfb'.out _ _ hy
            have hl0 := Lib.hid (show lastOf L k = y from by have := lastOf_succ hy; rwa [show k - 1 + 1 = k from by omega] at this)
            have hk1 : 0 < k := by omega
            clear hx hS e hk0 hy e'
            by_cases hxy : x = y
            · have hxt : (x == y) = true := by simpa using hxy
              have hR := Lib.hid (show risingF L 0 = false from by rw [hS'.out, hl0.out, if_pos (by omega)])
              clear hxy
              go_wp2
              go_ret2
              exact retLE_f hB hR.out
            · have hxt : (x == y) = false := by simpa using hxy
              have hx0 : (x == 0) = false := by simp; omega
              have hR := Lib.hid (show risingF (L.drop (k + 1)) (lastOf L (k + 1)) = risingF L 0 from by rw [hX1.out, hS'.out, hl0.out, if_neg (by omega)])
              clear hxy
              go_wp2
              go_round
              case rel => exact ⟨k + 1, by omega, by go_num, hR⟩
              case measure => simp [intOf]; omega
        · have hF' := Lib.hid (by have := hF.out; rw [drop_end (by have := hfl'.out; have := hlen'.out; omega)] at this; exact this.symm)
          clear hF
          go_wp2
          go_ret2
          exact retLE_t hr hB hF'.out
end Go.Proofs.YtjfppcejcbfngaaDoor
