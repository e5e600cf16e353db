/- Splits in proportion: race.Like and the reference's LikeOf. -/
import Derived.Test.YtjfppcejcbfngaaDoorPaces
namespace Go.Proofs.YtjfppcejcbfngaaDoor
open Go.RowKit
set_option linter.unusedVariables false

def likeF (last t : Int) (l : List Int) : List Int := l.map fun x => x * t / last
def likeL (l : List Int) (t : Int) : List Int := likeF (l.getLastD 0) t l
theorem likeF_at {last t : Int} {l : List Int} {k : Nat} {x : Int} (h : l[k]? = some x) : likeF last t (l.drop k) = (x * t / last) :: likeF last t (l.drop (k + 1)) := by rw [drop_at h]; rfl
theorem wholeErr_ok {r : Race} {l : List Int} (h : wholeErr r l = 0) : checkSp r l = 0 ∧ raceErr r = 0 ∧ knownErr r l = 0 ∧ splitsErr r l = 0 ∧ hasB l 0 = false := by
  unfold wholeErr at h
  split at h
  · omega
  · rename_i h0
    have h0' : raceErr r = 0 := by omega
    have hk := h
    unfold knownErr at h
    split at h
    · omega
    · rename_i h1
      refine ⟨checkSp_of h0' (by omega), h0', hk, by omega, ?_⟩
      cases hb : hasB l 0 with
      | false => rfl
      | true => rw [hb] at h; simp at h
theorem last_bd {l : List Int} (hn : 1 ≤ l.length) (h : ∀ x ∈ l, 0 ≤ x ∧ x ≤ 360000) (h1 : l.getLastD 0 ≠ 0) : 1 ≤ l.getLastD 0 ∧ l.getLastD 0 ≤ 360000 := by
  have := h _ (mem_of_at (last_at (n := l.length) rfl (by omega)))
  omega

set_option maxRecDepth 100000 in
set_option maxHeartbeats 1600000 in
theorem likeOf_c (A : Option Addr) (n c : Nat) (l : List Int) (t : Int) (w : World) (h : RI 3 w A n l) (hn1 : 1 ≤ n) (hn : n ≤ 240) (hbd : ∀ x ∈ l, 0 ≤ x ∧ x ≤ 360000) (hlast : l.getLastD 0 ≠ 0) (ht0 : 1 ≤ t) (ht1 : t ≤ 360000) :
    Calls Tryd.prog 33 #[.slice A n c, .int .i64 t] w (RetLE w (riseL (likeL l t)) (riseE (likeL l t))) := by
  have hlb := last_bd (by rw [h.len]; exact hn1) hbd hlast
  have hla := last_at h.len (by omega)
  have hM : likeL l t = likeF (l.getLastD 0) t l := rfl
  generalize l.getLastD 0 = y at *
  generalize likeL l t = L at *
  have hM' := Lib.hid hM
  have hlen := Lib.hid h.len
  clear hM hlast
  go_enter Tryd.func33, Tryd.ntmps33
  go_wp2
  go_loopw [6, 11] (fun out i wr => ∃ (j : Nat) (acc : List Int), j ≤ n ∧ i = .int .i64 j ∧ wr.ownsRow w.heap.size 3 1 out j (ints acc) ∧ Below w.heap.size w wr ∧ Hid (acc ++ likeF y t (l.drop j) = L)) (fun _ i _ => n - (intOf i).toNat)
  case atStart => exact ⟨0, [], Nat.zero_le _, rfl, World.ownsRow_nil _ _ _ _, Below.refl _ _, Lib.hid (by rw [hM'.out]; rfl)⟩
  case round =>
    obtain ⟨j, acc, hj, rfl, hown, hB, hK⟩ := hrel
    by_cases hlt : j < n
    · have hr := h.below hB
      obtain ⟨b, off, x, rfl, _, hx, hcell⟩ := hr.at_ hlt
      obtain ⟨b', off', y', e, _, hy, hcell'⟩ := hr.at_ (k := n - 1) (by omega)
      obtain ⟨rfl, rfl⟩ : b = b' ∧ off = off' := by injection e with e; injection e with e1 e2; exact ⟨e1, e2⟩
      obtain rfl : y = y' := by rw [hla] at hy; exact Option.some.inj hy
      have hxb := hbd x (mem_of_at hx)
      have hp := mulT_bd (a := x) (b := t) hxb.1 hxb.2 (by omega) ht1
      have hq0 : 0 ≤ x * t / y := Int.ediv_nonneg hp.1 (by omega)
      have hq1 : x * t / y ≤ 129600000000 := Int.le_trans (Int.ediv_le_self _ hp.1) hp.2
      have hz := hB.size
      have hS := Lib.hid (likeF_at (last := y) (t := t) hx)
      clear hr hx e hy hla hbd h
      go_wp2_with (at_builtin; refine wpList_app rfl (.tmp 15) (.tmp 26) 22 rfl Tryd.underlying22 info_int rfl (by omega) (by omega) hown rfl rfl rfl rfl (by simp [Value.oneCell']) (by omega) hz ?_; intro v4 w4 hown4 hg4)
      have hB4 := below_own hB hown hg4 hz (Nat.le_refl _)
      go_roundw
      case rel =>
        refine ⟨j + 1, acc ++ [x * t / y], by omega, by go_num, ?_, hB4, Lib.hid ?_⟩
        · rw [ints_app]; exact hown4
        · rw [← hK.out, List.append_assoc, hS.out]; rfl
      case measure => simp [intOf]; omega
    · obtain rfl : j = n := by omega
      have hL := hK.out
      rw [drop_end (by rw [hlen.out]; omega)] at hL
      simp only [likeF, List.map_nil, List.append_nil] at hL
      subst hL
      obtain ⟨A', c', rfl⟩ := own_shape hown
      have hr := R1.of_own hown (by omega)
      clear hown hM' hK h hla
      cases hrise : risingF acc 0
      · have hR := Lib.hid hrise; clear hrise
        go_wp2_with fail
        refine (risingR_f _ _ _ acc _ hr hR.out).mono ?_; rintro e w' ⟨rfl, rfl⟩
        go_wp2
        go_ret2
        exact retLE_f hB hR.out
      · have hR := Lib.hid hrise; clear hrise
        go_wp2_with fail
        refine (risingR_t _ _ _ acc _ hr hR.out).mono ?_; rintro e w' ⟨rfl, rfl⟩
        go_wp2
        go_ret2
        exact retLE_t hr hB hR.out

set_option maxRecDepth 100000 in
set_option maxHeartbeats 1600000 in
theorem like_c (r : Race) (A : Option Addr) (n c : Nat) (l : List Int) (t : Int) (w : World) (h : RI 3 w A n l) (h0 : wholeErr r l = 0) (ht0 : 1 ≤ t) (ht1 : t ≤ 360000) :
    Calls Tryd.prog 32 #[r.val, .slice A n c, .int .i64 t] w (RetLE w (riseL (likeL l t)) (riseE (likeL l t))) := by
  have Hs := fun W h => checkWhole_c r A n c l W h
  rw [h0] at Hs
  obtain ⟨hc, _, _, hs, _⟩ := wholeErr_ok h0
  obtain ⟨hn1, hn, hbd⟩ := splits_bd hc
  have hlb := last_bd hn1 hbd (splitsErr_ok hs).2.2
  rw [h.len] at hn hn1
  have hla := last_at h.len (by omega)
  have hM : likeL l t = likeF (l.getLastD 0) t l := rfl
  generalize l.getLastD 0 = y at *
  generalize likeL l t = L at *
  have hM' := Lib.hid hM
  have hlen := Lib.hid h.len
  have Hs' := Lib.hid Hs
  clear hM h0 Hs hc hs
  obtain ⟨key, metres, stroke, course, legs, sex, young, old⟩ := r
  dsimp only [Race.val, Race.cells] at *
  go_enter Tryd.func32, Tryd.ntmps32
  go_wp2_with fail
  refine (Hs'.out _ (h.alloc _)).mono ?_; rintro e w0 ⟨rfl, hb0⟩; have hB0 := below_box hb0
  go_wp2_with fail
  refine (isTime_c _ _).mono ?_; rintro e w' ⟨rfl, rfl⟩
  go_wp2
  go_loopw [9, 23] (fun out i wr => ∃ (j : Nat) (acc : List Int), j ≤ n ∧ i = .int .i64 j ∧ wr.ownsRow w.heap.size 3 1 out j (ints acc) ∧ Below w.heap.size w wr ∧ Hid (acc ++ likeF y t (l.drop j) = L)) (fun _ i _ => n - (intOf i).toNat)
  case atStart => exact ⟨0, [], Nat.zero_le _, rfl, World.ownsRow_nil _ _ _ _, hB0, Lib.hid (by rw [hM'.out]; rfl)⟩
  case round =>
    obtain ⟨j, acc, hj, rfl, hown, hB, hK⟩ := hrel
    by_cases hlt : j < n
    · have hr := h.below hB
      obtain ⟨b, off, x, rfl, _, hx, hcell⟩ := hr.at_ hlt
      obtain ⟨b', off', y', e, _, hy, hcell'⟩ := hr.at_ (k := n - 1) (by omega)
      obtain ⟨rfl, rfl⟩ : b = b' ∧ off = off' := by injection e with e; injection e with e1 e2; exact ⟨e1, e2⟩
      obtain rfl : y = y' := by rw [hla] at hy; exact Option.some.inj hy
      have hxb := hbd x (mem_of_at hx)
      have hp := mulT_bd (a := x) (b := t) hxb.1 hxb.2 (by omega) ht1
      have hq0 : 0 ≤ x * t / y := Int.ediv_nonneg hp.1 (by omega)
      have hq1 : x * t / y ≤ 129600000000 := Int.le_trans (Int.ediv_le_self _ hp.1) hp.2
      have hz := hB.size
      have hS := Lib.hid (likeF_at (last := y) (t := t) hx)
      clear hr hx e hy hla hbd h
      go_wp2_with (at_builtin; refine wpList_app rfl (.tmp 27) (.tmp 38) 22 rfl Tryd.underlying22 info_int rfl (by omega) (by omega) hown rfl rfl rfl rfl (by simp [Value.oneCell']) (by omega) hz ?_; intro v4 w4 hown4 hg4)
      have hB4 := below_own hB hown hg4 hz (Nat.le_refl _)
      go_roundw
      case rel =>
        refine ⟨j + 1, acc ++ [x * t / y], by omega, by go_num, ?_, hB4, Lib.hid ?_⟩
        · rw [ints_app]; exact hown4
        · rw [← hK.out, List.append_assoc, hS.out]; rfl
      case measure => simp [intOf]; omega
    · obtain rfl : j = n := by omega
      have hL := hK.out
      rw [drop_end (by rw [hlen.out]; omega)] at hL
      simp only [likeF, List.map_nil, List.append_nil] at hL
      subst hL
      obtain ⟨A', c', rfl⟩ := own_shape hown
      have hr := R1.of_own hown (by omega)
      clear hown hM' hK h hla
      have hR := Lib.hid (rfl : risingF acc 0 = risingF acc 0)
      go_wp2_with fail
      refine (rising_c _ _ _ acc _ hr).mono ?_; rintro e w' ⟨rfl, rfl⟩
      go_wp2
      · go_ret2
        exact retLE_f hB (by first | omega | (simp_all; done) | (simp_all; omega))
      · go_ret2
        exact retLE_t hr hB (by first | omega | (simp_all; done) | (simp_all; omega))
theorem like_err (r : Race) (A : Option Addr) (n c : Nat) (l : List Int) (t : Int) (w : World) (h : RI 3 w A n l) (h0 : wholeErr r l ≠ 0) :
    Calls Tryd.prog 32 #[r.val, .slice A n c, .int .i64 t] w (RetLE w [] (wholeErr r l)) := by
  have Hs := fun W h => checkWhole_c r A n c l W h
  have hn : (wholeErr r l != 0) = true := by simpa using h0
  generalize wholeErr r l = x at *
  have Hs' := Lib.hid Hs
  clear h0 Hs
  obtain ⟨key, metres, stroke, course, legs, sex, young, old⟩ := r
  dsimp only [Race.val, Race.cells] at *
  go_enter Tryd.func32, Tryd.ntmps32
  go_wp2_with fail
  refine (Hs'.out _ (h.alloc _)).mono ?_; rintro e w0 ⟨rfl, hb0⟩; have hB0 := below_box hb0
  go_wp2
  go_ret2
  exact retLE_e _ hB0
theorem like_arg (r : Race) (A : Option Addr) (n c : Nat) (l : List Int) (t : Int) (w : World) (h : RI 3 w A n l) (h0 : wholeErr r l = 0) (ht : ¬ (1 ≤ t ∧ t ≤ 360000)) :
    Calls Tryd.prog 32 #[r.val, .slice A n c, .int .i64 t] w (RetLE w [] 1) := by
  have Hs := fun W h => checkWhole_c r A n c l W h
  rw [h0] at Hs
  have Hs' := Lib.hid Hs
  have ht' := Lib.hid ht
  clear h0 Hs ht
  obtain ⟨key, metres, stroke, course, legs, sex, young, old⟩ := r
  dsimp only [Race.val, Race.cells] at *
  go_enter Tryd.func32, Tryd.ntmps32
  go_wp2_with fail
  refine (Hs'.out _ (h.alloc _)).mono ?_; rintro e w0 ⟨rfl, hb0⟩; have hB0 := below_box hb0
  go_wp2_with fail
  refine (isTime_c _ _).mono ?_; rintro e w' ⟨rfl, rfl⟩
  have ht := ht'.out
  go_wp2
  go_ret2
  exact retLE_e _ hB0
end Go.Proofs.YtjfppcejcbfngaaDoor
