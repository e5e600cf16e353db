/- timing.Laps and the reference's LapsOf. -/
import Derived.Test.YtjfppcejcbfngaaDoorFill
import Derived.Test.YtjfppcejcbfngaaDoorSplits
namespace Go.Proofs.YtjfppcejcbfngaaDoor
open Go.RowKit
set_option linter.unusedVariables false

def lapAt (l : List Int) (i : Nat) : Int := if i = 0 then l.getD i 0 else if l.getD i 0 ≠ 0 ∧ l.getD (i - 1) 0 ≠ 0 then l.getD i 0 - l.getD (i - 1) 0 else 0
def lapsL (l : List Int) : List Int := listOf (lapAt l) l.length
theorem lapAt_zero {l : List Int} {x : Int} (h : l[0]? = some x) : lapAt l 0 = x := by unfold lapAt; rw [if_pos rfl]; exact getD_of h
theorem lapAt_succ {l : List Int} {k : Nat} {x y : Int} (hk : 0 < k) (h : l[k]? = some x) (h' : l[k - 1]? = some y) : lapAt l k = if x ≠ 0 ∧ y ≠ 0 then x - y else 0 := by
  unfold lapAt; rw [if_neg (by omega), getD_of h, getD_of h']

set_option maxRecDepth 100000 in
set_option maxHeartbeats 1600000 in
theorem lapsOf_c (A : Option Addr) (n c : Nat) (l : List Int) (w : World) (h : RI 3 w A n l) (hn : n ≤ 240) (hbd : ∀ x ∈ l, 0 ≤ x ∧ x ≤ 360000) :
    Calls Tryd.prog 69 #[.slice A n c] w fun e w' => ∃ A' c', e = .returned (.slice A' n c') ∧ w'.ownsRow w.heap.size 3 1 (.slice A' n c') n (ints (lapsL l)) ∧ Below w.heap.size w w' := by
  have hlen := Lib.hid h.len
  obtain ⟨i0, hi, hz0, hz1, hz2⟩ := info_parts info_int
  go_enter Tryd.func69, Tryd.ntmps69
  go_wp2_with (at_make; refine wpList_make_full _ rfl _ _ 22 rfl w.heap.size 3 i0 _ 1 Tryd.underlying22 hi hz0 hz1 _ _ _ _ n rfl rfl rfl rfl (by rw [hz2]; omega) (by unfold maxLen; omega) (Nat.le_refl _) ?_; intro w1 hown1 hg1)
  have hB1 : Below w.heap.size w w1 := (Below.refl _ _).grown hg1 (Nat.le_refl _) (fun k e => by cases e)
  have hown1' : w1.ownsRow w.heap.size 3 1 (.slice (some ⟨w.heap.size, 0, none⟩) n n) n (ints (fillK (lapAt l) n 0)) := by
    have h1 := hown1
    simp only [Nat.mul_one] at h1
    rw [fillK_zero, ints_repl, ← toList_madeCells_one]
    exact h1
  go_loopw [11] (fun i wr => ∃ (k : Nat), k ≤ n ∧ i = .int .i64 k ∧ wr.ownsRow w.heap.size 3 1 (.slice (some ⟨w.heap.size, 0, none⟩) n n) n (ints (fillK (lapAt l) n k)) ∧ Below w.heap.size w wr) (fun i _ => n - (intOf i).toNat)
  case atStart => exact ⟨0, Nat.zero_le _, rfl, hown1', hB1⟩
  case round =>
    obtain ⟨k, hk, rfl, hown, hB⟩ := hrel
    by_cases hlt : k < n
    · have hr := h.below hB
      obtain ⟨b, off, x, rfl, hbl, hx, hcell⟩ := hr.at_ hlt
      have hxb := hbd x (mem_of_at hx)
      have hco0 := hown.cellAt k (by omega)
      have hfo := hown.frozenAt k
      obtain ⟨u0, hco⟩ : ∃ u : Int, wr.cell? ⟨w.heap.size, k, none⟩ = some (.int .i64 u) := ⟨_, by rw [hco0, ints_at, List.getElem?_eq_getElem (by rw [fillK_len]; exact hlt)]; rfl⟩
      clear hco0
      have hnext : fillK (lapAt l) n (k + 1) = (fillK (lapAt l) n k).set k (lapAt l k) := (fillK_set _ _ _).symm
      have hstep : ∀ v, lapAt l k = v → (wr.setCell ⟨w.heap.size, k, none⟩ (.int .i64 v)).ownsRow w.heap.size 3 1 (.slice (some ⟨w.heap.size, 0, none⟩) n n) n (ints (fillK (lapAt l) n (k + 1))) := by
        intro v hv
        have := (hown.stored k (.int .i64 v)).1
        rw [ints_set, ← hv, ← hnext] at this
        rw [← hv]; exact this
      have hskip : lapAt l k = 0 → wr.ownsRow w.heap.size 3 1 (.slice (some ⟨w.heap.size, 0, none⟩) n n) n (ints (fillK (lapAt l) n (k + 1))) := by
        intro hv
        rw [← fillK_skip _ _ _ hv]; exact hown
      have hBs : ∀ v, Below w.heap.size w (wr.setCell ⟨w.heap.size, k, none⟩ v) := fun v => hB.setCell (Nat.le_refl _) v
      have hB' := Lib.hid hB
      have hst' := Lib.hid hstep
      have hsk' := Lib.hid hskip
      have hBs' := Lib.hid hBs
      by_cases hk0 : k = 0
      · have hv := Lib.hid (show lapAt l k = x from by rw [hk0] at hx ⊢; exact lapAt_zero hx)
        have hk1 : ((k : Int) == 0) = true := by simpa using hk0
        have hk2 : (k == 0) = true := by simpa using hk0
        clear hr h hown hown1' hown1 hnext hstep hskip hBs hx hB hbd hk0
        go_wp2
        · go_roundw
          case rel => exact ⟨k + 1, by omega, by go_num, hsk'.out (by rw [hv.out]; simp_all), hB'.out⟩
          case measure => simp [intOf]; omega
        · go_roundw
          case rel => exact ⟨k + 1, by omega, by go_num, hst'.out _ hv.out, hBs'.out _⟩
          case measure => simp [intOf]; omega
      · obtain ⟨b', off', y, e, hbl', hy, hcell'⟩ := hr.at_ (k := k - 1) (by omega)
        obtain ⟨rfl, rfl⟩ : b = b' ∧ off = off' := by injection e with e; injection e with e1 e2; exact ⟨e1, e2⟩
        have hyb := hbd y (mem_of_at hy)
        have hv := Lib.hid (lapAt_succ (by omega) hx hy)
        have hk1 : ((k : Int) == 0) = false := by simpa using hk0
        have hk2 : (k == 0) = false := by simpa using hk0
        have hkp : 0 < k := by omega
        clear hr h hown hown1' hown1 hnext hstep hskip hBs hx hB hbd hy e hk0
        go_wp2
        · go_roundw
          case rel => exact ⟨k + 1, by omega, by go_num, hsk'.out (by rw [hv.out, if_neg (by first | omega | (simp_all; done) | (simp_all; omega))]), hB'.out⟩
          case measure => simp [intOf]; omega
        · go_roundw
          case rel => exact ⟨k + 1, by omega, by go_num, hst'.out _ (by rw [hv.out, if_pos (by first | omega | (simp_all; done) | (simp_all; omega))]), hBs'.out _⟩
          case measure => simp [intOf]; omega
        · go_roundw
          case rel => exact ⟨k + 1, by omega, by go_num, hsk'.out (by rw [hv.out, if_neg (by first | omega | (simp_all; done) | (simp_all; omega))]), hB'.out⟩
          case measure => simp [intOf]; omega
    · go_wp2
      go_ret
      obtain rfl : k = n := by omega
      rw [fillK_full] at hown
      refine ⟨_, _, rfl, ?_, hB⟩
      unfold lapsL; rw [hlen.out]; exact hown

set_option maxRecDepth 100000 in
set_option maxHeartbeats 1600000 in
theorem laps_c (r : Race) (A : Option Addr) (n c : Nat) (l : List Int) (w : World) (h : RI 3 w A n l) (h0 : checkSp r l = 0) :
    Calls Tryd.prog 62 #[r.val, .slice A n c] w fun e w' => ∃ A' c', e = .returned (.tuple #[.slice A' n c', .int .i64 0]) ∧ w'.ownsRow w.heap.size 3 1 (.slice A' n c') n (ints (lapsL l)) ∧ Below w.heap.size w w' := by
  have Hs := fun W h => checkSplits_c r A n c l W h
  rw [h0] at Hs
  obtain ⟨hn1, hn, hbd⟩ := splits_bd h0
  rw [h.len] at hn hn1
  have hlen := Lib.hid h.len
  have Hs' := Lib.hid Hs
  clear h0 Hs
  obtain ⟨i0, hi, hz0, hz1, hz2⟩ := info_parts info_int
  obtain ⟨key, metres, stroke, course, legs, sex, young, old⟩ := r
  dsimp only [Race.val, Race.cells] at *
  go_enter Tryd.func62, Tryd.ntmps62
  go_wp2_with fail
  refine (Hs'.out _ (h.alloc _)).mono ?_; rintro e w0 ⟨rfl, hb0⟩; have hB0 := below_box hb0
  have hz := hB0.size
  go_wp2_with (at_make; refine wpList_make_full _ rfl _ _ 22 rfl w.heap.size 3 i0 _ 1 Tryd.underlying22 hi hz0 hz1 _ _ _ _ n rfl rfl rfl rfl (by rw [hz2]; omega) (by unfold maxLen; omega) hz ?_; intro w1 hown1 hg1)
  have hB1 : Below w.heap.size w w1 := hB0.grown hg1 hz (fun k e => by cases e)
  have hown1' : w1.ownsRow w.heap.size 3 1 (.slice (some ⟨w0.heap.size, 0, none⟩) n n) n (ints (fillK (lapAt l) n 0)) := by
    have h1 := hown1
    simp only [Nat.mul_one] at h1
    rw [fillK_zero, ints_repl, ← toList_madeCells_one]
    exact h1
  go_loopw [21] (fun i wr => ∃ (k : Nat), k ≤ n ∧ i = .int .i64 k ∧ wr.ownsRow w.heap.size 3 1 (.slice (some ⟨w0.heap.size, 0, none⟩) n n) n (ints (fillK (lapAt l) n k)) ∧ Below w.heap.size w wr) (fun i _ => n - (intOf i).toNat)
  case atStart => exact ⟨0, Nat.zero_le _, rfl, hown1', hB1⟩
  case round =>
    obtain ⟨k, hk, rfl, hown, hB⟩ := hrel
    by_cases hlt : k < n
    · have hr := h.below hB
      obtain ⟨b, off, x, rfl, hbl, hx, hcell⟩ := hr.at_ hlt
      have hxb := hbd x (mem_of_at hx)
      have hco0 := hown.cellAt k (by omega)
      have hfo := hown.frozenAt k
      obtain ⟨u0, hco⟩ : ∃ u : Int, wr.cell? ⟨w0.heap.size, k, none⟩ = some (.int .i64 u) := ⟨_, by rw [hco0, ints_at, List.getElem?_eq_getElem (by rw [fillK_len]; exact hlt)]; rfl⟩
      clear hco0
      have hnext : fillK (lapAt l) n (k + 1) = (fillK (lapAt l) n k).set k (lapAt l k) := (fillK_set _ _ _).symm
      have hstep : ∀ v, lapAt l k = v → (wr.setCell ⟨w0.heap.size, k, none⟩ (.int .i64 v)).ownsRow w.heap.size 3 1 (.slice (some ⟨w0.heap.size, 0, none⟩) n n) n (ints (fillK (lapAt l) n (k + 1))) := by
        intro v hv
        have := (hown.stored k (.int .i64 v)).1
        rw [ints_set, ← hv, ← hnext] at this
        rw [← hv]; exact this
      have hskip : lapAt l k = 0 → wr.ownsRow w.heap.size 3 1 (.slice (some ⟨w0.heap.size, 0, none⟩) n n) n (ints (fillK (lapAt l) n (k + 1))) := by
        intro hv
        rw [← fillK_skip _ _ _ hv]; exact hown
      have hBs : ∀ v, Below w.heap.size w (wr.setCell ⟨w0.heap.size, k, none⟩ v) := fun v => hB.setCell hz v
      have hB' := Lib.hid hB
      have hst' := Lib.hid hstep
      have hsk' := Lib.hid hskip
      have hBs' := Lib.hid hBs
      by_cases hk0 : k = 0
      · have hv := Lib.hid (show lapAt l k = x from by rw [hk0] at hx ⊢; exact lapAt_zero hx)
        have hk1 : ((k : Int) == 0) = true := by simpa using hk0
        have hk2 : (k == 0) = true := by simpa using hk0
        clear hr h hown hown1' hown1 hnext hstep hskip hBs hx hB hbd hk0 hB0 hB1
        go_wp2
        go_roundw
        case rel => exact ⟨k + 1, by omega, by go_num, hst'.out _ hv.out, hBs'.out _⟩
        case measure => simp [intOf]; omega
      · obtain ⟨b', off', y, e, hbl', hy, hcell'⟩ := hr.at_ (k := k - 1) (by omega)
        obtain ⟨rfl, rfl⟩ : b = b' ∧ off = off' := by injection e with e; injection e with e1 e2; exact ⟨e1, e2⟩
        have hyb := hbd y (mem_of_at hy)
        have hv := Lib.hid (lapAt_succ (by omega) hx hy)
        have hk1 : ((k : Int) == 0) = false := by simpa using hk0
        have hk2 : (k == 0) = false := by simpa using hk0
        have hkp : 0 < k := by omega
        clear hr h hown hown1' hown1 hnext hstep hskip hBs hx hB hbd hy e hk0 hB0 hB1
        go_wp2
        · go_roundw
          case rel => exact ⟨k + 1, by omega, by go_num, hst'.out _ (by rw [hv.out, if_pos (by first | omega | (simp_all; done) | (simp_all; omega))]), hBs'.out _⟩
          case measure => simp [intOf]; omega
        · go_roundw
          case rel => exact ⟨k + 1, by omega, by go_num, hsk'.out (by rw [hv.out, if_neg (by first | omega | (simp_all; done) | (simp_all; omega))]), hB'.out⟩
          case measure => simp [intOf]; omega
        · go_roundw
          case rel => exact ⟨k + 1, by omega, by go_num, hsk'.out (by rw [hv.out, if_neg (by first | omega | (simp_all; done) | (simp_all; omega))]), hB'.out⟩
          case measure => simp [intOf]; omega
    · go_wp2
      go_ret2
      obtain rfl : k = n := by omega
      rw [fillK_full] at hown
      refine ⟨_, _, rfl, ?_, hB⟩
      unfold lapsL; rw [hlen.out]; exact hown
theorem laps_err (r : Race) (A : Option Addr) (n c : Nat) (l : List Int) (w : World) (h : RI 3 w A n l) (h0 : checkSp r l ≠ 0) :
    Calls Tryd.prog 62 #[r.val, .slice A n c] w fun e w' => e = .returned (.tuple #[.slice none 0 0, .int .i64 (checkSp r l)]) ∧ Below w.heap.size w w' := by
  have Hs := fun W h => checkSplits_c r A n c l W h
  have hn : (checkSp r l != 0) = true := by simpa using h0
  generalize checkSp r l = x at *
  have Hs' := Lib.hid Hs
  clear h0 Hs
  obtain ⟨key, metres, stroke, course, legs, sex, young, old⟩ := r
  dsimp only [Race.val, Race.cells] at *
  go_enter Tryd.func62, Tryd.ntmps62
  go_wp2_with fail
  refine (Hs'.out _ (h.alloc _)).mono ?_; rintro e w0 ⟨rfl, hb0⟩; have hB0 := below_box hb0
  go_wp2
  go_ret2
  exact ⟨rfl, hB0⟩
end Go.Proofs.YtjfppcejcbfngaaDoor
