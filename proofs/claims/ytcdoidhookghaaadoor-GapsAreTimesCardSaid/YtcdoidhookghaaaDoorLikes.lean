import Derived.Test.YtcdoidhookghaaaDoorFill
import Derived.Test.YtcdoidhookghaaaDoorSplits
/- timing.Laps and the reference's LapsOf. -/
namespace Go.Proofs.YtcdoidhookghaaaDoor
open Go.RowKit
set_option linter.unusedVariables false

def lapAt (l : List Int) (i : Nat) : Int := if i = 0 then l.getD i 0 else if l.getD i 0 ≠ 0 ∧ l.getD (i - 1) 0 ≠ 0 then l.getD i 0 - l.getD (i - 1) 0 else 0
def lapsL (l : List Int) : List Int := listOf (lapAt l) l.length
theorem lapAt_zero {l : List Int} {x : Int} (h : l[0]? = some x) : lapAt l 0 = x := by unfold lapAt; rw [if_pos rfl]; exact getD_of h
theorem lapAt_succ {l : List Int} {k : Nat} {x y : Int} (hk : 0 < k) (h : l[k]? = some x) (h' : l[k - 1]? = some y) : lapAt l k = if x ≠ 0 ∧ y ≠ 0 then x - y else 0 := by
  unfold lapAt; rw [if_neg (by omega), getD_of h, getD_of h']

set_option maxRecDepth 100000 in
set_option maxHeartbeats 1600000 in
theorem lapsOf_c (A : Option Addr) (n c : Nat) (l : List Int) (w : World) (h : RI 3 w A n l) (hn : n ≤ 240) (hbd : ∀ x ∈ l, 0 ≤ x ∧ x ≤ 360000) :
    Calls Tryd.prog 73 #[.slice A n c] w fun e w' => ∃ A' c', e = .returned (.slice A' n c') ∧ w'.ownsRow w.heap.size 3 1 (.slice A' n c') n (ints (lapsL l)) ∧ Below w.heap.size w w' := by
  have hlen := Lib.hid h.len
  obtain ⟨i0, hi, hz0, hz1, hz2⟩ := info_parts info_int
  go_enter Tryd.func73, Tryd.ntmps73
  go_wp2_with (at_make; refine wpList_make_full _ rfl _ _ 22 rfl w.heap.size 3 i0 _ 1 Tryd.underlying22 hi hz0 hz1 _ _ _ _ n rfl rfl rfl rfl (by rw [hz2]; omega) (by unfold maxLen; omega) (Nat.le_refl _) ?_; intro w1 hown1 hg1)
  have hB1 : Below w.heap.size w w1 := (Below.refl _ _).grown hg1 (Nat.le_refl _) (fun k e => by cases e)
  have hown1' : w1.ownsRow w.heap.size 3 1 (.slice (some ⟨w.heap.size, 0, none⟩) n n) n (ints (fillK (lapAt l) n 0)) := by
    have h1 := hown1
    simp only [Nat.mul_one] at h1
    rw [fillK_zero, ints_repl, ← toList_madeCells_one]
    exact h1
  go_loopw [11] (fun i wr => ∃ (k : Nat), k ≤ n ∧ i = .int .i64 k ∧ wr.ownsRow w.heap.size 3 1 (.slice (some ⟨w.heap.size, 0, none⟩) n n) n (ints (fillK (lapAt l) n k)) ∧ Below w.heap.size w wr) (fun i _ => n - (intOf i).toNat)
  case atStart => exact ⟨0, Nat.zero_le _, rfl, hown1', hB1⟩
  case round =>
    obtain ⟨k, hk, rfl, hown, hB⟩ := hrel
    by_cases hlt : k < n
    · have hr := h.below hB
      obtain ⟨b, off, x, rfl, hbl, hx, hcell⟩ := hr.at_ hlt
      have hxb := hbd x (mem_of_at hx)
      have hco0 := hown.cellAt k (by omega)
      have hfo := hown.frozenAt k
      obtain ⟨u0, hco⟩ : ∃ u : Int, wr.cell? ⟨w.heap.size, k, none⟩ = some (.int .i64 u) := ⟨_, by rw [hco0, ints_at, List.getElem?_eq_getElem (by rw [fillK_len]; exact hlt)]; rfl⟩
      clear hco0
      have hnext : fillK (lapAt l) n (k + 1) = (fillK (lapAt l) n k).set k (lapAt l k) := (fillK_set _ _ _).symm
      have hstep : ∀ v, lapAt l k = v → (wr.setCell ⟨w.heap.size, k, none⟩ (.int .i64 v)).ownsRow w.heap.size 3 1 (.slice (some ⟨w.heap.size, 0, none⟩) n n) n (ints (fillK (lapAt l) n (k + 1))) := by
        intro v hv
        have := (hown.stored k (.int .i64 v)).1
        rw [ints_set, ← hv, ← hnext] at this
        rw [← hv]; exact this
      have hskip : lapAt l k = 0 → wr.ownsRow w.heap.size 3 1 (.slice (some ⟨w.heap.size, 0, none⟩) n n) n (ints (fillK (lapAt l) n (k + 1))) := by
        intro hv
        rw [← fillK_skip _ _ _ hv]; exact hown
      have hBs : ∀ v, Below w.heap.size w (wr.setCell ⟨w.heap.size, k, none⟩ v) := fun v => hB.setCell (Nat.le_refl _) v
      have hB' := Lib.hid hB
      have hst' := Lib.hid hstep
      have hsk' := Lib.hid hskip
      have hBs' := Lib.hid hBs
      by_cases hk0 : k = 0
      · have hv := Lib.hid (show lapAt l k = x from by rw [hk0] at hx ⊢; exact lapAt_zero hx)
        have hk1 : ((k : Int) == 0) = true := by simpa using hk0
        have hk2 : (k == 0) = true := by simpa using hk0
        clear hr h hown hown1' hown1 hnext hstep hskip hBs hx hB hbd hk0
        go_wp2
        · go_roundw
          case rel => exact ⟨k + 1, by omega, by go_num, hsk'.out (by rw [hv.out]; simp_all), hB'.out⟩
          case measure => simp [intOf]; omega
        · go_roundw
          case rel => exact ⟨k + 1, by omega, by go_num, hst'.out _ hv.out, hBs'.out _⟩
          case measure => simp [intOf]; omega
      · obtain ⟨b', off', y, e, hbl', hy, hcell'⟩ := hr.at_ (k := k - 1) (by omega)
        obtain ⟨rfl, rfl⟩ : b = b' ∧ off = off' := by injection e with e; injection e with e1 e2; exact ⟨e1, e2⟩
        have hyb := hbd y (mem_of_at hy)
        have hv := Lib.hid (lapAt_succ (by omega) hx hy)
        have hk1 : ((k : Int) == 0) = false := by simpa using hk0
        have hk2 : (k == 0) = false := by simpa using hk0
        have hkp : 0 < k := by omega
        clear hr h hown hown1' hown1 hnext hstep hskip hBs hx hB hbd hy e hk0
        go_wp2
        · go_roundw
          case rel => exact ⟨k + 1, by omega, by go_num, hsk'.out (by rw [hv.out, if_neg (by first | omega | (simp_all; done) | (simp_all; omega))]), hB'.out⟩
          case measure => simp [intOf]; omega
        · go_roundw
          case rel => exact ⟨k + 1, by omega, by go_num, hst'.out _ (by rw [hv.out, if_pos (by first | omega | (simp_all; done) | (simp_all; omega))]), hBs'.out _⟩
          case measure => simp [intOf]; omega
        · go_roundw
          case rel => exact ⟨k + 1, by omega, by go_num, hsk'.out (by rw [hv.out, if_neg (by first | omega | (simp_all; done) | (simp_all; omega))]), hB'.out⟩
          case measure => simp [intOf]; omega
    · go_wp2
      go_ret
      obtain rfl : k = n := by omega
      rw [fillK_full] at hown
      refine ⟨_, _, rfl, ?_, hB⟩
      unfold lapsL; rw [hlen.out]; exact hown

set_option maxRecDepth 100000 in
set_option maxHeartbeats 1600000 in
theorem laps_c (r : Race) (A : Option Addr) (n c : Nat) (l : List Int) (w : World) (h : RI 3 w A n l) (h0 : checkSp r l = 0) :
    Calls Tryd.prog 119 #[r.val, .slice A n c] w fun e w' => ∃ A' c', e = .returned (.tuple #[.slice A' n c', .int .i64 0]) ∧ w'.ownsRow w.heap.size 3 1 (.slice A' n c') n (ints (lapsL l)) ∧ Below w.heap.size w w' := by
  have Hs := fun W h => checkSplits_c r A n c l W h
  rw [h0] at Hs
  obtain ⟨hn1, hn, hbd⟩ := splits_bd h0
  rw [h.len] at hn hn1
  have hlen := Lib.hid h.len
  have Hs' := Lib.hid Hs
  clear h0 Hs
  obtain ⟨i0, hi, hz0, hz1, hz2⟩ := info_parts info_int
  obtain ⟨key, metres, stroke, course, legs, sex, young, old⟩ := r
  dsimp only [Race.val, Race.cells] at *
  go_enter Tryd.func119, Tryd.ntmps119
  go_wp2_with fail
  refine (Hs'.out _ (h.alloc _)).mono ?_; rintro e w0 ⟨rfl, hb0⟩; have hB0 := below_box hb0
  have hz := hB0.size
  go_wp2_with (at_make; refine wpList_make_full _ rfl _ _ 22 rfl w.heap.size 3 i0 _ 1 Tryd.underlying22 hi hz0 hz1 _ _ _ _ n rfl rfl rfl rfl (by rw [hz2]; omega) (by unfold maxLen; omega) hz ?_; intro w1 hown1 hg1)
  have hB1 : Below w.heap.size w w1 := hB0.grown hg1 hz (fun k e => by cases e)
  have hown1' : w1.ownsRow w.heap.size 3 1 (.slice (some ⟨w0.heap.size, 0, none⟩) n n) n (ints (fillK (lapAt l) n 0)) := by
    have h1 := hown1
    simp only [Nat.mul_one] at h1
    rw [fillK_zero, ints_repl, ← toList_madeCells_one]
    exact h1
  go_loopw [21] (fun i wr => ∃ (k : Nat), k ≤ n ∧ i = .int .i64 k ∧ wr.ownsRow w.heap.size 3 1 (.slice (some ⟨w0.heap.size, 0, none⟩) n n) n (ints (fillK (lapAt l) n k)) ∧ Below w.heap.size w wr) (fun i _ => n - (intOf i).toNat)
  case atStart => exact ⟨0, Nat.zero_le _, rfl, hown1', hB1⟩
  case round =>
    obtain ⟨k, hk, rfl, hown, hB⟩ := hrel
    by_cases hlt : k < n
    · have hr := h.below hB
      obtain ⟨b, off, x, rfl, hbl, hx, hcell⟩ := hr.at_ hlt
      have hxb := hbd x (mem_of_at hx)
      have hco0 := hown.cellAt k (by omega)
      have hfo := hown.frozenAt k
      obtain ⟨u0, hco⟩ : ∃ u : Int, wr.cell? ⟨w0.heap.size, k, none⟩ = some (.int .i64 u) := ⟨_, by rw [hco0, ints_at, List.getElem?_eq_getElem (by rw [fillK_len]; exact hlt)]; rfl⟩
      clear hco0
      have hnext : fillK (lapAt l) n (k + 1) = (fillK (lapAt l) n k).set k (lapAt l k) := (fillK_set _ _ _).symm
      have hstep : ∀ v, lapAt l k = v → (wr.setCell ⟨w0.heap.size, k, none⟩ (.int .i64 v)).ownsRow w.heap.size 3 1 (.slice (some ⟨w0.heap.size, 0, none⟩) n n) n (ints (fillK (lapAt l) n (k + 1))) := by
        intro v hv
        have := (hown.stored k (.int .i64 v)).1
        rw [ints_set, ← hv, ← hnext] at this
        rw [← hv]; exact this
      have hskip : lapAt l k = 0 → wr.ownsRow w.heap.size 3 1 (.slice (some ⟨w0.heap.size, 0, none⟩) n n) n (ints (fillK (lapAt l) n (k + 1))) := by
        intro hv
        rw [← fillK_skip _ _ _ hv]; exact hown
      have hBs : ∀ v, Below w.heap.size w (wr.setCell ⟨w0.heap.size, k, none⟩ v) := fun v => hB.setCell hz v
      have hB' := Lib.hid hB
      have hst' := Lib.hid hstep
      have hsk' := Lib.hid hskip
      have hBs' := Lib.hid hBs
      by_cases hk0 : k = 0
      · have hv := Lib.hid (show lapAt l k = x from by rw [hk0] at hx ⊢; exact lapAt_zero hx)
        have hk1 : ((k : Int) == 0) = true := by simpa using hk0
        have hk2 : (k == 0) = true := by simpa using hk0
        clear hr h hown hown1' hown1 hnext hstep hskip hBs hx hB hbd hk0 hB0 hB1
        go_wp2
        go_roundw
        case rel => exact ⟨k + 1, by omega, by go_num, hst'.out _ hv.out, hBs'.out _⟩
        case measure => simp [intOf]; omega
      · obtain ⟨b', off', y, e, hbl', hy, hcell'⟩ := hr.at_ (k := k - 1) (by omega)
        obtain ⟨rfl, rfl⟩ : b = b' ∧ off = off' := by injection e with e; injection e with e1 e2; exact ⟨e1, e2⟩
        have hyb := hbd y (mem_of_at hy)
        have hv := Lib.hid (lapAt_succ (by omega) hx hy)
        have hk1 : ((k : Int) == 0) = false := by simpa using hk0
        have hk2 : (k == 0) = false := by simpa using hk0
        have hkp : 0 < k := by omega
        clear hr h hown hown1' hown1 hnext hstep hskip hBs hx hB hbd hy e hk0 hB0 hB1
        go_wp2
        · go_roundw
          case rel => exact ⟨k + 1, by omega, by go_num, hst'.out _ (by rw [hv.out, if_pos (by first | omega | (simp_all; done) | (simp_all; omega))]), hBs'.out _⟩
          case measure => simp [intOf]; omega
        · go_roundw
          case rel => exact ⟨k + 1, by omega, by go_num, hsk'.out (by rw [hv.out, if_neg (by first | omega | (simp_all; done) | (simp_all; omega))]), hB'.out⟩
          case measure => simp [intOf]; omega
        · go_roundw
          case rel => exact ⟨k + 1, by omega, by go_num, hsk'.out (by rw [hv.out, if_neg (by first | omega | (simp_all; done) | (simp_all; omega))]), hB'.out⟩
          case measure => simp [intOf]; omega
    · go_wp2
      go_ret2
      obtain rfl : k = n := by omega
      rw [fillK_full] at hown
      refine ⟨_, _, rfl, ?_, hB⟩
      unfold lapsL; rw [hlen.out]; exact hown
theorem laps_err (r : Race) (A : Option Addr) (n c : Nat) (l : List Int) (w : World) (h : RI 3 w A n l) (h0 : checkSp r l ≠ 0) :
    Calls Tryd.prog 119 #[r.val, .slice A n c] w fun e w' => e = .returned (.tuple #[.slice none 0 0, .int .i64 (checkSp r l)]) ∧ Below w.heap.size w w' := by
  have Hs := fun W h => checkSplits_c r A n c l W h
  have hn : (checkSp r l != 0) = true := by simpa using h0
  generalize checkSp r l = x at *
  have Hs' := Lib.hid Hs
  clear h0 Hs
  obtain ⟨key, metres, stroke, course, legs, sex, young, old⟩ := r
  dsimp only [Race.val, Race.cells] at *
  go_enter Tryd.func119, Tryd.ntmps119
  go_wp2_with fail
  refine (Hs'.out _ (h.alloc _)).mono ?_; rintro e w0 ⟨rfl, hb0⟩; have hB0 := below_box hb0
  go_wp2
  go_ret2
  exact ⟨rfl, hB0⟩
end Go.Proofs.YtcdoidhookghaaaDoor

/- Even and proportional splits: race.Even, Like; the references EvenOf, LikeOf, rising. -/
namespace Go.Proofs.YtcdoidhookghaaaDoor
open Go.RowKit
set_option linter.unusedVariables false

def risingF : List Int → Int → Bool
  | [], _ => true
  | x :: r, last => if x ≤ last then false else risingF r x
theorem rising_at {l : List Int} {k : Nat} {x last : Int} (h : l[k]? = some x) : risingF (l.drop k) last = if x ≤ last then false else risingF (l.drop (k + 1)) x := by rw [drop_at h]; rfl
theorem rising_c (A : Option Addr) (n c : Nat) (l : List Int) (w : World) (h : RI 3 w A n l) :
    Calls Tryd.prog 114 #[.slice A n c] w fun e w' => e = .returned (.bool (risingF l 0)) ∧ w = w' := by
  have hl := h.len
  have hb := h.bd
  go_enter Tryd.func114, Tryd.ntmps114
  go_wp2
  go_loop [3, 8] (fun t i => ∃ (k : Nat) (s : Int), k ≤ n ∧ i = .int .i64 k ∧ t = .int .i64 s ∧ Hid (risingF (l.drop k) s = risingF l 0)) (fun _ i => n - (intOf i).toNat)
  case atStart => exact ⟨0, 0, Nat.zero_le _, rfl, rfl, Lib.hid rfl⟩
  case round =>
    obtain ⟨k, s, hk, rfl, rfl, hF⟩ := hrel
    by_cases hlt : k < n
    · obtain ⟨b, off, x, rfl, _, hx, hcell⟩ := h.at_ hlt
      have hS := Lib.hid (rising_at (last := s) hx)
      clear hx h hl
      go_wp2
      · go_ret
        exact ⟨ret_b (by rw [← hF.out, hS.out, if_pos (by first | omega | (simp_all; done) | (simp_all; omega))]), rfl⟩
      · go_round
        case rel => exact ⟨k + 1, x, by omega, by go_num, rfl, Lib.hid (by rw [← hF.out, hS.out, if_neg (by first | omega | (simp_all; done) | (simp_all; omega))])⟩
        case measure => simp [intOf]; omega
    · have hS : Hid (risingF l 0 = true) := Lib.hid (by rw [← hF.out, drop_end (by omega)]; rfl)
      clear hl
      go_wp2
      go_ret
      exact ⟨ret_b (by rw [hS.out]), rfl⟩
/-- what a list of splits comes to: itself, or nothing with an error -/
def riseL (l : List Int) : List Int := if risingF l 0 then l else []
def riseE (l : List Int) : Int := if risingF l 0 then 0 else 16
/-- a call that answers with a list of ints and an error -/
def RetLE (B : World) (L : List Int) (E : Int) (e : Ending) (w' : World) : Prop :=
  ∃ A n c, e = .returned (.tuple #[.slice A n c, .int .i64 E]) ∧ RI 3 w' A n L ∧ Below B.heap.size B w'

theorem retLE_t {B w' : World} {A : Option Addr} {n c : Nat} {L : List Int} (hr : RI 3 w' A n L) (hb : Below B.heap.size B w') (h : risingF L 0 = true) : RetLE B (riseL L) (riseE L) (.returned (.tuple #[.slice A n c, .int .i64 0])) w' := by
  unfold riseL riseE; rw [if_pos h, if_pos h]; exact ⟨A, n, c, rfl, hr, hb⟩
theorem retLE_f {B w' : World} {L : List Int} (hb : Below B.heap.size B w') (h : risingF L 0 = false) : RetLE B (riseL L) (riseE L) (.returned (.tuple #[.slice none 0 0, .int .i64 16])) w' := by
  unfold riseL riseE; rw [if_neg (by simp [h]), if_neg (by simp [h])]; exact ⟨none, 0, 0, rfl, R1.nil_ _ _ _ _, hb⟩
theorem retLE_e {B w' : World} (x : Int) (hb : Below B.heap.size B w') : RetLE B [] x (.returned (.tuple #[.slice none 0 0, .int .i64 x])) w' := ⟨none, 0, 0, rfl, R1.nil_ _ _ _ _, hb⟩
def evGo (t N : Int) : Nat → Int → List Int
  | 0, _ => []
  | m + 1, k => (t * k / N) :: evGo t N m (k + 1)
def evenL (t N : Int) : List Int := evGo t N N.toNat 1

theorem mulT_bd {a b : Int} (h0 : 0 ≤ a) (h1 : a ≤ 360000) (h2 : 0 ≤ b) (h3 : b ≤ 360000) : 0 ≤ a * b ∧ a * b ≤ 129600000000 := by
  have := mul_bd h0 h1 h2 h3
  omega

end Go.Proofs.YtcdoidhookghaaaDoor

/- Splits in proportion: race.Like and the reference's LikeOf. -/
namespace Go.Proofs.YtcdoidhookghaaaDoor
open Go.RowKit
set_option linter.unusedVariables false

def likeF (last t : Int) (l : List Int) : List Int := l.map fun x => x * t / last
def likeL (l : List Int) (t : Int) : List Int := likeF (l.getLastD 0) t l
theorem likeF_at {last t : Int} {l : List Int} {k : Nat} {x : Int} (h : l[k]? = some x) : likeF last t (l.drop k) = (x * t / last) :: likeF last t (l.drop (k + 1)) := by rw [drop_at h]; rfl
theorem wholeErr_ok {r : Race} {l : List Int} (h : wholeErr r l = 0) : checkSp r l = 0 ∧ raceErr r = 0 ∧ knownErr r l = 0 ∧ splitsErr r l = 0 ∧ hasB l 0 = false := by
  unfold wholeErr at h
  split at h
  · omega
  · rename_i h0
    have h0' : raceErr r = 0 := by omega
    have hk := h
    unfold knownErr at h
    split at h
    · omega
    · rename_i h1
      refine ⟨checkSp_of h0' (by omega), h0', hk, by omega, ?_⟩
      cases hb : hasB l 0 with
      | false => rfl
      | true => rw [hb] at h; simp at h
theorem last_bd {l : List Int} (hn : 1 ≤ l.length) (h : ∀ x ∈ l, 0 ≤ x ∧ x ≤ 360000) (h1 : l.getLastD 0 ≠ 0) : 1 ≤ l.getLastD 0 ∧ l.getLastD 0 ≤ 360000 := by
  have := h _ (mem_of_at (last_at (n := l.length) rfl (by omega)))
  omega

set_option maxRecDepth 100000 in
set_option maxHeartbeats 1600000 in
theorem like_c (r : Race) (A : Option Addr) (n c : Nat) (l : List Int) (t : Int) (w : World) (h : RI 3 w A n l) (h0 : wholeErr r l = 0) (ht0 : 1 ≤ t) (ht1 : t ≤ 360000) :
    Calls Tryd.prog 65 #[r.val, .slice A n c, .int .i64 t] w (RetLE w (riseL (likeL l t)) (riseE (likeL l t))) := by
  have Hs := fun W h => checkWhole_c r A n c l W h
  rw [h0] at Hs
  obtain ⟨hc, _, _, hs, _⟩ := wholeErr_ok h0
  obtain ⟨hn1, hn, hbd⟩ := splits_bd hc
  have hlb := last_bd hn1 hbd (splitsErr_ok hs).2.2
  rw [h.len] at hn hn1
  have hla := last_at h.len (by omega)
  have hM : likeL l t = likeF (l.getLastD 0) t l := rfl
  generalize l.getLastD 0 = y at *
  generalize likeL l t = L at *
  have hM' := Lib.hid hM
  have hlen := Lib.hid h.len
  have Hs' := Lib.hid Hs
  clear hM h0 Hs hc hs
  obtain ⟨key, metres, stroke, course, legs, sex, young, old⟩ := r
  dsimp only [Race.val, Race.cells] at *
  go_enter Tryd.func65, Tryd.ntmps65
  go_wp2_with fail
  refine (Hs'.out _ (h.alloc _)).mono ?_; rintro e w0 ⟨rfl, hb0⟩; have hB0 := below_box hb0
  go_wp2_with fail
  refine (isTime_c _ _).mono ?_; rintro e w' ⟨rfl, rfl⟩
  go_wp2
  go_loopw [9, 23] (fun out i wr => ∃ (j : Nat) (acc : List Int), j ≤ n ∧ i = .int .i64 j ∧ wr.ownsRow w.heap.size 3 1 out j (ints acc) ∧ Below w.heap.size w wr ∧ Hid (acc ++ likeF y t (l.drop j) = L)) (fun _ i _ => n - (intOf i).toNat)
  case atStart => exact ⟨0, [], Nat.zero_le _, rfl, World.ownsRow_nil _ _ _ _, hB0, Lib.hid (by rw [hM'.out]; rfl)⟩
  case round =>
    obtain ⟨j, acc, hj, rfl, hown, hB, hK⟩ := hrel
    by_cases hlt : j < n
    · have hr := h.below hB
      obtain ⟨b, off, x, rfl, _, hx, hcell⟩ := hr.at_ hlt
      obtain ⟨b', off', y', e, _, hy, hcell'⟩ := hr.at_ (k := n - 1) (by omega)
      obtain ⟨rfl, rfl⟩ : b = b' ∧ off = off' := by injection e with e; injection e with e1 e2; exact ⟨e1, e2⟩
      obtain rfl : y = y' := by rw [hla] at hy; exact Option.some.inj hy
      have hxb := hbd x (mem_of_at hx)
      have hp := mulT_bd (a := x) (b := t) hxb.1 hxb.2 (by omega) ht1
      have hq0 : 0 ≤ x * t / y := Int.ediv_nonneg hp.1 (by omega)
      have hq1 : x * t / y ≤ 129600000000 := Int.le_trans (Int.ediv_le_self _ hp.1) hp.2
      have hz := hB.size
      have hS := Lib.hid (likeF_at (last := y) (t := t) hx)
      clear hr hx e hy hla hbd h
      go_wp2_with (at_builtin; refine wpList_app rfl (.tmp 27) (.tmp 38) 22 rfl Tryd.underlying22 info_int rfl (by omega) (by omega) hown rfl rfl rfl rfl (by simp [Value.oneCell']) (by omega) hz ?_; intro v4 w4 hown4 hg4)
      have hB4 := below_own hB hown hg4 hz (Nat.le_refl _)
      go_roundw
      case rel =>
        refine ⟨j + 1, acc ++ [x * t / y], by omega, by go_num, ?_, hB4, Lib.hid ?_⟩
        · rw [ints_app]; exact hown4
        · rw [← hK.out, List.append_assoc, hS.out]; rfl
      case measure => simp [intOf]; omega
    · obtain rfl : j = n := by omega
      have hL := hK.out
      rw [drop_end (by rw [hlen.out]; omega)] at hL
      simp only [likeF, List.map_nil, List.append_nil] at hL
      subst hL
      obtain ⟨A', c', rfl⟩ := own_shape hown
      have hr := R1.of_own hown (by omega)
      clear hown hM' hK h hla
      have hR := Lib.hid (rfl : risingF acc 0 = risingF acc 0)
      go_wp2_with fail
      refine (rising_c _ _ _ acc _ hr).mono ?_; rintro e w' ⟨rfl, rfl⟩
      go_wp2
      · go_ret2
        exact retLE_f hB (by first | omega | (simp_all; done) | (simp_all; omega))
      · go_ret2
        exact retLE_t hr hB (by first | omega | (simp_all; done) | (simp_all; omega))
theorem like_err (r : Race) (A : Option Addr) (n c : Nat) (l : List Int) (t : Int) (w : World) (h : RI 3 w A n l) (h0 : wholeErr r l ≠ 0) :
    Calls Tryd.prog 65 #[r.val, .slice A n c, .int .i64 t] w (RetLE w [] (wholeErr r l)) := by
  have Hs := fun W h => checkWhole_c r A n c l W h
  have hn : (wholeErr r l != 0) = true := by simpa using h0
  generalize wholeErr r l = x at *
  have Hs' := Lib.hid Hs
  clear h0 Hs
  obtain ⟨key, metres, stroke, course, legs, sex, young, old⟩ := r
  dsimp only [Race.val, Race.cells] at *
  go_enter Tryd.func65, Tryd.ntmps65
  go_wp2_with fail
  refine (Hs'.out _ (h.alloc _)).mono ?_; rintro e w0 ⟨rfl, hb0⟩; have hB0 := below_box hb0
  go_wp2
  go_ret2
  exact retLE_e _ hB0
theorem like_arg (r : Race) (A : Option Addr) (n c : Nat) (l : List Int) (t : Int) (w : World) (h : RI 3 w A n l) (h0 : wholeErr r l = 0) (ht : ¬ (1 ≤ t ∧ t ≤ 360000)) :
    Calls Tryd.prog 65 #[r.val, .slice A n c, .int .i64 t] w (RetLE w [] 1) := by
  have Hs := fun W h => checkWhole_c r A n c l W h
  rw [h0] at Hs
  have Hs' := Lib.hid Hs
  have ht' := Lib.hid ht
  clear h0 Hs ht
  obtain ⟨key, metres, stroke, course, legs, sex, young, old⟩ := r
  dsimp only [Race.val, Race.cells] at *
  go_enter Tryd.func65, Tryd.ntmps65
  go_wp2_with fail
  refine (Hs'.out _ (h.alloc _)).mono ?_; rintro e w0 ⟨rfl, hb0⟩; have hB0 := below_box hb0
  go_wp2_with fail
  refine (isTime_c _ _).mono ?_; rintro e w' ⟨rfl, rfl⟩
  have ht := ht'.out
  go_wp2
  go_ret2
  exact retLE_e _ hB0
end Go.Proofs.YtcdoidhookghaaaDoor
