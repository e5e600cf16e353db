import Derived.Test.YtcdoidhookghaaaDoorFill
import Derived.Test.YtcdoidhookghaaaDoorLens
import Derived.Deep.QuietTactic
import Derived.BigQuiet
import Derived.BigGuardPart
import Derived.Test.YtcdoidhookghaaaDoorFillP
import Derived.Test.YtcdoidhookghaaaDoorStructs
import Derived.Test.YtcdoidhookghaaaDoorSplits2
/- Who holds out, plain: the strength goes to the last lengths; running sums. -/
namespace Go.Proofs.YtcdoidhookghaaaDoor
open Go.RowKit
set_option linter.unusedVariables false

def sumL : List Int → Int
  | [] => 0
  | x :: r => x + sumL r
theorem sumL_app (a b : List Int) : sumL (a ++ b) = sumL a + sumL b := by
  induction a with
  | nil => simp [sumL]
  | cons x r ih => simp only [List.cons_append, sumL, ih]; omega
theorem sumL_take {l : List Int} {k : Nat} {x : Int} (h : l[k]? = some x) : sumL (l.take (k + 1)) = sumL (l.take k) + x := by
  rw [List.take_add_one, h, sumL_app]; simp [sumL]
/-- running sums from s -/
def runL (s : Int) : List Int → List Int
  | [] => []
  | x :: r => (s + x) :: runL (s + x) r
theorem runL_len (l : List Int) : ∀ s, (runL s l).length = l.length := by
  induction l with
  | nil => intro s; rfl
  | cons x r ih => intro s; simp [runL, ih]
theorem runL_at {l : List Int} {k : Nat} {x : Int} (s : Int) (h : l[k]? = some x) : runL s (l.drop k) = (s + x) :: runL (s + x) (l.drop (k + 1)) := by rw [drop_at h]; rfl
/-- the error of the strengths: one by one, then their sum -/
def hGo : List Int → List Int → Int → Int
  | b :: bs, m :: ms, s => if ¬ (1 ≤ b ∧ b ≤ m) ∨ 360000 < m then 1 else hGo bs ms (s + m)
  | _, _, s => if 360000 < s then 2 else 0
def holdErr (r : Race) (best most : List Int) : Int := if (best.length : Int) ≠ lenV r ∨ (most.length : Int) ≠ lenV r then 3 else hGo best most 0
theorem hGo_at {best most : List Int} {k : Nat} {b m : Int} (s : Int) (hb : best[k]? = some b) (hm : most[k]? = some m) : hGo (best.drop k) (most.drop k) s = if ¬ (1 ≤ b ∧ b ≤ m) ∨ 360000 < m then 1 else hGo (best.drop (k + 1)) (most.drop (k + 1)) (s + m) := by rw [drop_at hb, drop_at hm]; rfl
theorem hGo_ok : ∀ (best most : List Int) (s : Int), hGo best most s = 0 → ∀ (k : Nat) (b m : Int), best[k]? = some b → most[k]? = some m → 1 ≤ b ∧ b ≤ m ∧ m ≤ 360000
  | [], _, _, _, k, b, m, hb, _ => by simp at hb
  | _ :: _, [], _, _, k, b, m, _, hm => by simp at hm
  | b0 :: bs, m0 :: ms, s, h, k, b, m, hb, hm => by
    unfold hGo at h
    split at h
    · cases h
    · rename_i h1
      rcases k with _ | k
      · simp only [List.getElem?_cons_zero, Option.some.injEq] at hb hm
        subst hb; subst hm; omega
      · exact hGo_ok bs ms _ h k b m (by simpa using hb) (by simpa using hm)
/-- all that could be given -/
def couldL : List Int → List Int → Int
  | b :: bs, m :: ms => m - b + couldL bs ms
  | _, _ => 0
theorem couldL_at {best most : List Int} {k : Nat} {b m : Int} (hb : best[k]? = some b) (hm : most[k]? = some m) : couldL (best.drop k) (most.drop k) = m - b + couldL (best.drop (k + 1)) (most.drop (k + 1)) := by rw [drop_at hb, drop_at hm]; rfl
theorem couldL_end {best most : List Int} {k : Nat} (h : best.length ≤ k) : couldL (best.drop k) (most.drop k) = 0 := by rw [drop_end h]; rfl
theorem couldL_nn : ∀ (best most : List Int), (∀ (k : Nat) (b m : Int), best[k]? = some b → most[k]? = some m → b ≤ m) → 0 ≤ couldL best most
  | [], _, _ => by simp [couldL]
  | _ :: _, [], _ => by simp [couldL]
  | b :: bs, m :: ms, h => by
    have h0 := h 0 b m rfl rfl
    have h1 := couldL_nn bs ms (fun k b m hb hm => h (k + 1) b m (by simpa using hb) (by simpa using hm))
    simp only [couldL]; omega
/-- the laps of who holds out, and what is left: the last length first -/
def holdG : List Int → List Int → Int → List Int × Int
  | b :: bs, m :: ms, left => ((m - min (holdG bs ms left).2 (m - b)) :: (holdG bs ms left).1, (holdG bs ms left).2 - min (holdG bs ms left).2 (m - b))
  | _, _, left => ([], left)
theorem holdG_at {best most : List Int} {k : Nat} {b m : Int} (left : Int) (hb : best[k]? = some b) (hm : most[k]? = some m) : holdG (best.drop k) (most.drop k) left = ((m - min (holdG (best.drop (k + 1)) (most.drop (k + 1)) left).2 (m - b)) :: (holdG (best.drop (k + 1)) (most.drop (k + 1)) left).1, (holdG (best.drop (k + 1)) (most.drop (k + 1)) left).2 - min (holdG (best.drop (k + 1)) (most.drop (k + 1)) left).2 (m - b)) := by rw [drop_at hb, drop_at hm]; rfl
theorem holdG_end {best most : List Int} {k : Nat} (left : Int) (h : best.length ≤ k) : holdG (best.drop k) (most.drop k) left = ([], left) := by rw [drop_end h]; rfl
theorem holdG_len : ∀ (best most : List Int) (left : Int), best.length = most.length → (holdG best most left).1.length = best.length
  | [], [], _, _ => rfl
  | [], _ :: _, _, h => by simp at h
  | _ :: _, [], _, h => by simp at h
  | b :: bs, m :: ms, left, h => by
    have := holdG_len bs ms left (by simpa using h)
    simp [holdG, this]
theorem holdG_left : ∀ (best most : List Int) (left : Int), 0 ≤ left → (∀ (k : Nat) (b m : Int), best[k]? = some b → most[k]? = some m → b ≤ m) → (holdG best most left).2 = left - min left (couldL best most)
  | [], _, left, h0, _ => by simp only [holdG, couldL]; omega
  | _ :: _, [], left, h0, _ => by simp only [holdG, couldL]; omega
  | b :: bs, m :: ms, left, h0, h => by
    have hs : ∀ (k : Nat) (b m : Int), bs[k]? = some b → ms[k]? = some m → b ≤ m := fun k b m hb hm => h (k + 1) b m (by simpa using hb) (by simpa using hm)
    have h1 := holdG_left bs ms left h0 hs
    have h2 := h 0 b m rfl rfl
    have h3 := couldL_nn bs ms hs
    simp only [holdG, couldL, h1]; omega
theorem holdG_sum : ∀ (best most : List Int) (left : Int), best.length = most.length → sumL (holdG best most left).1 = sumL most - (left - (holdG best most left).2)
  | [], [], left, _ => by simp only [holdG, sumL]; omega
  | [], _ :: _, _, h => by simp at h
  | _ :: _, [], _, h => by simp at h
  | b :: bs, m :: ms, left, h => by
    have h1 := holdG_sum bs ms left (by simpa using h)
    simp only [holdG, sumL, h1]; omega
theorem holdG_all (best most : List Int) (hl : best.length = most.length) (h : ∀ (k : Nat) (b m : Int), best[k]? = some b → most[k]? = some m → b ≤ m) : sumL (holdG best most (couldL best most / 2)).1 = sumL most - couldL best most / 2 := by
  have h0 := couldL_nn best most h
  rw [holdG_sum _ _ _ hl, holdG_left _ _ _ (by omega) h]; omega
/-- the strengths and what is left stay within bounds -/
theorem hGo_sum : ∀ (best most : List Int) (s : Int), best.length = most.length → hGo best most s = 0 → s + sumL most ≤ 360000
  | [], [], s, _, h => by
    unfold hGo at h
    split at h
    · cases h
    · simp only [sumL]; omega
  | [], _ :: _, _, h, _ => by simp at h
  | _ :: _, [], _, h, _ => by simp at h
  | b :: bs, m :: ms, s, hl, h => by
    unfold hGo at h
    split at h
    · cases h
    · have := hGo_sum bs ms _ (by simpa using hl) h
      simp only [sumL]; omega
theorem sum_take_bd {l : List Int} {B : Int} (hB : 0 ≤ B) (h : ∀ x ∈ l, 0 ≤ x ∧ x ≤ B) : 0 ≤ sumL l ∧ sumL l ≤ l.length * B := by
  induction l with
  | nil => simp [sumL]
  | cons x r ih =>
    have h1 := ih (fun y hy => h y (by simp [hy]))
    have h2 := h x (by simp)
    simp only [sumL, List.length_cons]
    rw [show ((r.length + 1 : Nat) : Int) = (r.length : Int) + 1 from by omega, Int.add_mul, Int.one_mul]; omega
/-- the row while the lengths from k on are done -/
def mixH (base best most : List Int) (L : Int) (k : Nat) : List Int := base.take k ++ (holdG (best.drop k) (most.drop k) L).1
theorem set_same {l : List Int} {k : Nat} {x : Int} (h : l[k]? = some x) : l.set k x = l := by
  apply List.ext_getElem?; intro q
  rw [List.getElem?_set]
  by_cases e : k = q
  · subst e; rw [if_pos rfl, h]; split
    · rfl
    · rename_i h2; exact absurd (lt_of_at h) h2
  · rw [if_neg e]
theorem take_len {l : List Int} {k : Nat} {x : Int} (h : l[k]? = some x) : (l.take k).length = k := by
  have := lt_of_at h; rw [List.length_take]; omega
theorem mixH_at {base : List Int} {k : Nat} {z : Int} (best most : List Int) (L : Int) (h : base[k]? = some z) : (mixH base best most L (k + 1))[k]? = some z := by
  unfold mixH
  rw [List.take_add_one, h, List.append_assoc, List.getElem?_append_right (by rw [take_len h]; exact Nat.le_refl _), take_len h, Nat.sub_self]; rfl
theorem mixH_set {base best most : List Int} {k : Nat} {z b m : Int} (L : Int) (h : base[k]? = some z) (hb : best[k]? = some b) (hm : most[k]? = some m) : (mixH base best most L (k + 1)).set k (m - min (holdG (best.drop (k + 1)) (most.drop (k + 1)) L).2 (m - b)) = mixH base best most L k := by
  unfold mixH
  rw [holdG_at L hb hm, List.take_add_one, h, List.append_assoc, List.set_append_right _ _ (by rw [take_len h]; exact Nat.le_refl _), take_len h, Nat.sub_self]; rfl
theorem mixH_full {base best most : List Int} {n : Nat} (L : Int) (h0 : base.length = n) (h1 : best.length = n) : mixH base best most L n = base := by
  unfold mixH
  rw [holdG_end L (by omega), List.take_of_length_le (by omega), List.append_nil]
theorem mixH_zero (base best most : List Int) (L : Int) : mixH base best most L 0 = (holdG best most L).1 := by
  unfold mixH; simp
/-- the laps of who holds out lie between the bounds -/
theorem holdG_bd : ∀ (best most : List Int) (left : Int), 0 ≤ left → (∀ (k : Nat) (b m : Int), best[k]? = some b → most[k]? = some m → 1 ≤ b ∧ b ≤ m ∧ m ≤ 360000) → 0 ≤ (holdG best most left).2 ∧ ∀ x ∈ (holdG best most left).1, 1 ≤ x ∧ x ≤ 360000
  | [], _, left, h0, _ => ⟨by simpa [holdG] using h0, by simp [holdG]⟩
  | _ :: _, [], left, h0, _ => ⟨by simpa [holdG] using h0, by simp [holdG]⟩
  | b :: bs, m :: ms, left, h0, h => by
    obtain ⟨h1, h2⟩ := holdG_bd bs ms left h0 (fun k b m hb hm => h (k + 1) b m (by simpa using hb) (by simpa using hm))
    obtain ⟨h3, h4, h5⟩ := h 0 b m rfl rfl
    refine ⟨by simp only [holdG]; omega, fun x hx => ?_⟩
    simp only [holdG, List.mem_cons] at hx
    rcases hx with rfl | hx
    · omega
    · exact h2 x hx
end Go.Proofs.YtcdoidhookghaaaDoor

/- The reference's HoldFault. -/
namespace Go.Proofs.YtcdoidhookghaaaDoor
open Go.RowKit
set_option linter.unusedVariables false

set_option maxHeartbeats 1600000 in
set_option maxRecDepth 100000 in
theorem holdFault_c (r : Race) (A1 A2 : Option Addr) (n1 n2 c1 c2 : Nat) (best most : List Int) (w : World) (h1 : RI 3 w A1 n1 best) (h2 : RI 3 w A2 n2 most) (hr : raceErr r = 0) :
    Calls Tryd.prog 23 #[r.val, .slice A1 n1 c1, .slice A2 n2 c2] w fun e w' => e = .returned (.int .i64 (holdErr r best most)) ∧ Below w.heap.size w w' := by
  obtain ⟨hv1, hv2⟩ := lenV_bd hr
  have hL := Lib.hid (fun W => lengthsOf_c r W hr)
  have hE : holdErr r best most = if (n1 : Int) ≠ lenV r ∨ (n2 : Int) ≠ lenV r then 3 else hGo best most 0 := by unfold holdErr; rw [h1.len, h2.len]
  rw [hE]
  clear hE hr
  obtain ⟨N, hN⟩ : ∃ N : Nat, lenV r = N := ⟨(lenV r).toNat, by omega⟩
  rw [hN] at hv1 hv2 hL ⊢
  clear hN
  have hK0 := heap_alloc_new w (.cells r.cells 27)
  obtain ⟨key, metres, stroke, course, legs, sex, young, old⟩ := r
  dsimp only [Race.val, Race.cells] at *
  by_cases e1 : n1 = N
  · by_cases e2 : n2 = N
    · subst e1
      subst e2
      have hT := Lib.hid (show (if (n2 : Int) ≠ (n2 : Int) ∨ (n2 : Int) ≠ (n2 : Int) then (3 : Int) else hGo best most 0) = hGo best most 0 by simp)
      rw [hT.out]
      clear hT
      generalize hE : hGo best most 0 = E
      have hE' := Lib.hid hE
      clear hE
      go_enter Tryd.func23, Tryd.ntmps23
      go_wp2_with fail
      refine (hL.out _).mono ?_; rintro e w1 ⟨rfl, B1⟩
      have hB := below_box B1
      clear hK0 B1
      go_wp2_with fail
      go_loopw [8, 24] (fun s i wr => ∃ (k : Nat) (v : Int), k ≤ n2 ∧ i = .int .i64 k ∧ s = .int .i64 v ∧ 0 ≤ v ∧ v ≤ 360000 * k ∧ Hid (hGo (best.drop k) (most.drop k) v = E) ∧ Below w.heap.size w wr) (fun _ i _ => n2 - (intOf i).toNat)
      case atStart => exact ⟨0, 0, Nat.zero_le _, rfl, rfl, by decide, by decide, Lib.hid hE'.out, hB⟩
      case round =>
        obtain ⟨k, v, hk, rfl, rfl, hv0, hvk, hv, hB⟩ := hrel
        by_cases hlt : k < n2
        · obtain ⟨b1, o1, b, rfl, l1, hb, cb⟩ := (h1.below hB).at_ hlt
          obtain ⟨b2, o2, m, rfl, l2, hm, cm⟩ := (h2.below hB).at_ hlt
          have hst := Lib.hid (hGo_at v hb hm)
          clear hb hm
          generalize hq : decide ((1 : Int) ≤ b ∧ b ≤ m) = q
          have hIn := Lib.hid (show ∀ W, Calls Tryd.prog 75 #[.int .i64 b, .int .i64 1, .int .i64 m] W fun e w' => e = .returned (.bool q) ∧ w' = W from fun W => by rw [← hq]; exact (in_c b 1 m W).mono (fun _ _ h => ⟨h.1, h.2.symm⟩))
          cases q
          · have hE1 := Lib.hid (show E = 1 by rw [← hv.out, hst.out, if_pos (Or.inl (by simpa using hq))])
            clear hq hst hv
            go_wp2_with fail
            go_quiet ((go_at_call 75; refine Calls.quiet_of_same (hIn.out _)))
            go_wp2
            go_ret
            exact ⟨ret_i hE1.out.symm, below_drewN hB _⟩
          · have hq2 : 1 ≤ b ∧ b ≤ m := by simpa using hq
            clear hq
            obtain ⟨q1, q2⟩ := hq2
            by_cases q3 : m ≤ 360000
            · have hnx := Lib.hid (show hGo (best.drop (k + 1)) (most.drop (k + 1)) (v + m) = E by rw [← hv.out, hst.out, if_neg (by omega)])
              clear hst hv
              have hd : decide ((360000 : Int) < m) = false := by simpa using q3
              go_wp2_with fail
              go_quiet ((go_at_call 75; refine Calls.quiet_of_same (hIn.out _)))
              go_wp2_with fail
              go_roundw
              case rel => exact ⟨k + 1, v + m, by omega, by go_num, rfl, by omega, by omega, hnx, below_drewN hB _⟩
              case measure => simp [intOf]; omega
            · have hE1 := Lib.hid (show E = 1 by rw [← hv.out, hst.out, if_pos (Or.inr (by omega))])
              clear hst hv
              have hd : decide ((360000 : Int) < m) = true := by simpa using (by omega : (360000 : Int) < m)
              go_wp2_with fail
              go_quiet ((go_at_call 75; refine Calls.quiet_of_same (hIn.out _)))
              go_wp2
              go_ret
              exact ⟨ret_i hE1.out.symm, below_drewN hB _⟩
        · obtain rfl : k = n2 := by omega
          have hv' := hv.out
          rw [drop_end (by rw [h1.len]; exact Nat.le_refl _)] at hv'
          by_cases q3 : v ≤ 360000
          · have hE1 := Lib.hid (show E = 0 by rw [← hv']; unfold hGo; rw [if_neg (by omega)])
            clear hv hv'
            go_wp2
            go_ret
            exact ⟨ret_i hE1.out.symm, hB⟩
          · have hE1 := Lib.hid (show E = 2 by rw [← hv']; unfold hGo; rw [if_pos (by omega)])
            clear hv hv'
            go_wp2
            go_ret
            exact ⟨ret_i hE1.out.symm, hB⟩
    · have hT := Lib.hid (show (if (n1 : Int) ≠ (N : Int) ∨ (n2 : Int) ≠ (N : Int) then (3 : Int) else hGo best most 0) = 3 by rw [if_pos (Or.inr (by omega))])
      rw [hT.out]
      clear hT
      subst e1
      have hd : ((n2 : Int) != (n1 : Int)) = true := bne_iff_ne.2 (by omega)
      have hd0 : ((n1 : Int) != (n1 : Int)) = false := by simp
      go_enter Tryd.func23, Tryd.ntmps23
      go_wp2_with fail
      refine (hL.out _).mono ?_; rintro e w1 ⟨rfl, B1⟩
      have hB := below_box B1
      clear hK0 B1
      go_wp2
      go_ret
      exact ⟨rfl, hB⟩
  · have hT := Lib.hid (show (if (n1 : Int) ≠ (N : Int) ∨ (n2 : Int) ≠ (N : Int) then (3 : Int) else hGo best most 0) = 3 by rw [if_pos (Or.inl (by omega))])
    rw [hT.out]
    clear hT
    have hd : ((n1 : Int) != (N : Int)) = true := bne_iff_ne.2 (by omega)
    go_enter Tryd.func23, Tryd.ntmps23
    go_wp2_with fail
    refine (hL.out _).mono ?_; rintro e w1 ⟨rfl, B1⟩
    have hB := below_box B1
    clear hK0 B1
    go_wp2
    go_ret
    exact ⟨rfl, hB⟩
end Go.Proofs.YtcdoidhookghaaaDoor

/- The reference's HoldOf: hundredth by hundredth, the last length first. -/
namespace Go.Proofs.YtcdoidhookghaaaDoor
open Go.RowKit
set_option linter.unusedVariables false

set_option maxHeartbeats 3200000 in
set_option maxRecDepth 100000 in
theorem holdOf_c (A1 A2 : Option Addr) (n c1 c2 : Nat) (best most : List Int) (w : World) (h1 : RI 3 w A1 n best) (h2 : RI 3 w A2 n most) (hn1 : 1 ≤ n) (hn : n ≤ 240) (hbd : ∀ (k : Nat) (b m : Int), best[k]? = some b → most[k]? = some m → 1 ≤ b ∧ b ≤ m ∧ m ≤ 360000) :
    Calls Tryd.prog 25 #[.slice A1 n c1, .slice A2 n c2] w fun e w' => ∃ A' c', e = .returned (.tuple #[.int .i64 (sumL (holdG best most (couldL best most / 2)).1), .slice A' n c']) ∧ RI 3 w' A' n (runL 0 (holdG best most (couldL best most / 2)).1) ∧ Below w.heap.size w w' := by
  have hbd' := Lib.hid hbd
  have hl1 := Lib.hid h1.len
  have hl2 := Lib.hid h2.len
  clear hbd
  generalize hC : couldL best most = C
  have hC' := Lib.hid hC
  clear hC
  go_enter Tryd.func25, Tryd.ntmps25
  go_wp2_with fail
  refine (clone_c _ _ _ _ _ h2 (by omega)).mono ?_; rintro e w1 ⟨A3, c3, rfl, hown1, hB1⟩
  obtain ⟨bo, rfl, hbo⟩ := own_some hown1 (by omega)
  go_wp2_with fail
  go_loopw [7, 18] (fun s i wr => ∃ (k : Nat) (v : Int), k ≤ n ∧ i = .int .i64 k ∧ s = .int .i64 v ∧ 0 ≤ v ∧ v ≤ 360000 * k ∧ Hid (v + couldL (best.drop k) (most.drop k) = C) ∧ wr.ownsRow w.heap.size 3 1 (.slice (some ⟨bo, 0, none⟩) n c3) n (ints most) ∧ Below w.heap.size w wr) (fun _ i _ => n - (intOf i).toNat)
  case atStart => exact ⟨0, 0, Nat.zero_le _, rfl, rfl, by decide, by decide, Lib.hid (by rw [List.drop_zero, List.drop_zero, hC'.out]; exact Int.zero_add _), hown1, hB1⟩
  case round =>
    clear hown1 hB1
    obtain ⟨k, v, hk, rfl, rfl, hv0, hvk, hv, hown, hB⟩ := hrel
    by_cases hlt : k < n
    · obtain ⟨b1, o1, b, rfl, l1, hb, cb⟩ := (h1.below hB).at_ hlt
      obtain ⟨b2, o2, m, rfl, l2, hm, cm⟩ := (h2.below hB).at_ hlt
      obtain ⟨q1, q2, q3⟩ := hbd'.out k b m hb hm
      have hst := Lib.hid (couldL_at hb hm)
      clear hb hm
      go_wp2_with fail
      go_quiet (fail)
      go_wp2_with fail
      go_roundw
      case rel => exact ⟨k + 1, v + (m - b), by omega, by go_num, rfl, by omega, by omega, Lib.hid (by rw [← hv.out, hst.out]; omega), hown, below_drewN hB _⟩
      case measure => simp [intOf]; omega
    · obtain rfl : k = n := by omega
      have hv' := hv.out
      rw [couldL_end (by rw [hl1.out]; exact Nat.le_refl _), Int.add_zero] at hv'
      subst hv'
      clear hv
      have hown0 : wr.ownsRow w.heap.size 3 1 (.slice (some ⟨bo, 0, none⟩) k c3) k (ints (mixH most best most (v / 2) k)) := by rw [mixH_full _ hl2.out hl1.out]; exact hown
      have hL0 : (holdG (best.drop k) (most.drop k) (v / 2)).2 = v / 2 := by rw [holdG_end _ (by rw [hl1.out]; exact Nat.le_refl _)]
      have hv2 : 0 ≤ v / 2 ∧ v / 2 ≤ 360000 * k := by omega
      have hbd2 := Lib.hid (fun j => (holdG_bd (best.drop j) (most.drop j) (v / 2) hv2.1 (fun q b m hb hm => hbd'.out (j + q) b m (by rwa [List.getElem?_drop] at hb) (by rwa [List.getElem?_drop] at hm))))
      clear hown
      go_wp2_with fail
      go_loopw [7, 9] (fun s i wr => ∃ (j : Nat) (u : Int), j ≤ k ∧ i = .int .i64 ((j : Int) - 1) ∧ s = .int .i64 u ∧ 0 ≤ u ∧ u ≤ 86400000 ∧ Hid ((holdG (best.drop j) (most.drop j) (v / 2)).2 = u) ∧ wr.ownsRow w.heap.size 3 1 (.slice (some ⟨bo, 0, none⟩) k c3) k (ints (mixH most best most (v / 2) j)) ∧ Below w.heap.size w wr) (fun _ i _ => (intOf i + 1).toNat)
      case atStart => exact ⟨k, v / 2, Nat.le_refl _, rfl, rfl, hv2.1, by omega, Lib.hid hL0, hown0, hB⟩
      case round =>
        clear hown0 hB hL0
        obtain ⟨j, u, hj, rfl, rfl, hu0, hu1, hu, hown, hB⟩ := hrel
        by_cases hj0 : j = 0
        · subst hj0
          have hu' := hu
          rw [mixH_zero] at hown
          generalize hG : (holdG best most (v / 2)).1 = G at *
          have hG' := Lib.hid hG
          have hGl : G.length = k := by
            have := hown.1
            rw [ints_len] at this; omega
          have hGb := Lib.hid (fun (x : Int) (hx : x ∈ G) => show 1 ≤ x ∧ x ≤ 360000 from (hbd2.out 0).2 x (by rw [List.drop_zero, List.drop_zero, hG]; exact hx))
          have hbz : bo < wr.heap.size := (hown.lt bo rfl).2
          obtain ⟨zb, hzb⟩ : ∃ zb, zb = wr.heap.size := ⟨_, rfl⟩
          rw [← hzb] at hbz
          have hzw : w.heap.size ≤ zb := by have := hB.size; omega
          have hz0 : zb ≤ wr.heap.size := by omega
          have hR0 := hown
          clear hown hu hu' hbd2 hzb
          go_wp2_with fail
          go_loopw [10, 11, 65] (fun out s i wr => ∃ (p : Nat) (a : Int) (acc : List Int), p ≤ k ∧ i = .int .i64 p ∧ s = .int .i64 a ∧ 0 ≤ a ∧ a ≤ 360000 * p ∧ acc.length = p ∧ Hid (acc ++ runL a (G.drop p) = runL 0 G) ∧ Hid (a + sumL (G.drop p) = sumL G) ∧ wr.ownsRow zb 3 1 out p (ints acc) ∧ wr.ownsRow w.heap.size 3 1 (.slice (some ⟨bo, 0, none⟩) k c3) k (ints G) ∧ zb ≤ wr.heap.size ∧ Below w.heap.size w wr) (fun _ _ i _ => k - (intOf i).toNat)
          case atStart => exact ⟨0, 0, [], Nat.zero_le _, rfl, rfl, by decide, by decide, rfl, Lib.hid rfl, Lib.hid (by rw [List.drop_zero]; exact Int.zero_add _), World.ownsRow_nil _ _ _ _, hR0, hz0, hB⟩
          case round =>
            clear hR0 hB hz0
            obtain ⟨p, a, acc, hp, rfl, rfl, ha0, ha1, hacc, hr, hs, hown, hRo, hz, hB⟩ := hrel
            have hR : RI 3 wr (some ⟨bo, 0, none⟩) k G := R1.of_own hRo (by omega)
            have hacc' := Lib.hid hacc
            clear hacc
            by_cases hpk : p < k
            · obtain ⟨b4, o4, x, he, l4, hx, c4⟩ := hR.at_ hpk
              obtain ⟨rfl, rfl⟩ : bo = b4 ∧ 0 = o4 := by injection he with e; injection e with e1 e2; exact ⟨e1, e2⟩
              rw [Nat.zero_add] at c4
              have hxb := hGb.out x (mem_of_at hx)
              have hr1 := Lib.hid (show (acc ++ [a + x]) ++ runL (a + x) (G.drop (p + 1)) = runL 0 G by rw [← hr.out, runL_at a hx, List.append_assoc]; rfl)
              have hs1 := Lib.hid (show (a + x) + sumL (G.drop (p + 1)) = sumL G by rw [← hs.out, drop_at hx]; simp only [sumL]; omega)
              obtain ⟨hx0, hx1⟩ := hxb
              clear he hr hs hx hR
              go_wp2_with (at_builtin; refine wpList_app rfl (.tmp 72) (.tmp 74) 22 rfl Tryd.underlying22 info_int rfl (by omega) (by omega) hown rfl rfl (by first | rfl | (simp; done)) rfl (by simp [Value.oneCell']) (by omega) hz ?_; intro v' w' hown' hg)
              go_roundw
              case rel => exact ⟨_, _, _, _, ⟨p + 1, by omega, by go_num, a + x, rfl, by omega, by omega, acc ++ [a + x], by rw [List.length_append, hacc'.out]; rfl, hr1, hs1, by rw [ints_app]; exact hown', hRo.kept hg (.inr (fun e => by have := own_row_lt hown bo e.symm; omega)), Nat.le_trans hz hg.size, below_own hB hown hg hB.size hzw⟩, rfl, rfl, rfl, rfl⟩
              case measure => simp [intOf]; omega
            · obtain rfl : p = k := by omega
              have hre := hr.out
              have hse := hs.out
              rw [drop_end (by omega)] at hre hse
              simp only [runL, List.append_nil] at hre
              simp only [sumL, Int.add_zero] at hse
              rw [← hG'.out] at hse
              subst hse
              obtain ⟨A', c', rfl⟩ := own_shape hown
              have hRR : RI 3 wr A' p acc := R1.of_own hown (by omega)
              rw [hre, ← hG'.out] at hRR
              clear hown hR hRo hr hs
              go_wp2
              go_ret2
              exact ⟨_, _, rfl, hRR, hB⟩
        · obtain ⟨q, rfl⟩ : ∃ q : Nat, j = q + 1 := ⟨j - 1, by omega⟩
          obtain ⟨b1, o1, b, rfl, l1, hb, cb⟩ := (h1.below hB).at_ (k := q) (by omega)
          obtain ⟨m, hm⟩ := at_of_lt (l := most) (k := q) (by rw [hl2.out]; omega)
          have hbm := hbd'.out q b m hb hm
          have hbk := Lib.hid hb
          have hgat := Lib.hid (holdG_at (v / 2) hb hm)
          have hms := Lib.hid (mixH_set (v / 2) hm hb hm)
          have hma := mixH_at best most (v / 2) hm
          have hlen := hown.1
          rw [ints_len, Nat.mul_one] at hlen
          have hix : ((q + 1 : Nat) : Int) - 1 = (q : Int) := by omega
          generalize hL1 : mixH most best most (v / 2) (q + 1) = L1 at *
          have hsame := set_same hma
          clear hL1 hb hm
          obtain ⟨m1, m2, m3⟩ := hbm
          rw [hix]
          go_wp2_with fail
          have hown1 : wr.ownsRow w.heap.size 3 1 (.slice (some ⟨bo, 0, none⟩) k c3) k (ints (L1.set q (m - 0))) := by rw [Int.sub_zero, hsame]; exact hown
          have hfin := Lib.hid (show ∀ t : Int, t = min u (m - b) → L1.set q (m - t) = mixH most best most (v / 2) q ∧ (holdG (best.drop q) (most.drop q) (v / 2)).2 = u - t from fun t ht => by
            refine ⟨?_, ?_⟩
            · rw [← hms.out, hu.out, ht]
            · rw [hgat.out, hu.out, ht])
          clear hown hsame hgat hms hu
          go_loopw [7] (fun s wr => ∃ t : Int, 0 ≤ t ∧ t ≤ u ∧ t ≤ m - b ∧ s = .int .i64 (u - t) ∧ wr.ownsRow w.heap.size 3 1 (.slice (some ⟨bo, 0, none⟩) k c3) k (ints (L1.set q (m - t))) ∧ Below w.heap.size w wr) (fun s _ => (intOf s).toNat)
          case atStart => exact ⟨0, by omega, by omega, by omega, by rw [Int.sub_zero], hown1, hB⟩
          case round =>
            clear hown1 hB cb
            obtain ⟨t, ht0, ht1, ht2, rfl, hown, hB⟩ := hrel
            obtain ⟨b1', o1', b', he, l1', hb', cb⟩ := (h1.below hB).at_ (k := q) (by omega)
            have hc := hown.cellAt q (by omega)
            rw [ints_at, List.getElem?_set_self (by omega)] at hc
            simp only [Option.map_some] at hc
            have hf := hown.frozenAt
            rw [hbk.out] at hb'
            obtain rfl : b = b' := by injection hb'
            obtain ⟨rfl, rfl⟩ : b1 = b1' ∧ o1 = o1' := by injection he with e; injection e with e1 e2; exact ⟨e1, e2⟩
            clear hb' he
            have hst := Lib.hid (show ∀ nq, ((wr.drewN nq).setCell ⟨bo, q, none⟩ (.int .i64 (m - t - 1))).ownsRow w.heap.size 3 1 (.slice (some ⟨bo, 0, none⟩) k c3) k (ints (L1.set q (m - (t + 1)))) from fun nq => by
              have h := ((show (wr.drewN nq).ownsRow w.heap.size 3 1 (.slice (some ⟨bo, 0, none⟩) k c3) k (ints (L1.set q (m - t))) from hown).stored q (.int .i64 (m - t - 1))).1
              rw [ints_set, List.set_set, show m - t - 1 = m - (t + 1) from by omega] at h
              rw [show m - t - 1 = m - (t + 1) from by omega]; exact h)
            have hown' := Lib.hid hown
            have hBst := Lib.hid (fun nq => (below_drewN hB nq).setCell (p := ⟨bo, q, none⟩) hbo (.int .i64 (m - t - 1)))
            have hB' := Lib.hid hB
            clear hown hB
            by_cases g1 : t < u
            · have hd := decide_eq_true (show (0 : Int) < u - t by omega)
              by_cases g2 : t < m - b
              · go_wp2_with fail
                go_quiet (fail)
                go_wp2_with fail
                go_roundw
                case rel => exact ⟨t + 1, by omega, by omega, by omega, by rw [show u - (t + 1) = u - t - 1 from by omega], hst.out _, hBst.out _⟩
                case measure => simp [intOf]; omega
              · have hfi := hfin.out t (by omega)
                have hf1 := Lib.hid hfi.1
                have hf2 := Lib.hid hfi.2
                clear hfi
                go_wp2_with fail
                go_quiet (fail)
                go_wp2_with fail
                go_roundw
                case rel => exact ⟨q, u - t, by omega, rfl, rfl, by omega, by omega, hf2, by rw [← hf1.out]; exact hown'.out, below_drewN hB'.out _⟩
                case measure => simp [intOf] <;> omega
            · have hd : decide ((0 : Int) < u - t) = false := by simpa using (by omega : u ≤ t)
              have hd2 : decide (t < u) = false := by simpa using g1
              have hfi := hfin.out t (by omega)
              have hf1 := Lib.hid hfi.1
              have hf2 := Lib.hid hfi.2
              clear hfi
              go_wp2_with fail
              go_quiet (fail)
              go_wp2_with fail
              go_roundw
              case rel => exact ⟨q, u - t, by omega, rfl, rfl, by omega, by omega, hf2, by rw [← hf1.out]; exact hown'.out, below_drewN hB'.out _⟩
              case measure => simp [intOf] <;> omega
end Go.Proofs.YtcdoidhookghaaaDoor

/- race.Hold: errors and answers in one. -/
namespace Go.Proofs.YtcdoidhookghaaaDoor
open Go.RowKit
set_option linter.unusedVariables false

def RetH (B : World) (S : Int) (L : List Int) (E : Int) (e : Ending) (w' : World) : Prop :=
  ∃ A' n' c', e = .returned (.tuple #[.int .i64 (if E = 0 then S else 0), .slice A' n' c', .int .i64 E]) ∧ RI 3 w' A' n' (if E = 0 then L else []) ∧ Below B.heap.size B w'
theorem retH_err {B w' : World} {S E x : Int} {L : List Int} (h : E = x) (hx : x ≠ 0) (hb : Below B.heap.size B w') : RetH B S L E (.returned (.tuple #[.int .i64 0, .slice none 0 0, .int .i64 x])) w' := by
  subst h
  refine ⟨none, 0, 0, ?_, ?_, hb⟩
  · rw [if_neg hx]
  · rw [if_neg hx]; exact R1.nil_ _ _ _ _
theorem retH_ok {B w' : World} {S E s : Int} {L l : List Int} {A : Option Addr} {n c : Nat} (h : E = 0) (hs : s = S) (hl : l = L) (hr : RI 3 w' A n l) (hb : Below B.heap.size B w') : RetH B S L E (.returned (.tuple #[.int .i64 s, .slice A n c, .int .i64 0])) w' := by
  subst h; subst hs; subst hl
  exact ⟨A, n, c, rfl, hr, hb⟩
def holdE (r : Race) (best most : List Int) : Int := if raceErr r ≠ 0 then raceErr r else holdErr r best most
def holdLs (best most : List Int) : List Int := (holdG best most (couldL best most / 2)).1
set_option maxHeartbeats 3200000 in
set_option maxRecDepth 100000 in
theorem hold_c (r : Race) (A1 A2 : Option Addr) (n1 n2 c1 c2 : Nat) (best most : List Int) (w : World) (h1 : RI 3 w A1 n1 best) (h2 : RI 3 w A2 n2 most) :
    Calls Tryd.prog 22 #[r.val, .slice A1 n1 c1, .slice A2 n2 c2] w (RetH w (sumL (holdLs best most)) (runL 0 (holdLs best most)) (holdE r best most)) := by
  have hK0 := heap_alloc_new w (.cells r.cells 27)
  by_cases hr : raceErr r = 0
  · obtain ⟨hv1, hv2⟩ := lenV_bd hr
    have hL := Lib.hid (fun W => Lengths_ok r W hr)
    have hE : holdE r best most = if (n1 : Int) ≠ lenV r ∨ (n2 : Int) ≠ lenV r then 3 else hGo best most 0 := by unfold holdE holdErr; rw [if_neg (by simpa using hr), h1.len, h2.len]
    rw [hE]
    clear hE hr
    obtain ⟨N, hN⟩ : ∃ N : Nat, lenV r = N := ⟨(lenV r).toNat, by omega⟩
    rw [hN] at hv1 hv2 hL ⊢
    clear hN
    obtain ⟨key, metres, stroke, course, legs, sex, young, old⟩ := r
    dsimp only [Race.val, Race.cells] at *
    by_cases e1 : n1 = N
    · by_cases e2 : n2 = N
      · subst e1
        subst e2
        have hT : (if (n2 : Int) ≠ (n2 : Int) ∨ (n2 : Int) ≠ (n2 : Int) then (3 : Int) else hGo best most 0) = hGo best most 0 := by simp
        rw [hT]
        clear hT
        generalize hE : hGo best most 0 = E
        have hE' := Lib.hid hE
        have hl1 := Lib.hid h1.len
        have hl2 := Lib.hid h2.len
        clear hE
        unfold holdLs
        generalize hC : couldL best most = C
        have hC' := Lib.hid hC
        clear hC
        obtain ⟨i0, hi, hz0, hz1, hz2⟩ := info_parts info_int
        go_enter Tryd.func22, Tryd.ntmps22
        go_wp2_with fail
        refine (hL.out _).mono ?_; rintro e w1 ⟨rfl, B1⟩
        have hB := below_box B1
        clear hK0 B1
        go_wp2_with fail
        go_loopw [11, 12, 41] (fun s cd i wr => ∃ (k : Nat) (v u : Int), k ≤ n2 ∧ i = .int .i64 k ∧ s = .int .i64 v ∧ cd = .int .i64 u ∧ 0 ≤ v ∧ v ≤ 360000 * k ∧ 0 ≤ u ∧ u ≤ 360000 * k ∧ Hid (hGo (best.drop k) (most.drop k) v = E ∧ u + couldL (best.drop k) (most.drop k) = C ∧ v + sumL (most.drop k) = sumL most) ∧ Below w.heap.size w wr) (fun _ _ i _ => n2 - (intOf i).toNat)
        case atStart => exact ⟨0, 0, 0, Nat.zero_le _, rfl, rfl, rfl, by decide, by decide, by decide, by decide, Lib.hid ⟨hE'.out, by rw [List.drop_zero, List.drop_zero, hC'.out]; exact Int.zero_add _, by rw [List.drop_zero]; exact Int.zero_add _⟩, hB⟩
        case round =>
          clear hB
          obtain ⟨k, v, u, hk, rfl, rfl, rfl, hv0, hvk, hu0, huk, hv, hB⟩ := hrel
          by_cases hlt : k < n2
          · obtain ⟨b1, o1, b, rfl, l1, hb, cb⟩ := (h1.below hB).at_ hlt
            obtain ⟨b2, o2, m, rfl, l2, hm, cm⟩ := (h2.below hB).at_ hlt
            have hst := Lib.hid (And.intro (hGo_at v hb hm) (And.intro (couldL_at hb hm) (drop_at hm)))
            clear hb hm
            generalize hq : decide ((1 : Int) ≤ b ∧ b ≤ m) = q
            have hIn := Lib.hid (show ∀ W, Calls Tryd.prog 78 #[.int .i64 b, .int .i64 1, .int .i64 m] W fun e w' => e = .returned (.bool q) ∧ w' = W from fun W => by rw [← hq]; exact (within_c b 1 m W).mono (fun _ _ h => ⟨h.1, h.2.symm⟩))
            cases q
            · have hE1 := Lib.hid (show E = 1 by rw [← hv.out.1, hst.out.1, if_pos (Or.inl (by simpa using hq))])
              clear hq hst hv
              go_wp2_with fail
              go_quiet ((go_at_call 78; refine Calls.quiet_of_same (hIn.out _)))
              go_wp2
              go_ret3
              exact retH_err hE1.out (by decide) (below_drewN hB _)
            · have hq2 : 1 ≤ b ∧ b ≤ m := by simpa using hq
              clear hq
              obtain ⟨q1, q2⟩ := hq2
              by_cases q3 : m ≤ 360000
              · have hnx := Lib.hid (show hGo (best.drop (k + 1)) (most.drop (k + 1)) (v + m) = E ∧ u + m - b + couldL (best.drop (k + 1)) (most.drop (k + 1)) = C ∧ v + m + sumL (most.drop (k + 1)) = sumL most from by
                  obtain ⟨a1, a2, a3⟩ := hv.out
                  obtain ⟨s1, s2, s3⟩ := hst.out
                  refine ⟨by rw [← a1, s1, if_neg (by omega)], by rw [← a2, s2]; omega, by rw [← a3, s3]; simp only [sumL]; omega⟩)
                clear hst hv
                have hd : decide ((360000 : Int) < m) = false := by simpa using q3
                go_wp2_with fail
                go_quiet ((go_at_call 78; refine Calls.quiet_of_same (hIn.out _)))
                go_wp2_with fail
                go_quiet (fail)
                go_wp2_with fail
                go_roundw
                case rel => exact ⟨k + 1, v + m, u + m - b, by omega, by go_num, rfl, rfl, by omega, by omega, by omega, by omega, hnx, below_drewN hB _⟩
                case measure => simp [intOf]; omega
              · have hE1 := Lib.hid (show E = 1 by rw [← hv.out.1, hst.out.1, if_pos (Or.inr (by omega))])
                clear hst hv
                have hd : decide ((360000 : Int) < m) = true := by simpa using (by omega : (360000 : Int) < m)
                go_wp2_with fail
                go_quiet ((go_at_call 78; refine Calls.quiet_of_same (hIn.out _)))
                go_wp2
                go_ret3
                exact retH_err hE1.out (by decide) (below_drewN hB _)
          · obtain rfl : k = n2 := by omega
            obtain ⟨a1, a2, a3⟩ := hv.out
            rw [drop_end (by rw [hl1.out]; exact Nat.le_refl _)] at a1 a2
            rw [drop_end (by rw [hl2.out]; exact Nat.le_refl _)] at a3
            simp only [sumL, Int.add_zero] at a3
            simp only [couldL, Int.add_zero] at a2
            subst a2
            by_cases q3 : v ≤ 360000
            · have hE1 := Lib.hid (show E = 0 by rw [← a1]; unfold hGo; rw [if_neg (by omega)])
              have hSv := Lib.hid a3
              clear hv a1 a3
              have hbd := Lib.hid (hGo_ok best most 0 (hE'.out.trans hE1.out))
              have hv2 : 0 ≤ u / 2 ∧ u / 2 ≤ 360000 * k := by omega
              have hbd2 := Lib.hid (fun j => (holdG_bd (best.drop j) (most.drop j) (u / 2) hv2.1 (fun q b m hb hm => hbd.out (j + q) b m (by rwa [List.getElem?_drop] at hb) (by rwa [List.getElem?_drop] at hm))))
              have hL0 : (holdG (best.drop k) (most.drop k) (u / 2)).2 = u / 2 := by rw [holdG_end _ (by rw [hl1.out]; exact Nat.le_refl _)]
              have hz := hB.size
              go_wp2_with (at_make; refine wpList_make_full _ rfl _ _ 22 rfl w.heap.size 3 i0 _ 1 Tryd.underlying22 hi hz0 hz1 _ _ _ _ k rfl rfl rfl rfl (by rw [hz2]; omega) (by unfold maxLen; omega) hz ?_; intro w2 hown1 hg1)
              have hB1 : Below w.heap.size w w2 := hB.grown hg1 hz (fun k e => by cases e)
              have hown0 : w2.ownsRow w.heap.size 3 1 (.slice (some ⟨wr.heap.size, 0, none⟩) k k) k (ints (mixH (List.replicate k 0) best most (u / 2) k)) := by
                rw [mixH_full _ (by simp) hl1.out, ints_repl, ← toList_madeCells_one]
                simp only [Nat.mul_one] at hown1
                exact hown1
              have hbo : w.heap.size ≤ wr.heap.size := hz
              generalize wr.heap.size = bo at *
              clear hown1 hg1 hB hz hi hz0 hz1 hz2
              go_wp2_with fail
              go_loopw [14, 16] (fun s i wr => ∃ (j : Nat) (z : Int), j ≤ k ∧ i = .int .i64 ((j : Int) - 1) ∧ s = .int .i64 z ∧ 0 ≤ z ∧ z ≤ 86400000 ∧ Hid ((holdG (best.drop j) (most.drop j) (u / 2)).2 = z) ∧ wr.ownsRow w.heap.size 3 1 (.slice (some ⟨bo, 0, none⟩) k k) k (ints (mixH (List.replicate k 0) best most (u / 2) j)) ∧ Below w.heap.size w wr) (fun _ i _ => (intOf i + 1).toNat)
              case atStart => exact ⟨k, u / 2, Nat.le_refl _, rfl, rfl, hv2.1, by omega, Lib.hid hL0, hown0, hB1⟩
              case round =>
                clear hown0 hB1 hL0
                obtain ⟨j, z, hj, rfl, rfl, hu0, hu1, hu, hown, hB⟩ := hrel
                by_cases hj0 : j = 0
                · subst hj0
                  rw [mixH_zero] at hown
                  have hSG := Lib.hid (show v - u / 2 = sumL (holdG best most (u / 2)).1 from by
                    have h := holdG_all best most (by rw [hl1.out, hl2.out]) (fun k b m hb hm => (hbd.out k b m hb hm).2.1)
                    rw [hC'.out] at h
                    rw [h, hSv.out])
                  generalize hG : (holdG best most (u / 2)).1 = G at *
                  have hG' := Lib.hid hG
                  have hGl : G.length = k := by
                    have := hown.1
                    rw [ints_len] at this; omega
                  have hGb := Lib.hid (fun (x : Int) (hx : x ∈ G) => show 1 ≤ x ∧ x ≤ 360000 from (hbd2.out 0).2 x (by rw [List.drop_zero, List.drop_zero, hG]; exact hx))
                  have hbz : bo < wr.heap.size := (hown.lt bo rfl).2
                  obtain ⟨zb, hzb⟩ : ∃ zb, zb = wr.heap.size := ⟨_, rfl⟩
                  rw [← hzb] at hbz
                  have hzw : w.heap.size ≤ zb := by have := hB.size; omega
                  have hz0 : zb ≤ wr.heap.size := by omega
                  have hR0 := hown
                  clear hown hu hbd2 hzb hG
                  go_wp2_with fail
                  go_loopw [18, 19, 116] (fun out s i wr => ∃ (p : Nat) (a : Int) (acc : List Int), p ≤ k ∧ i = .int .i64 p ∧ s = .int .i64 a ∧ 0 ≤ a ∧ a ≤ 360000 * p ∧ acc.length = p ∧ Hid (acc ++ runL a (G.drop p) = runL 0 G) ∧ wr.ownsRow zb 3 1 out p (ints acc) ∧ wr.ownsRow w.heap.size 3 1 (.slice (some ⟨bo, 0, none⟩) k k) k (ints G) ∧ zb ≤ wr.heap.size ∧ Below w.heap.size w wr) (fun _ _ i _ => k - (intOf i).toNat)
                  case atStart => exact ⟨0, 0, [], Nat.zero_le _, rfl, rfl, by decide, by decide, rfl, Lib.hid rfl, World.ownsRow_nil _ _ _ _, hR0, hz0, hB⟩
                  case round =>
                    clear hR0 hB hz0
                    obtain ⟨p, a, acc, hp, rfl, rfl, ha0, ha1, hacc, hr, hown, hRo, hz, hB⟩ := hrel
                    have hR : RI 3 wr (some ⟨bo, 0, none⟩) k G := R1.of_own hRo (by omega)
                    have hacc' := Lib.hid hacc
                    clear hacc
                    by_cases hpk : p < k
                    · obtain ⟨b4, o4, x, he, l4, hx, c4⟩ := hR.at_ hpk
                      obtain ⟨rfl, rfl⟩ : bo = b4 ∧ 0 = o4 := by injection he with e; injection e with e1 e2; exact ⟨e1, e2⟩
                      rw [Nat.zero_add] at c4
                      have hxb := hGb.out x (mem_of_at hx)
                      have hr1 := Lib.hid (show (acc ++ [a + x]) ++ runL (a + x) (G.drop (p + 1)) = runL 0 G by rw [← hr.out, runL_at a hx, List.append_assoc]; rfl)
                      obtain ⟨hx0, hx1⟩ := hxb
                      clear he hr hx hR
                      go_wp2_with (at_builtin; refine wpList_app rfl (.tmp 123) (.tmp 125) 22 rfl Tryd.underlying22 info_int rfl (by omega) (by omega) hown rfl rfl (by first | rfl | (simp; done)) rfl (by simp [Value.oneCell']) (by omega) hz ?_; intro v' w' hown' hg)
                      go_roundw
                      case rel => exact ⟨_, _, _, _, ⟨p + 1, by omega, by go_num, a + x, rfl, by omega, by omega, acc ++ [a + x], by rw [List.length_append, hacc'.out]; rfl, hr1, by rw [ints_app]; exact hown', hRo.kept hg (.inr (fun e => by have := own_row_lt hown bo e.symm; omega)), Nat.le_trans hz hg.size, below_own hB hown hg hB.size hzw⟩, rfl, rfl, rfl, rfl⟩
                      case measure => simp [intOf]; omega
                    · obtain rfl : p = k := by omega
                      have hre := hr.out
                      rw [drop_end (by omega)] at hre
                      simp only [runL, List.append_nil] at hre
                      obtain ⟨A', c', rfl⟩ := own_shape hown
                      have hRR : RI 3 wr A' p acc := R1.of_own hown (by omega)
                      clear hown hR hRo hr
                      go_wp2
                      go_ret3
                      exact retH_ok hE1.out hSG.out hre hRR hB
                · obtain ⟨q, rfl⟩ : ∃ q : Nat, j = q + 1 := ⟨j - 1, by omega⟩
                  obtain ⟨b1, o1, b, rfl, l1, hb, cb⟩ := (h1.below hB).at_ (k := q) (by omega)
                  obtain ⟨b2, o2, m, rfl, l2, hm, cm⟩ := (h2.below hB).at_ (k := q) (by omega)
                  obtain ⟨m1, m2, m3⟩ := hbd.out q b m hb hm
                  have hrep : (List.replicate k (0 : Int))[q]? = some 0 := by rw [List.getElem?_replicate]; exact if_pos (by omega)
                  have hfin := Lib.hid (And.intro (mixH_set (u / 2) hrep hb hm) (holdG_at (u / 2) hb hm))
                  have hma := mixH_at best most (u / 2) hrep
                  have hlen := hown.1
                  rw [ints_len, Nat.mul_one] at hlen
                  have hix : ((q + 1 : Nat) : Int) - 1 = (q : Int) := by omega
                  generalize hL1 : mixH (List.replicate k 0) best most (u / 2) (q + 1) = L1 at *
                  have hc := hown.cellAt q (by omega)
                  rw [ints_at, hma] at hc
                  simp only [Option.map_some] at hc
                  have hf := hown.frozenAt
                  have hst := Lib.hid (show ∀ nq, ((wr.drewN nq).setCell ⟨bo, q, none⟩ (.int .i64 (m - min z (m - b)))).ownsRow w.heap.size 3 1 (.slice (some ⟨bo, 0, none⟩) k k) k (ints (mixH (List.replicate k 0) best most (u / 2) q)) from fun nq => by
                    have h := ((show (wr.drewN nq).ownsRow w.heap.size 3 1 (.slice (some ⟨bo, 0, none⟩) k k) k (ints L1) from hown).stored q (.int .i64 (m - min z (m - b)))).1
                    rw [ints_set, ← hu.out, hfin.out.1] at h
                    rw [← hu.out]; exact h)
                  have hBst := Lib.hid (fun nq => (below_drewN hB nq).setCell (p := ⟨bo, q, none⟩) hbo (.int .i64 (m - min z (m - b))))
                  have hnz := Lib.hid (show (holdG (best.drop q) (most.drop q) (u / 2)).2 = z - min z (m - b) by rw [hfin.out.2, hu.out])
                  clear hL1 hb hm hma hrep hown hB hfin hu
                  rw [hix]
                  go_wp2_with fail
                  go_quiet (fail)
                  go_wp2_with fail
                  go_roundw
                  case rel => exact ⟨q, z - min z (m - b), by omega, rfl, rfl, by omega, by omega, hnz, hst.out _, hBst.out _⟩
                  case measure => simp [intOf] <;> omega
            · have hE1 := Lib.hid (show E = 2 by rw [← a1]; unfold hGo; rw [if_pos (by omega)])
              clear hv a1 a3
              go_wp2
              go_ret3
              exact retH_err hE1.out (by decide) hB
      · have hT : (if (n1 : Int) ≠ (N : Int) ∨ (n2 : Int) ≠ (N : Int) then (3 : Int) else hGo best most 0) = 3 := by rw [if_pos (Or.inr (by omega))]
        rw [hT]
        clear hT
        subst e1
        have hd : ((n2 : Int) != (n1 : Int)) = true := bne_iff_ne.2 (by omega)
        have hd0 : ((n1 : Int) != (n1 : Int)) = false := by simp
        go_enter Tryd.func22, Tryd.ntmps22
        go_wp2_with fail
        refine (hL.out _).mono ?_; rintro e w1 ⟨rfl, B1⟩
        have hB := below_box B1
        clear hK0 B1
        go_wp2
        go_ret3
        exact retH_err rfl (by decide) hB
    · have hT : (if (n1 : Int) ≠ (N : Int) ∨ (n2 : Int) ≠ (N : Int) then (3 : Int) else hGo best most 0) = 3 := by rw [if_pos (Or.inl (by omega))]
      rw [hT]
      clear hT
      have hd : ((n1 : Int) != (N : Int)) = true := bne_iff_ne.2 (by omega)
      go_enter Tryd.func22, Tryd.ntmps22
      go_wp2_with fail
      refine (hL.out _).mono ?_; rintro e w1 ⟨rfl, B1⟩
      have hB := below_box B1
      clear hK0 B1
      go_wp2
      go_ret3
      exact retH_err rfl (by decide) hB
  · have hL := Lib.hid (fun W => Lengths_err r W hr)
    have hE : holdE r best most = raceErr r := if_pos hr
    rw [hE]
    have hne : (raceErr r != 0) = true := by simpa using hr
    have hbe := beq_eq_false_iff_ne.2 hr
    have hr' := Lib.hid hr
    clear hE hr
    generalize raceErr r = E at *
    obtain ⟨key, metres, stroke, course, legs, sex, young, old⟩ := r
    dsimp only [Race.val, Race.cells] at *
    go_enter Tryd.func22, Tryd.ntmps22
    go_wp2_with fail
    refine (hL.out _).mono ?_; rintro e w1 ⟨rfl, B1⟩
    have hB := below_box B1
    clear hK0 B1
    go_wp2
    go_ret3
    exact retH_err rfl hr'.out hB
end Go.Proofs.YtcdoidhookghaaaDoor
