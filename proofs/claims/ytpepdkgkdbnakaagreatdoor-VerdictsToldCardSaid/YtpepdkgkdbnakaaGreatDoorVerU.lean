/- Claims against verdicts: slices.ContainsFunc of claims and reports; the closures of judge.Open, tumbref1.OpenOf, judge.granted, tumbref1.FinalOf. Printed by wip/genveru.py. -/
import Derived.Test.YtpepdkgkdbnakaaGreatDoorVerT
import Derived.Test.YtpepdkgkdbnakaaGreatDoorClmC
namespace Go.Proofs.YtpepdkgkdbnakaaGreatDoor
open Go.RowKit Go.Shelf Go.Lib Go.Sort
set_option linter.unusedVariables false

/-- a claim of a swimmer between two moments -/
def clB (who : ByteArray) (since at_ : Int) (x : Cm) : Bool := decide (x.who = who) && (decide (since ≤ x.tm) && decide (x.tm ≤ at_))
/-- a report that tells the fault again -/
def agB (who : ByteArray) (f t at_ : Int) (y : Rp) : Bool := !y.nt && (decide (y.who = who) && (decide (y.fault = f) && (decide (t < y.tm) && decide (y.tm ≤ at_))))
set_option maxRecDepth 100000 in
theorem idxOp_c (p : Cm → Bool) (p1 p2 p3 : Nat) (A : Option Addr) (n c : Nat) (l : List Cm) (w : World) (h : RCm w A n l) (hP : ∀ (x : Cm), x ∈ l → ∀ W, Below w.heap.size w W → Calls Tryz.prog 140 #[.agg (cmE x).toArray, .pointer (some ⟨p1, 0, none⟩), .pointer (some ⟨p2, 0, none⟩), .pointer (some ⟨p3, 0, none⟩)] W fun e w' => e = .returned (.bool (p x)) ∧ Below W.heap.size W w') :
    Calls Tryz.prog 221 #[.slice A n c, .func (.func 140) #[] #[.pointer (some ⟨p1, 0, none⟩), .pointer (some ⟨p2, 0, none⟩), .pointer (some ⟨p3, 0, none⟩)]] w fun e w' => ∃ i : Int, e = .returned (.int .i64 i) ∧ (decide (0 ≤ i) = l.any p) ∧ Below w.heap.size w w' := by
  have hz := Lib.hid hP
  have hR := Lib.hid (fun W B => h.below (w' := W) B)
  have hl := Lib.hid h.len
  have hbd := h.bd
  clear hP h
  go_enter Tryz.func221, Tryz.ntmps221
  go_wp2_with fail
  go_loopw [8] (fun i wr => ∃ k : Nat, k ≤ n ∧ i = .int .i64 k ∧ Below w.heap.size w wr ∧ Hid (∀ x ∈ l.take k, p x = false)) (fun i _ => n - (intOf i).toNat)
  case atStart => exact ⟨0, Nat.zero_le _, rfl, Below.refl _ _, Lib.hid (fun x hx => by simp at hx)⟩
  case round =>
    rename World => wr
    obtain ⟨k, hk, rfl, hB, hF⟩ := hrel
    by_cases hlt : k < n
    · obtain ⟨b, off, x, rfl, hbl, hx, c0, c1, c2⟩ := RCm_at3 (hR.out _ hB) hlt
      have hx' := Lib.hid hx
      have hzx := Lib.hid (hz.out x (List.mem_of_getElem? hx) wr hB)
      obtain ⟨pb, hpb⟩ : ∃ pb, p x = pb := ⟨_, rfl⟩
      rw [hpb] at hzx
      have hpb' := Lib.hid hpb
      obtain ⟨xw, xt, xg⟩ := x
      dsimp only [cmE] at *
      clear hx hpb
      cases pb
      · have hF2 := Lib.hid (show ∀ x ∈ l.take (k + 1), p x = false from fun x hx => by
          rw [List.take_add_one, hx'.out] at hx
          rcases List.mem_append.1 hx with hx | hx
          · exact hF.out x hx
          · simp at hx; subst hx; exact hpb'.out)
        clear hF hx' hpb'
        go_wp2_with fail
        refine hzx.out.mono ?_; rintro e w1 ⟨rfl, B1⟩
        have hB1 := below_next hB B1
        go_wp2
        go_roundw
        case rel => exact ⟨k + 1, by omega, by go_num, hB1, hF2⟩
        case measure => simp [intOf]; omega
      · have hI := Lib.hid (show decide (0 ≤ (k : Int)) = l.any p by
          rw [decide_eq_true (by omega), eq_comm, List.any_eq_true]
          exact ⟨_, List.mem_of_getElem? hx'.out, hpb'.out⟩)
        clear hF hx' hpb'
        go_wp2_with fail
        refine hzx.out.mono ?_; rintro e w1 ⟨rfl, B1⟩
        have hB1 := below_next hB B1
        go_wp2
        go_ret
        exact ⟨_, rfl, hI.out, hB1⟩
    · obtain rfl : k = n := by omega
      have hI := Lib.hid (show decide (0 ≤ (-1 : Int)) = l.any p by
        rw [decide_eq_false (by decide), eq_comm, List.any_eq_false]
        intro x hx
        have := hF.out x (by rw [List.take_of_length_le (by rw [hl.out]; exact Nat.le_refl _)]; exact hx)
        simp [this])
      go_wp2
      go_ret
      exact ⟨_, rfl, hI.out, hB⟩
theorem hasOp_c (p : Cm → Bool) (p1 p2 p3 : Nat) (A : Option Addr) (n c : Nat) (l : List Cm) (w : World) (h : RCm w A n l) (hP : ∀ (x : Cm), x ∈ l → ∀ W, Below w.heap.size w W → Calls Tryz.prog 140 #[.agg (cmE x).toArray, .pointer (some ⟨p1, 0, none⟩), .pointer (some ⟨p2, 0, none⟩), .pointer (some ⟨p3, 0, none⟩)] W fun e w' => e = .returned (.bool (p x)) ∧ Below W.heap.size W w') :
    Calls Tryz.prog 139 #[.slice A n c, .func (.func 140) #[] #[.pointer (some ⟨p1, 0, none⟩), .pointer (some ⟨p2, 0, none⟩), .pointer (some ⟨p3, 0, none⟩)]] w fun e w' => e = .returned (.bool (l.any p)) ∧ Below w.heap.size w w' := by
  have hI := Lib.hid (idxOp_c p p1 p2 p3 A n c l w h hP)
  clear hP h
  go_enter Tryz.func139, Tryz.ntmps139
  go_wp2_with fail
  refine hI.out.mono ?_; rintro e w1 ⟨i, rfl, hi, B1⟩
  have hi' := Lib.hid hi
  clear hi
  go_wp2
  go_ret
  exact ⟨by rw [← hi'.out]; rfl, B1⟩
set_option maxRecDepth 100000 in
theorem idxOr_c (p : Cm → Bool) (p1 p2 p3 : Nat) (A : Option Addr) (n c : Nat) (l : List Cm) (w : World) (h : RCm w A n l) (hP : ∀ (x : Cm), x ∈ l → ∀ W, Below w.heap.size w W → Calls Tryz.prog 147 #[.agg (cmE x).toArray, .pointer (some ⟨p1, 0, none⟩), .pointer (some ⟨p2, 0, none⟩), .pointer (some ⟨p3, 0, none⟩)] W fun e w' => e = .returned (.bool (p x)) ∧ Below W.heap.size W w') :
    Calls Tryz.prog 221 #[.slice A n c, .func (.func 147) #[] #[.pointer (some ⟨p1, 0, none⟩), .pointer (some ⟨p2, 0, none⟩), .pointer (some ⟨p3, 0, none⟩)]] w fun e w' => ∃ i : Int, e = .returned (.int .i64 i) ∧ (decide (0 ≤ i) = l.any p) ∧ Below w.heap.size w w' := by
  have hz := Lib.hid hP
  have hR := Lib.hid (fun W B => h.below (w' := W) B)
  have hl := Lib.hid h.len
  have hbd := h.bd
  clear hP h
  go_enter Tryz.func221, Tryz.ntmps221
  go_wp2_with fail
  go_loopw [8] (fun i wr => ∃ k : Nat, k ≤ n ∧ i = .int .i64 k ∧ Below w.heap.size w wr ∧ Hid (∀ x ∈ l.take k, p x = false)) (fun i _ => n - (intOf i).toNat)
  case atStart => exact ⟨0, Nat.zero_le _, rfl, Below.refl _ _, Lib.hid (fun x hx => by simp at hx)⟩
  case round =>
    rename World => wr
    obtain ⟨k, hk, rfl, hB, hF⟩ := hrel
    by_cases hlt : k < n
    · obtain ⟨b, off, x, rfl, hbl, hx, c0, c1, c2⟩ := RCm_at3 (hR.out _ hB) hlt
      have hx' := Lib.hid hx
      have hzx := Lib.hid (hz.out x (List.mem_of_getElem? hx) wr hB)
      obtain ⟨pb, hpb⟩ : ∃ pb, p x = pb := ⟨_, rfl⟩
      rw [hpb] at hzx
      have hpb' := Lib.hid hpb
      obtain ⟨xw, xt, xg⟩ := x
      dsimp only [cmE] at *
      clear hx hpb
      cases pb
      · have hF2 := Lib.hid (show ∀ x ∈ l.take (k + 1), p x = false from fun x hx => by
          rw [List.take_add_one, hx'.out] at hx
          rcases List.mem_append.1 hx with hx | hx
          · exact hF.out x hx
          · simp at hx; subst hx; exact hpb'.out)
        clear hF hx' hpb'
        go_wp2_with fail
        refine hzx.out.mono ?_; rintro e w1 ⟨rfl, B1⟩
        have hB1 := below_next hB B1
        go_wp2
        go_roundw
        case rel => exact ⟨k + 1, by omega, by go_num, hB1, hF2⟩
        case measure => simp [intOf]; omega
      · have hI := Lib.hid (show decide (0 ≤ (k : Int)) = l.any p by
          rw [decide_eq_true (by omega), eq_comm, List.any_eq_true]
          exact ⟨_, List.mem_of_getElem? hx'.out, hpb'.out⟩)
        clear hF hx' hpb'
        go_wp2_with fail
        refine hzx.out.mono ?_; rintro e w1 ⟨rfl, B1⟩
        have hB1 := below_next hB B1
        go_wp2
        go_ret
        exact ⟨_, rfl, hI.out, hB1⟩
    · obtain rfl : k = n := by omega
      have hI := Lib.hid (show decide (0 ≤ (-1 : Int)) = l.any p by
        rw [decide_eq_false (by decide), eq_comm, List.any_eq_false]
        intro x hx
        have := hF.out x (by rw [List.take_of_length_le (by rw [hl.out]; exact Nat.le_refl _)]; exact hx)
        simp [this])
      go_wp2
      go_ret
      exact ⟨_, rfl, hI.out, hB⟩
theorem hasOr_c (p : Cm → Bool) (p1 p2 p3 : Nat) (A : Option Addr) (n c : Nat) (l : List Cm) (w : World) (h : RCm w A n l) (hP : ∀ (x : Cm), x ∈ l → ∀ W, Below w.heap.size w W → Calls Tryz.prog 147 #[.agg (cmE x).toArray, .pointer (some ⟨p1, 0, none⟩), .pointer (some ⟨p2, 0, none⟩), .pointer (some ⟨p3, 0, none⟩)] W fun e w' => e = .returned (.bool (p x)) ∧ Below W.heap.size W w') :
    Calls Tryz.prog 139 #[.slice A n c, .func (.func 147) #[] #[.pointer (some ⟨p1, 0, none⟩), .pointer (some ⟨p2, 0, none⟩), .pointer (some ⟨p3, 0, none⟩)]] w fun e w' => e = .returned (.bool (l.any p)) ∧ Below w.heap.size w w' := by
  have hI := Lib.hid (idxOr_c p p1 p2 p3 A n c l w h hP)
  clear hP h
  go_enter Tryz.func139, Tryz.ntmps139
  go_wp2_with fail
  refine hI.out.mono ?_; rintro e w1 ⟨i, rfl, hi, B1⟩
  have hi' := Lib.hid hi
  clear hi
  go_wp2
  go_ret
  exact ⟨by rw [← hi'.out]; rfl, B1⟩
set_option maxRecDepth 100000 in
theorem idxFi_c (p : Cm → Bool) (p1 p2 p3 p4 : Nat) (A : Option Addr) (n c : Nat) (l : List Cm) (w : World) (h : RCm w A n l) (hP : ∀ (x : Cm), x ∈ l → ∀ W, Below w.heap.size w W → Calls Tryz.prog 142 #[.agg (cmE x).toArray, .pointer (some ⟨p1, 0, none⟩), .pointer (some ⟨p2, 0, none⟩), .pointer (some ⟨p3, 0, none⟩), .pointer (some ⟨p4, 0, none⟩)] W fun e w' => e = .returned (.bool (p x)) ∧ Below W.heap.size W w') :
    Calls Tryz.prog 221 #[.slice A n c, .func (.func 142) #[] #[.pointer (some ⟨p1, 0, none⟩), .pointer (some ⟨p2, 0, none⟩), .pointer (some ⟨p3, 0, none⟩), .pointer (some ⟨p4, 0, none⟩)]] w fun e w' => ∃ i : Int, e = .returned (.int .i64 i) ∧ (decide (0 ≤ i) = l.any p) ∧ Below w.heap.size w w' := by
  have hz := Lib.hid hP
  have hR := Lib.hid (fun W B => h.below (w' := W) B)
  have hl := Lib.hid h.len
  have hbd := h.bd
  clear hP h
  go_enter Tryz.func221, Tryz.ntmps221
  go_wp2_with fail
  go_loopw [8] (fun i wr => ∃ k : Nat, k ≤ n ∧ i = .int .i64 k ∧ Below w.heap.size w wr ∧ Hid (∀ x ∈ l.take k, p x = false)) (fun i _ => n - (intOf i).toNat)
  case atStart => exact ⟨0, Nat.zero_le _, rfl, Below.refl _ _, Lib.hid (fun x hx => by simp at hx)⟩
  case round =>
    rename World => wr
    obtain ⟨k, hk, rfl, hB, hF⟩ := hrel
    by_cases hlt : k < n
    · obtain ⟨b, off, x, rfl, hbl, hx, c0, c1, c2⟩ := RCm_at3 (hR.out _ hB) hlt
      have hx' := Lib.hid hx
      have hzx := Lib.hid (hz.out x (List.mem_of_getElem? hx) wr hB)
      obtain ⟨pb, hpb⟩ : ∃ pb, p x = pb := ⟨_, rfl⟩
      rw [hpb] at hzx
      have hpb' := Lib.hid hpb
      obtain ⟨xw, xt, xg⟩ := x
      dsimp only [cmE] at *
      clear hx hpb
      cases pb
      · have hF2 := Lib.hid (show ∀ x ∈ l.take (k + 1), p x = false from fun x hx => by
          rw [List.take_add_one, hx'.out] at hx
          rcases List.mem_append.1 hx with hx | hx
          · exact hF.out x hx
          · simp at hx; subst hx; exact hpb'.out)
        clear hF hx' hpb'
        go_wp2_with fail
        refine hzx.out.mono ?_; rintro e w1 ⟨rfl, B1⟩
        have hB1 := below_next hB B1
        go_wp2
        go_roundw
        case rel => exact ⟨k + 1, by omega, by go_num, hB1, hF2⟩
        case measure => simp [intOf]; omega
      · have hI := Lib.hid (show decide (0 ≤ (k : Int)) = l.any p by
          rw [decide_eq_true (by omega), eq_comm, List.any_eq_true]
          exact ⟨_, List.mem_of_getElem? hx'.out, hpb'.out⟩)
        clear hF hx' hpb'
        go_wp2_with fail
        refine hzx.out.mono ?_; rintro e w1 ⟨rfl, B1⟩
        have hB1 := below_next hB B1
        go_wp2
        go_ret
        exact ⟨_, rfl, hI.out, hB1⟩
    · obtain rfl : k = n := by omega
      have hI := Lib.hid (show decide (0 ≤ (-1 : Int)) = l.any p by
        rw [decide_eq_false (by decide), eq_comm, List.any_eq_false]
        intro x hx
        have := hF.out x (by rw [List.take_of_length_le (by rw [hl.out]; exact Nat.le_refl _)]; exact hx)
        simp [this])
      go_wp2
      go_ret
      exact ⟨_, rfl, hI.out, hB⟩
theorem hasFi_c (p : Cm → Bool) (p1 p2 p3 p4 : Nat) (A : Option Addr) (n c : Nat) (l : List Cm) (w : World) (h : RCm w A n l) (hP : ∀ (x : Cm), x ∈ l → ∀ W, Below w.heap.size w W → Calls Tryz.prog 142 #[.agg (cmE x).toArray, .pointer (some ⟨p1, 0, none⟩), .pointer (some ⟨p2, 0, none⟩), .pointer (some ⟨p3, 0, none⟩), .pointer (some ⟨p4, 0, none⟩)] W fun e w' => e = .returned (.bool (p x)) ∧ Below W.heap.size W w') :
    Calls Tryz.prog 139 #[.slice A n c, .func (.func 142) #[] #[.pointer (some ⟨p1, 0, none⟩), .pointer (some ⟨p2, 0, none⟩), .pointer (some ⟨p3, 0, none⟩), .pointer (some ⟨p4, 0, none⟩)]] w fun e w' => e = .returned (.bool (l.any p)) ∧ Below w.heap.size w w' := by
  have hI := Lib.hid (idxFi_c p p1 p2 p3 p4 A n c l w h hP)
  clear hP h
  go_enter Tryz.func139, Tryz.ntmps139
  go_wp2_with fail
  refine hI.out.mono ?_; rintro e w1 ⟨i, rfl, hi, B1⟩
  have hi' := Lib.hid hi
  clear hi
  go_wp2
  go_ret
  exact ⟨by rw [← hi'.out]; rfl, B1⟩
set_option maxRecDepth 100000 in
theorem idxGr_c (p : Rp → Bool) (p1 p2 p3 : Nat) (A : Option Addr) (n c : Nat) (l : List Rp) (w : World) (h : RRp w A n l) (hP : ∀ (x : Rp), x ∈ l → ∀ W, Below w.heap.size w W → Calls Tryz.prog 222 #[.agg (rpE x).toArray, .pointer (some ⟨p1, 0, none⟩), .pointer (some ⟨p2, 0, none⟩), .pointer (some ⟨p3, 0, none⟩)] W fun e w' => e = .returned (.bool (p x)) ∧ Below W.heap.size W w') :
    Calls Tryz.prog 158 #[.slice A n c, .func (.func 222) #[] #[.pointer (some ⟨p1, 0, none⟩), .pointer (some ⟨p2, 0, none⟩), .pointer (some ⟨p3, 0, none⟩)]] w fun e w' => ∃ i : Int, e = .returned (.int .i64 i) ∧ (decide (0 ≤ i) = l.any p) ∧ Below w.heap.size w w' := by
  have hz := Lib.hid hP
  have hR := Lib.hid (fun W B => h.below (w' := W) B)
  have hl := Lib.hid h.len
  have hbd := h.bd
  clear hP h
  go_enter Tryz.func158, Tryz.ntmps158
  go_wp2_with fail
  go_loopw [8] (fun i wr => ∃ k : Nat, k ≤ n ∧ i = .int .i64 k ∧ Below w.heap.size w wr ∧ Hid (∀ x ∈ l.take k, p x = false)) (fun i _ => n - (intOf i).toNat)
  case atStart => exact ⟨0, Nat.zero_le _, rfl, Below.refl _ _, Lib.hid (fun x hx => by simp at hx)⟩
  case round =>
    rename World => wr
    obtain ⟨k, hk, rfl, hB, hF⟩ := hrel
    by_cases hlt : k < n
    · obtain ⟨b, off, x, rfl, hbl, hx, c0, c1, c2, c3, c4, c5, c6⟩ := RRp_at7 (hR.out _ hB) hlt
      have hx' := Lib.hid hx
      have hzx := Lib.hid (hz.out x (List.mem_of_getElem? hx) wr hB)
      obtain ⟨pb, hpb⟩ : ∃ pb, p x = pb := ⟨_, rfl⟩
      rw [hpb] at hzx
      have hpb' := Lib.hid hpb
      obtain ⟨id, jd, wo, fault, tm, wt, nt⟩ := x
      dsimp only [rpE] at *
      clear hx hpb
      cases pb
      · have hF2 := Lib.hid (show ∀ x ∈ l.take (k + 1), p x = false from fun x hx => by
          rw [List.take_add_one, hx'.out] at hx
          rcases List.mem_append.1 hx with hx | hx
          · exact hF.out x hx
          · simp at hx; subst hx; exact hpb'.out)
        clear hF hx' hpb'
        go_wp2_with fail
        refine hzx.out.mono ?_; rintro e w1 ⟨rfl, B1⟩
        have hB1 := below_next hB B1
        go_wp2
        go_roundw
        case rel => exact ⟨k + 1, by omega, by go_num, hB1, hF2⟩
        case measure => simp [intOf]; omega
      · have hI := Lib.hid (show decide (0 ≤ (k : Int)) = l.any p by
          rw [decide_eq_true (by omega), eq_comm, List.any_eq_true]
          exact ⟨_, List.mem_of_getElem? hx'.out, hpb'.out⟩)
        clear hF hx' hpb'
        go_wp2_with fail
        refine hzx.out.mono ?_; rintro e w1 ⟨rfl, B1⟩
        have hB1 := below_next hB B1
        go_wp2
        go_ret
        exact ⟨_, rfl, hI.out, hB1⟩
    · obtain rfl : k = n := by omega
      have hI := Lib.hid (show decide (0 ≤ (-1 : Int)) = l.any p by
        rw [decide_eq_false (by decide), eq_comm, List.any_eq_false]
        intro x hx
        have := hF.out x (by rw [List.take_of_length_le (by rw [hl.out]; exact Nat.le_refl _)]; exact hx)
        simp [this])
      go_wp2
      go_ret
      exact ⟨_, rfl, hI.out, hB⟩
theorem hasGr_c (p : Rp → Bool) (p1 p2 p3 : Nat) (A : Option Addr) (n c : Nat) (l : List Rp) (w : World) (h : RRp w A n l) (hP : ∀ (x : Rp), x ∈ l → ∀ W, Below w.heap.size w W → Calls Tryz.prog 222 #[.agg (rpE x).toArray, .pointer (some ⟨p1, 0, none⟩), .pointer (some ⟨p2, 0, none⟩), .pointer (some ⟨p3, 0, none⟩)] W fun e w' => e = .returned (.bool (p x)) ∧ Below W.heap.size W w') :
    Calls Tryz.prog 148 #[.slice A n c, .func (.func 222) #[] #[.pointer (some ⟨p1, 0, none⟩), .pointer (some ⟨p2, 0, none⟩), .pointer (some ⟨p3, 0, none⟩)]] w fun e w' => e = .returned (.bool (l.any p)) ∧ Below w.heap.size w w' := by
  have hI := Lib.hid (idxGr_c p p1 p2 p3 A n c l w h hP)
  clear hP h
  go_enter Tryz.func148, Tryz.ntmps148
  go_wp2_with fail
  refine hI.out.mono ?_; rintro e w1 ⟨i, rfl, hi, B1⟩
  have hi' := Lib.hid hi
  clear hi
  go_wp2
  go_ret
  exact ⟨by rw [← hi'.out]; rfl, B1⟩
set_option maxRecDepth 100000 in
theorem idxFr_c (p : Rp → Bool) (p1 p2 p3 p4 : Nat) (A : Option Addr) (n c : Nat) (l : List Rp) (w : World) (h : RRp w A n l) (hP : ∀ (x : Rp), x ∈ l → ∀ W, Below w.heap.size w W → Calls Tryz.prog 149 #[.agg (rpE x).toArray, .pointer (some ⟨p1, 0, none⟩), .pointer (some ⟨p2, 0, none⟩), .pointer (some ⟨p3, 0, none⟩), .pointer (some ⟨p4, 0, none⟩)] W fun e w' => e = .returned (.bool (p x)) ∧ Below W.heap.size W w') :
    Calls Tryz.prog 158 #[.slice A n c, .func (.func 149) #[] #[.pointer (some ⟨p1, 0, none⟩), .pointer (some ⟨p2, 0, none⟩), .pointer (some ⟨p3, 0, none⟩), .pointer (some ⟨p4, 0, none⟩)]] w fun e w' => ∃ i : Int, e = .returned (.int .i64 i) ∧ (decide (0 ≤ i) = l.any p) ∧ Below w.heap.size w w' := by
  have hz := Lib.hid hP
  have hR := Lib.hid (fun W B => h.below (w' := W) B)
  have hl := Lib.hid h.len
  have hbd := h.bd
  clear hP h
  go_enter Tryz.func158, Tryz.ntmps158
  go_wp2_with fail
  go_loopw [8] (fun i wr => ∃ k : Nat, k ≤ n ∧ i = .int .i64 k ∧ Below w.heap.size w wr ∧ Hid (∀ x ∈ l.take k, p x = false)) (fun i _ => n - (intOf i).toNat)
  case atStart => exact ⟨0, Nat.zero_le _, rfl, Below.refl _ _, Lib.hid (fun x hx => by simp at hx)⟩
  case round =>
    rename World => wr
    obtain ⟨k, hk, rfl, hB, hF⟩ := hrel
    by_cases hlt : k < n
    · obtain ⟨b, off, x, rfl, hbl, hx, c0, c1, c2, c3, c4, c5, c6⟩ := RRp_at7 (hR.out _ hB) hlt
      have hx' := Lib.hid hx
      have hzx := Lib.hid (hz.out x (List.mem_of_getElem? hx) wr hB)
      obtain ⟨pb, hpb⟩ : ∃ pb, p x = pb := ⟨_, rfl⟩
      rw [hpb] at hzx
      have hpb' := Lib.hid hpb
      obtain ⟨id, jd, wo, fault, tm, wt, nt⟩ := x
      dsimp only [rpE] at *
      clear hx hpb
      cases pb
      · have hF2 := Lib.hid (show ∀ x ∈ l.take (k + 1), p x = false from fun x hx => by
          rw [List.take_add_one, hx'.out] at hx
          rcases List.mem_append.1 hx with hx | hx
          · exact hF.out x hx
          · simp at hx; subst hx; exact hpb'.out)
        clear hF hx' hpb'
        go_wp2_with fail
        refine hzx.out.mono ?_; rintro e w1 ⟨rfl, B1⟩
        have hB1 := below_next hB B1
        go_wp2
        go_roundw
        case rel => exact ⟨k + 1, by omega, by go_num, hB1, hF2⟩
        case measure => simp [intOf]; omega
      · have hI := Lib.hid (show decide (0 ≤ (k : Int)) = l.any p by
          rw [decide_eq_true (by omega), eq_comm, List.any_eq_true]
          exact ⟨_, List.mem_of_getElem? hx'.out, hpb'.out⟩)
        clear hF hx' hpb'
        go_wp2_with fail
        refine hzx.out.mono ?_; rintro e w1 ⟨rfl, B1⟩
        have hB1 := below_next hB B1
        go_wp2
        go_ret
        exact ⟨_, rfl, hI.out, hB1⟩
    · obtain rfl : k = n := by omega
      have hI := Lib.hid (show decide (0 ≤ (-1 : Int)) = l.any p by
        rw [decide_eq_false (by decide), eq_comm, List.any_eq_false]
        intro x hx
        have := hF.out x (by rw [List.take_of_length_le (by rw [hl.out]; exact Nat.le_refl _)]; exact hx)
        simp [this])
      go_wp2
      go_ret
      exact ⟨_, rfl, hI.out, hB⟩
theorem hasFr_c (p : Rp → Bool) (p1 p2 p3 p4 : Nat) (A : Option Addr) (n c : Nat) (l : List Rp) (w : World) (h : RRp w A n l) (hP : ∀ (x : Rp), x ∈ l → ∀ W, Below w.heap.size w W → Calls Tryz.prog 149 #[.agg (rpE x).toArray, .pointer (some ⟨p1, 0, none⟩), .pointer (some ⟨p2, 0, none⟩), .pointer (some ⟨p3, 0, none⟩), .pointer (some ⟨p4, 0, none⟩)] W fun e w' => e = .returned (.bool (p x)) ∧ Below W.heap.size W w') :
    Calls Tryz.prog 148 #[.slice A n c, .func (.func 149) #[] #[.pointer (some ⟨p1, 0, none⟩), .pointer (some ⟨p2, 0, none⟩), .pointer (some ⟨p3, 0, none⟩), .pointer (some ⟨p4, 0, none⟩)]] w fun e w' => e = .returned (.bool (l.any p)) ∧ Below w.heap.size w w' := by
  have hI := Lib.hid (idxFr_c p p1 p2 p3 p4 A n c l w h hP)
  clear hP h
  go_enter Tryz.func148, Tryz.ntmps148
  go_wp2_with fail
  refine hI.out.mono ?_; rintro e w1 ⟨i, rfl, hi, B1⟩
  have hi' := Lib.hid hi
  clear hi
  go_wp2
  go_ret
  exact ⟨by rw [← hi'.out]; rfl, B1⟩
set_option maxHeartbeats 1600000 in
set_option maxRecDepth 100000 in
theorem openC_c (p1 p2 p3 : Nat) (who : ByteArray) (since at_ : Int) (x : Cm) (w : World) (h1 : w.heap[p1]? = some (.cells #[.string who] 9 (0, 0))) (h2 : w.heap[p2]? = some (.cells #[.int .i64 since] 3 (0, 0))) (h3 : w.heap[p3]? = some (.cells #[.int .i64 at_] 3 (0, 0))) :
    Calls Tryz.prog 140 #[.agg (cmE x).toArray, .pointer (some ⟨p1, 0, none⟩), .pointer (some ⟨p2, 0, none⟩), .pointer (some ⟨p3, 0, none⟩)] w fun e w' => e = .returned (.bool (clB who since at_ x)) ∧ Below w.heap.size w w' := by
  obtain ⟨xw, xt, xg⟩ := x
  have hA := Lib.hid (show clB who since at_ ⟨xw, xt, xg⟩ = (decide (xw = who) && (decide (since ≤ xt) && decide (xt ≤ at_))) from rfl)
  generalize clB who since at_ ⟨xw, xt, xg⟩ = R at *
  dsimp only [cmE] at *
  have hBn := below_new w (.cells #[.string xw, .int .i64 xt, .bool xg] 79)
  have hn0 := heap_alloc_new w (.cells #[.string xw, .int .i64 xt, .bool xg] 79)
  have a10 := (blk_facts (blk_below h1 hBn)).1 0
  have a20 := (blk_facts (blk_below h2 hBn)).1 0
  have a30 := (blk_facts (blk_below h3 hBn)).1 0
  have x0 := (blk_facts hn0).1 0
  have x1 := (blk_facts hn0).1 1
  have x2 := (blk_facts hn0).1 2
  have hl1 := lt_of_heap h1
  have hl2 := lt_of_heap h2
  have hl3 := lt_of_heap h3
  have hcase : (R = true ∧ (xw.toList == who.toList) = true ∧ decide (since ≤ xt) = true ∧ decide (xt ≤ at_) = true) ∨ (R = false ∧ (((xw.toList == who.toList) = false) ∨ ((xw.toList == who.toList) = true ∧ ((decide (since ≤ xt) = false) ∨ (decide (since ≤ xt) = true ∧ (decide (xt ≤ at_) = false)))))) := by
    by_cases e0 : xw = who
    · by_cases e1 : since ≤ xt
      · by_cases e2 : xt ≤ at_
        · exact .inl ⟨by rw [hA.out]; simp [e0, e1, e2], (by rw [e0]; exact beq_self_eq_true _), (decide_eq_true e1), (decide_eq_true e2)⟩
        · exact .inr ⟨by rw [hA.out]; simp [e2], .inr ⟨(by rw [e0]; exact beq_self_eq_true _), .inr ⟨(decide_eq_true e1), (decide_eq_false e2)⟩⟩⟩
      · exact .inr ⟨by rw [hA.out]; simp [e1], .inr ⟨(by rw [e0]; exact beq_self_eq_true _), .inl (decide_eq_false e1)⟩⟩
    · exact .inr ⟨by rw [hA.out]; simp [e0], .inl (str_neV e0)⟩
  clear hA hn0 h1 h2 h3
  rcases hcase with ⟨rfl, b0, b1, b2⟩ | ⟨rfl, b0 | ⟨b0, b1 | ⟨b1, b2⟩⟩⟩
  all_goals
    go_enter Tryz.func140, Tryz.ntmps140
    go_wp2
    go_ret
    exact ⟨rfl, hBn⟩
set_option maxHeartbeats 1600000 in
set_option maxRecDepth 100000 in
theorem openRC_c (p1 p2 p3 : Nat) (who : ByteArray) (since at_ : Int) (x : Cm) (w : World) (h1 : w.heap[p1]? = some (.cells #[.string who] 9 (0, 0))) (h2 : w.heap[p2]? = some (.cells #[.int .i64 since] 3 (0, 0))) (h3 : w.heap[p3]? = some (.cells #[.int .i64 at_] 3 (0, 0))) :
    Calls Tryz.prog 147 #[.agg (cmE x).toArray, .pointer (some ⟨p1, 0, none⟩), .pointer (some ⟨p2, 0, none⟩), .pointer (some ⟨p3, 0, none⟩)] w fun e w' => e = .returned (.bool (clB who since at_ x)) ∧ Below w.heap.size w w' := by
  obtain ⟨xw, xt, xg⟩ := x
  have hA := Lib.hid (show clB who since at_ ⟨xw, xt, xg⟩ = (decide (xw = who) && (decide (since ≤ xt) && decide (xt ≤ at_))) from rfl)
  generalize clB who since at_ ⟨xw, xt, xg⟩ = R at *
  dsimp only [cmE] at *
  have hBn := below_new w (.cells #[.string xw, .int .i64 xt, .bool xg] 79)
  have hn0 := heap_alloc_new w (.cells #[.string xw, .int .i64 xt, .bool xg] 79)
  have a1 := (blk_facts (blk_below h1 hBn)).1 0
  have a2 := (blk_facts (blk_below h2 hBn)).1 0
  have a3 := (blk_facts (blk_below h3 hBn)).1 0
  have x0 := (blk_facts hn0).1 0
  have x1 := (blk_facts hn0).1 1
  have hl1 := lt_of_heap h1
  have hl2 := lt_of_heap h2
  have hl3 := lt_of_heap h3
  clear h1 h2 h3 hn0
  by_cases e1 : xw = who
  · have b1 : (xw.toList == who.toList) = true := by rw [e1]; exact beq_self_eq_true _
    have hin : decide (since ≤ xt ∧ xt ≤ at_) = R := by rw [hA.out]; simp [e1, Bool.decide_and]
    clear hA e1
    go_enter Tryz.func147, Tryz.ntmps147
    go_wp2_with (go_at_call 104; refine (in_c _ _ _ _).mono ?_; rintro e w' ⟨rfl, rfl⟩; rw [hin])
    go_ret
    exact ⟨rfl, hBn⟩
  · have b1 := str_neV e1
    obtain rfl : R = false := by rw [hA.out]; simp [e1]
    clear hA e1
    go_enter Tryz.func147, Tryz.ntmps147
    go_wp2
    go_ret
    exact ⟨rfl, hBn⟩
set_option maxHeartbeats 1600000 in
set_option maxRecDepth 100000 in
theorem grantC_c (p1 p2 p3 : Nat) (who : ByteArray) (gr : Bool) (f t at_ : Int) (x : Rp) (w : World) (h1 : w.heap[p1]? = some (.cells #[.string who, .int .i64 t, .bool gr] 79 (0, 0))) (h2 : w.heap[p2]? = some (.cells #[.int .i64 f] 3 (0, 0))) (h3 : w.heap[p3]? = some (.cells #[.int .i64 at_] 3 (0, 0))) :
    Calls Tryz.prog 222 #[.agg (rpE x).toArray, .pointer (some ⟨p1, 0, none⟩), .pointer (some ⟨p2, 0, none⟩), .pointer (some ⟨p3, 0, none⟩)] w fun e w' => e = .returned (.bool (agB who f t at_ x)) ∧ Below w.heap.size w w' := by
  obtain ⟨id, jd, wo, fault, tm, wt, nt⟩ := x
  have hA := Lib.hid (show agB who f t at_ ⟨id, jd, wo, fault, tm, wt, nt⟩ = (!nt && (decide (wo = who) && (decide (fault = f) && (decide (t < tm) && decide (tm ≤ at_))))) from rfl)
  generalize agB who f t at_ ⟨id, jd, wo, fault, tm, wt, nt⟩ = R at *
  dsimp only [rpE] at *
  have hBn := below_new w (.cells #[.string id, .string jd, .string wo, .int .i64 fault, .int .i64 tm, .int .i64 wt, .bool nt] 86)
  have hn0 := heap_alloc_new w (.cells #[.string id, .string jd, .string wo, .int .i64 fault, .int .i64 tm, .int .i64 wt, .bool nt] 86)
  have a10 := (blk_facts (blk_below h1 hBn)).1 0
  have a11 := (blk_facts (blk_below h1 hBn)).1 1
  have a12 := (blk_facts (blk_below h1 hBn)).1 2
  have a20 := (blk_facts (blk_below h2 hBn)).1 0
  have a30 := (blk_facts (blk_below h3 hBn)).1 0
  have x0 := (blk_facts hn0).1 0
  have x1 := (blk_facts hn0).1 1
  have x2 := (blk_facts hn0).1 2
  have x3 := (blk_facts hn0).1 3
  have x4 := (blk_facts hn0).1 4
  have x5 := (blk_facts hn0).1 5
  have x6 := (blk_facts hn0).1 6
  have hl1 := lt_of_heap h1
  have hl2 := lt_of_heap h2
  have hl3 := lt_of_heap h3
  cases nt
  · have hcase : (R = true ∧ (wo.toList == who.toList) = true ∧ (fault == f) = true ∧ decide (t < tm) = true ∧ decide (tm ≤ at_) = true) ∨ (R = false ∧ (((wo.toList == who.toList) = false) ∨ ((wo.toList == who.toList) = true ∧ (((fault == f) = false) ∨ ((fault == f) = true ∧ ((decide (t < tm) = false) ∨ (decide (t < tm) = true ∧ (decide (tm ≤ at_) = false)))))))) := by
      by_cases e0 : wo = who
      · by_cases e1 : fault = f
        · by_cases e2 : t < tm
          · by_cases e3 : tm ≤ at_
            · exact .inl ⟨by rw [hA.out]; simp [e0, e1, e2, e3], (by rw [e0]; exact beq_self_eq_true _), (by rw [e1]; exact beq_self_eq_true _), (decide_eq_true e2), (decide_eq_true e3)⟩
            · exact .inr ⟨by rw [hA.out]; simp [e3], .inr ⟨(by rw [e0]; exact beq_self_eq_true _), .inr ⟨(by rw [e1]; exact beq_self_eq_true _), .inr ⟨(decide_eq_true e2), (decide_eq_false e3)⟩⟩⟩⟩
          · exact .inr ⟨by rw [hA.out]; simp [e2], .inr ⟨(by rw [e0]; exact beq_self_eq_true _), .inr ⟨(by rw [e1]; exact beq_self_eq_true _), .inl (decide_eq_false e2)⟩⟩⟩
        · exact .inr ⟨by rw [hA.out]; simp [e1], .inr ⟨(by rw [e0]; exact beq_self_eq_true _), .inl (beq_eq_false_iff_ne.2 e1)⟩⟩
      · exact .inr ⟨by rw [hA.out]; simp [e0], .inl (str_neV e0)⟩
    clear hA hn0 h1 h2 h3
    rcases hcase with ⟨rfl, b0, b1, b2, b3⟩ | ⟨rfl, b0 | ⟨b0, b1 | ⟨b1, b2 | ⟨b2, b3⟩⟩⟩⟩
    all_goals
      go_enter Tryz.func222, Tryz.ntmps222
      go_wp2
      go_ret
      exact ⟨rfl, hBn⟩
  · obtain rfl : R = false := by rw [hA.out]; simp
    have hcase : ((wo.toList == who.toList) = false) ∨ ((wo.toList == who.toList) = true ∧ (((fault == f) = false) ∨ ((fault == f) = true ∧ ((decide (t < tm) = false) ∨ (decide (t < tm) = true ∧ ((decide (tm ≤ at_) = true) ∨ (decide (tm ≤ at_) = false))))))) := (Decidable.byCases (fun e : wo = who => .inr ⟨(by rw [e]; exact beq_self_eq_true _), (Decidable.byCases (fun e : fault = f => .inr ⟨(by rw [e]; exact beq_self_eq_true _), (Decidable.byCases (fun e : t < tm => .inr ⟨(decide_eq_true e), (Decidable.byCases (fun e : tm ≤ at_ => .inl (decide_eq_true e)) (fun e => .inr (decide_eq_false e)))⟩) (fun e => .inl (decide_eq_false e)))⟩) (fun e => .inl (beq_eq_false_iff_ne.2 e)))⟩) (fun e => .inl (str_neV e)))
    clear hA hn0 h1 h2 h3
    rcases hcase with b0 | ⟨b0, b1 | ⟨b1, b2 | ⟨b2, b3 | b3⟩⟩⟩
    all_goals
      go_enter Tryz.func222, Tryz.ntmps222
      go_wp2
      go_ret
      exact ⟨rfl, hBn⟩
set_option maxHeartbeats 1600000 in
set_option maxRecDepth 100000 in
theorem finalRC_c (p1 p2 p3 p4 : Nat) (who who3 : ByteArray) (gr : Bool) (f t at_ : Int) (x : Rp) (w : World) (h1 : w.heap[p1]? = some (.cells #[.string who] 9 (0, 0))) (h2 : w.heap[p2]? = some (.cells #[.int .i64 f] 3 (0, 0))) (h3 : w.heap[p3]? = some (.cells #[.string who3, .int .i64 t, .bool gr] 79 (0, 0))) (h4 : w.heap[p4]? = some (.cells #[.int .i64 at_] 3 (0, 0))) :
    Calls Tryz.prog 149 #[.agg (rpE x).toArray, .pointer (some ⟨p1, 0, none⟩), .pointer (some ⟨p2, 0, none⟩), .pointer (some ⟨p3, 0, none⟩), .pointer (some ⟨p4, 0, none⟩)] w fun e w' => e = .returned (.bool (agB who f t at_ x)) ∧ Below w.heap.size w w' := by
  obtain ⟨id, jd, wo, fault, tm, wt, nt⟩ := x
  have hA := Lib.hid (show agB who f t at_ ⟨id, jd, wo, fault, tm, wt, nt⟩ = (!nt && (decide (wo = who) && (decide (fault = f) && (decide (t < tm) && decide (tm ≤ at_))))) from rfl)
  generalize agB who f t at_ ⟨id, jd, wo, fault, tm, wt, nt⟩ = R at *
  dsimp only [rpE] at *
  have hBn := below_new w (.cells #[.string id, .string jd, .string wo, .int .i64 fault, .int .i64 tm, .int .i64 wt, .bool nt] 86)
  have hn0 := heap_alloc_new w (.cells #[.string id, .string jd, .string wo, .int .i64 fault, .int .i64 tm, .int .i64 wt, .bool nt] 86)
  have a10 := (blk_facts (blk_below h1 hBn)).1 0
  have a20 := (blk_facts (blk_below h2 hBn)).1 0
  have a30 := (blk_facts (blk_below h3 hBn)).1 0
  have a31 := (blk_facts (blk_below h3 hBn)).1 1
  have a32 := (blk_facts (blk_below h3 hBn)).1 2
  have a40 := (blk_facts (blk_below h4 hBn)).1 0
  have x0 := (blk_facts hn0).1 0
  have x1 := (blk_facts hn0).1 1
  have x2 := (blk_facts hn0).1 2
  have x3 := (blk_facts hn0).1 3
  have x4 := (blk_facts hn0).1 4
  have x5 := (blk_facts hn0).1 5
  have x6 := (blk_facts hn0).1 6
  have hl1 := lt_of_heap h1
  have hl2 := lt_of_heap h2
  have hl3 := lt_of_heap h3
  have hl4 := lt_of_heap h4
  cases nt
  · have hcase : (R = true ∧ (wo.toList == who.toList) = true ∧ (fault == f) = true ∧ decide (t < tm) = true ∧ decide (tm ≤ at_) = true) ∨ (R = false ∧ (((wo.toList == who.toList) = false) ∨ ((wo.toList == who.toList) = true ∧ (((fault == f) = false) ∨ ((fault == f) = true ∧ ((decide (t < tm) = false) ∨ (decide (t < tm) = true ∧ (decide (tm ≤ at_) = false)))))))) := by
      by_cases e0 : wo = who
      · by_cases e1 : fault = f
        · by_cases e2 : t < tm
          · by_cases e3 : tm ≤ at_
            · exact .inl ⟨by rw [hA.out]; simp [e0, e1, e2, e3], (by rw [e0]; exact beq_self_eq_true _), (by rw [e1]; exact beq_self_eq_true _), (decide_eq_true e2), (decide_eq_true e3)⟩
            · exact .inr ⟨by rw [hA.out]; simp [e3], .inr ⟨(by rw [e0]; exact beq_self_eq_true _), .inr ⟨(by rw [e1]; exact beq_self_eq_true _), .inr ⟨(decide_eq_true e2), (decide_eq_false e3)⟩⟩⟩⟩
          · exact .inr ⟨by rw [hA.out]; simp [e2], .inr ⟨(by rw [e0]; exact beq_self_eq_true _), .inr ⟨(by rw [e1]; exact beq_self_eq_true _), .inl (decide_eq_false e2)⟩⟩⟩
        · exact .inr ⟨by rw [hA.out]; simp [e1], .inr ⟨(by rw [e0]; exact beq_self_eq_true _), .inl (beq_eq_false_iff_ne.2 e1)⟩⟩
      · exact .inr ⟨by rw [hA.out]; simp [e0], .inl (str_neV e0)⟩
    clear hA hn0 h1 h2 h3 h4
    rcases hcase with ⟨rfl, b0, b1, b2, b3⟩ | ⟨rfl, b0 | ⟨b0, b1 | ⟨b1, b2 | ⟨b2, b3⟩⟩⟩⟩
    all_goals
      go_enter Tryz.func149, Tryz.ntmps149
      go_wp2
      go_ret
      exact ⟨rfl, hBn⟩
  · obtain rfl : R = false := by rw [hA.out]; simp
    have hcase : ((wo.toList == who.toList) = false) ∨ ((wo.toList == who.toList) = true ∧ (((fault == f) = false) ∨ ((fault == f) = true ∧ ((decide (t < tm) = false) ∨ (decide (t < tm) = true ∧ ((decide (tm ≤ at_) = true) ∨ (decide (tm ≤ at_) = false))))))) := (Decidable.byCases (fun e : wo = who => .inr ⟨(by rw [e]; exact beq_self_eq_true _), (Decidable.byCases (fun e : fault = f => .inr ⟨(by rw [e]; exact beq_self_eq_true _), (Decidable.byCases (fun e : t < tm => .inr ⟨(decide_eq_true e), (Decidable.byCases (fun e : tm ≤ at_ => .inl (decide_eq_true e)) (fun e => .inr (decide_eq_false e)))⟩) (fun e => .inl (decide_eq_false e)))⟩) (fun e => .inl (beq_eq_false_iff_ne.2 e)))⟩) (fun e => .inl (str_neV e)))
    clear hA hn0 h1 h2 h3 h4
    rcases hcase with b0 | ⟨b0, b1 | ⟨b1, b2 | ⟨b2, b3 | b3⟩⟩⟩
    all_goals
      go_enter Tryz.func149, Tryz.ntmps149
      go_wp2
      go_ret
      exact ⟨rfl, hBn⟩
end Go.Proofs.YtpepdkgkdbnakaaGreatDoor
