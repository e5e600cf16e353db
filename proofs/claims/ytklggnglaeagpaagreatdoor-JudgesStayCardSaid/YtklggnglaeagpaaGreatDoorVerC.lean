import Derived.Test.YtklggnglaeagpaaGreatDoorVerB
import Derived.Test.YtklggnglaeagpaaGreatDoorSortB
/- judge.stands; slices.Compact of strings with what stays; tumbref1.once; told, the program's and the reference's. -/
namespace Go.Proofs.YtklggnglaeagpaaGreatDoor
open Go.RowKit Go.Shelf Go.Lib Go.Sort
set_option linter.unusedVariables false

def stB (l : List Rp) (who : ByteArray) (f at_ : Int) : Bool := decide (0 < (lastV l who f at_).wt) && !(lastV l who f at_).nt
set_option maxHeartbeats 3200000 in
set_option maxRecDepth 100000 in
theorem stands_c (A : Option Addr) (n c : Nat) (l : List Rp) (who : ByteArray) (f at_ : Int) (w : World) (h : RRp w A n l) :
    Calls Tryz.prog 255 #[.slice A n c, .string who, .int .i64 f, .int .i64 at_] w fun e w' => e = .returned (.tuple #[.int .i64 (lastV l who f at_).tm, .bool (stB l who f at_)]) ∧ Below w.heap.size w w' := by
  have hL := Lib.hid (last_c A n c l who f at_ w h)
  have hS := Lib.hid (show stB l who f at_ = (decide (0 < (lastV l who f at_).wt) && !(lastV l who f at_).nt) from rfl)
  generalize stB l who f at_ = S at *
  generalize lastV l who f at_ = V at *
  obtain ⟨id, jd, wo, fault, tm, wt, nt⟩ := V
  dsimp only [rpE] at *
  go_enter Tryz.func255, Tryz.ntmps255
  go_wp2_with fail
  refine hL.out.mono ?_; rintro e w1 ⟨rfl, B1⟩
  have hb1 := heap_alloc_new w1 (.cells #[.string id, .string jd, .string wo, .int .i64 fault, .int .i64 tm, .int .i64 wt, .bool nt] 96)
  have hB1 := below_next B1 (below_new w1 (.cells #[.string id, .string jd, .string wo, .int .i64 fault, .int .i64 tm, .int .i64 wt, .bool nt] 96))
  have x4 := (blk_facts hb1).1 4
  have x6 := (blk_facts hb1).1 6
  by_cases h0 : 0 < wt
  · have hd : decide (0 < wt) = true := decide_eq_true h0
    have hS2 := Lib.hid (show S = !nt by rw [hS.out, hd]; rfl)
    clear hS h0
    cases nt
    · go_wp2
      go_quiet (fail)
      go_wp2
      go_ret2
      exact ⟨by rw [hS2.out]; rfl, below_drewN hB1 _⟩
    · go_wp2
      go_quiet (fail)
      go_wp2
      go_ret2
      exact ⟨by rw [hS2.out]; rfl, below_drewN hB1 _⟩
  · have hd : decide (0 < wt) = false := decide_eq_false h0
    have hS2 := Lib.hid (show S = false by rw [hS.out, hd]; rfl)
    clear hS h0
    go_wp2
    go_quiet (fail)
    go_wp2
    go_ret2
    exact ⟨by rw [hS2.out]; rfl, below_drewN hB1 _⟩
theorem compactS2_c (base : Nat) (A : Option Addr) (n c : Nat) (l : List (List UInt8)) (w : World) (h : w.ownsRow base 9 1 (.slice A n c) n (l.map encStr)) (hn : n ≤ 1000000) :
    Calls Tryz.prog 254 #[.slice A n c] w fun e w' => e = .returned (.slice A (Lib.compact l).length c) ∧ w'.ownsRow base 9 1 (.slice A (Lib.compact l).length c) (Lib.compact l).length ((Lib.compact l).map encStr) ∧ w.grownBy w' (Value.slice A n c).ownBlock := by
  have hl : l.length = n := by have := h.1; rw [List.length_map] at this; omega
  rcases h.2 with ⟨hv, h0⟩ | ⟨g, cap, cur, hv, hb, hg, h1, h2, h3, h4⟩
  · subst h0
    injection hv with q1 q2 q3
    subst q1 q3
    obtain rfl : l = [] := List.eq_nil_of_length_eq_zero hl
    refine (Tryz.slices_Compact_string_empty none 0 w).mono ?_
    rintro e w' ⟨he, rfl⟩
    exact ⟨he, World.ownsRow_nil _ _ _ _, grown_refl _ _⟩
  · injection hv with q1 q2 q3
    subst q1 q3 hl
    rw [Nat.mul_one] at h4
    have hH := holds_of_block hg h4
    have hcl := Lib.compact_length_le l
    refine (Tryz.slices_Compact_string g 0 c l w hH (by omega) h1).mono ?_
    rintro e w' ⟨he, q, rfl⟩
    have k1 := ownsRow_sorted (n := q) (os := #[]) (ss := l) (ts := Lib.compact l ++ List.replicate (l.length - (Lib.compact l).length) []) (by simp; omega) hb hg h1 h2 h3
    have k2 := grownBy_sorted (w := w) (g := g) (n := q) (os := #[]) (Lib.compact l ++ List.replicate (l.length - (Lib.compact l).length) []).toArray
    rw [grow_empty] at k1 k2
    refine ⟨he, ?_, k2⟩
    have k3 := own_takeI k1 hcl
    rw [List.map_append, List.take_append_of_le_length (by simp), List.take_of_length_le (by simp)] at k3
    exact k3
/-- the names of a list, each once, in order -/
def onceB (l : List ByteArray) : List ByteArray := (Lib.compact ((l.map fun s => s.data.toList).mergeSort fun x y => decide (x ≤ y))).map fun b => ⟨b.toArray⟩
theorem onceB_enc (l : List ByteArray) : (Lib.compact ((l.map fun s => s.data.toList).mergeSort fun x y => decide (x ≤ y))).map encStr = (onceB l).map Value.string := by
  unfold onceB
  rw [List.map_map]
  apply List.map_congr_left
  intro x _
  simp [encStr]
theorem onceB_len (l : List ByteArray) : (onceB l).length ≤ l.length := by
  unfold onceB
  rw [List.length_map]
  have h1 := Lib.compact_length_le ((l.map fun s => s.data.toList).mergeSort fun x y => decide (x ≤ y))
  rw [List.length_mergeSort, List.length_map] at h1
  exact h1
/-- what a list of names comes back as -/
def RetS (w : World) (L : List ByteArray) (e : Ending) (w' : World) : Prop := ∃ A c, e = .returned (.slice A L.length c) ∧ RS 9 w' A L.length L ∧ Below w.heap.size w w'
theorem once2_c (A : Option Addr) (n c : Nat) (l : List ByteArray) (w : World) (h : RS 9 w A n l) (hn : n ≤ 1000000) :
    Calls Tryz.prog 226 #[.slice A n c] w (RetS w (onceB l)) := by
  have hcl := Lib.hid (cloneS_c A n c l w h hn)
  have hO := Lib.hid (onceB_enc l)
  have hlen := h.len
  have hol : (onceB l).length = (Lib.compact ((l.map fun s => s.data.toList).mergeSort fun x y => decide (x ≤ y))).length := by unfold onceB; rw [List.length_map]
  have hob := onceB_len l
  rw [← encS_map] at hcl
  generalize onceB l = O at *
  generalize (l.map fun s => s.data.toList) = L at *
  rw [hlen] at hob
  clear hlen h
  have hol' := Lib.hid hol
  clear hol
  go_enter Tryz.func226, Tryz.ntmps226
  go_wp2_with fail
  refine hcl.out.mono ?_; rintro e w1 ⟨A1, c1, rfl, ho1, B1⟩
  go_wp2_with fail
  refine (sortS_c _ A1 n c1 L w1 ho1 hn).mono ?_; rintro e w2 ⟨rfl, ho2, g2⟩
  have B2 := below_own B1 ho1 g2 B1.size (Nat.le_refl _)
  go_wp2_with fail
  refine (compactS2_c _ A1 n c1 _ w2 ho2 hn).mono ?_; rintro e w3 ⟨rfl, ho3, g3⟩
  have B3 := below_own B2 ho2 g3 B2.size (Nat.le_refl _)
  rw [hO.out, ← hol'.out] at ho3
  rw [← hol'.out]
  go_wp2
  go_ret
  exact ⟨A1, c1, rfl, R1.of_own ho3 (by omega), B3⟩
def toldL (l : List Rp) (at_ : Int) : List ByteArray := (l.filter fun x => decide (x.tm ≤ at_)).map Rp.who
def toldV (l : List Rp) (at_ : Int) : List ByteArray := onceB (toldL l at_)
theorem toldL_at {l : List Rp} {at_ : Int} {k : Nat} {x : Rp} (h : l[k]? = some x) : toldL (l.drop k) at_ = (if x.tm ≤ at_ then [x.who] else []) ++ toldL (l.drop (k + 1)) at_ := by
  rw [drop_at h]
  unfold toldL
  by_cases hm : x.tm ≤ at_
  · rw [if_pos hm, List.filter_cons_of_pos (by simpa using hm)]; rfl
  · rw [if_neg hm, List.filter_cons_of_neg (by simpa using hm)]; rfl
theorem toldL_len (l : List Rp) (at_ : Int) : (toldL l at_).length ≤ l.length := by
  unfold toldL; rw [List.length_map]; exact List.length_filter_le _ _
set_option maxHeartbeats 3200000 in
set_option maxRecDepth 100000 in
theorem told_c (A : Option Addr) (n c : Nat) (l : List Rp) (at_ : Int) (w : World) (h : RRp w A n l) (hn : n ≤ 100000) :
    Calls Tryz.prog 151 #[.slice A n c, .int .i64 at_] w (RetS w (toldV l at_)) := by
  have hR := Lib.hid (fun W B => h.below (w' := W) B)
  have hl := Lib.hid h.len
  have hGa := Lib.hid (fun k x (h : l[k]? = some x) => toldL_at (at_ := at_) h)
  have hV := Lib.hid (show toldV l at_ = onceB (toldL l at_) from rfl)
  have hTl := toldL_len l at_
  rw [h.len] at hTl
  have hOl := onceB_len (toldL l at_)
  rw [← hV.out] at hOl
  generalize toldV l at_ = TV at *
  clear h
  go_enter Tryz.func151, Tryz.ntmps151
  go_wp2_with fail
  go_loopw [5, 10] (fun u i wr => ∃ (k : Nat) (P : List ByteArray), k ≤ n ∧ i = .int .i64 k ∧ P.length ≤ k ∧ wr.ownsRow w.heap.size 9 1 u P.length (P.map Value.string) ∧ Below w.heap.size w wr ∧ Hid (toldL l at_ = P ++ toldL (l.drop k) at_)) (fun _ i _ => n - (intOf i).toNat)
  case atStart => exact ⟨0, [], Nat.zero_le _, rfl, Nat.le_refl _, World.ownsRow_nil _ _ _ _, Below.refl _ _, Lib.hid rfl⟩
  case round =>
    rename World => wr
    obtain ⟨k, P, hk, rfl, hP, hown, hB, hF⟩ := hrel
    by_cases hlt : k < n
    · obtain ⟨b, off, x, rfl, hbl, hx, c0, c1, c2, c3, c4, c5, c6⟩ := RRp_at7 (hR.out _ hB) hlt
      have hS := Lib.hid (hGa.out k x hx)
      clear hx
      obtain ⟨id, jd, wo, fault, tm, wt, nt⟩ := x
      dsimp only [rpE] at *
      have hmw := hB.size
      have hn0 := heap_alloc_new wr (.cells #[.string id, .string jd, .string wo, .int .i64 fault, .int .i64 tm, .int .i64 wt, .bool nt] 96)
      have hBN := below_next hB (below_new wr (.cells #[.string id, .string jd, .string wo, .int .i64 fault, .int .i64 tm, .int .i64 wt, .bool nt] 96))
      have hown0 := hown.alloc (.cells #[.string id, .string jd, .string wo, .int .i64 fault, .int .i64 tm, .int .i64 wt, .bool nt] 96)
      have hz : w.heap.size ≤ (wr.alloc (.cells #[.string id, .string jd, .string wo, .int .i64 fault, .int .i64 tm, .int .i64 wt, .bool nt] 96)).heap.size := hBN.size
      have x2 := (blk_facts hn0).1 2
      have x4 := (blk_facts hn0).1 4
      clear hn0
      by_cases hm : tm ≤ at_
      · have hd : decide (tm ≤ at_) = true := decide_eq_true hm
        have hS2 := Lib.hid (hF.out.trans (by rw [hS.out, if_pos hm, ← List.append_assoc]))
        clear hS hm hF hown
        go_wp2_with (at_builtin; refine wpList_app rfl (.tmp 18) (.tmp 21) 97 rfl Tryz.underlying97 info_strS rfl (by omega) (by omega) hown0 rfl rfl (by first | rfl | (simp; done)) rfl (by simp [Value.oneCell']) (by omega) hz ?_; intro v4 w4 hown4 hg4)
        have H := Lib.hid (And.intro (show w4.ownsRow w.heap.size 9 1 v4 (P ++ [wo]).length ((P ++ [wo]).map Value.string) by rw [List.map_append, List.length_append]; exact hown4) (below_own hBN hown0 hg4 hz (Nat.le_refl _)))
        clear hown4 hg4 hown0
        go_roundw
        case rel => exact ⟨k + 1, P ++ [wo], by omega, by go_num, by rw [List.length_append]; simp; omega, H.out.1, H.out.2, hS2⟩
        case measure => simp [intOf]; omega
      · have hd : decide (tm ≤ at_) = false := decide_eq_false hm
        have hS2 := Lib.hid (hF.out.trans (by rw [hS.out, if_neg hm, List.nil_append]))
        clear hS hm hF hown
        go_wp2
        go_roundw
        case rel => exact ⟨k + 1, P, by omega, by go_num, by omega, hown0, hBN, hS2⟩
        case measure => simp [intOf]; omega
    · obtain rfl : k = n := by omega
      have hfin : toldL l at_ = P := by rw [hF.out, drop_end (by rw [hl.out]; exact Nat.le_refl _)]; simp [toldL]
      rw [hfin] at hV hOl
      clear hF hfin hTl hGa
      obtain ⟨A3, c3, rfl⟩ := own_shape hown
      have hO := Lib.hid (onceB_enc P)
      have hol : (onceB P).length = (Lib.compact ((P.map fun s => s.data.toList).mergeSort fun x y => decide (x ≤ y))).length := by unfold onceB; rw [List.length_map]
      rw [← hV.out] at hO hol
      have hol' := Lib.hid hol
      rw [← encS_map] at hown
      have hPl : (P.map fun s => s.data.toList).length = P.length := List.length_map ..
      clear hol hV
      generalize hm : P.length = m at *
      generalize (P.map fun s => s.data.toList) = L at *
      clear hm hPl
      go_wp2_with fail
      refine (sortS_c _ A3 m c3 L wr hown (by omega)).mono ?_; rintro e w2 ⟨rfl, ho2, g2⟩
      have B2 := below_own hB hown g2 hB.size (Nat.le_refl _)
      go_wp2_with fail
      refine (compactS2_c _ A3 m c3 _ w2 ho2 (by omega)).mono ?_; rintro e w3 ⟨rfl, ho3, g3⟩
      have B3 := below_own B2 ho2 g3 B2.size (Nat.le_refl _)
      rw [hO.out, ← hol'.out] at ho3
      rw [← hol'.out]
      go_wp2
      go_ret
      exact ⟨A3, c3, rfl, R1.of_own ho3 (by omega), B3⟩
set_option maxHeartbeats 3200000 in
set_option maxRecDepth 100000 in
theorem toldR_c (A : Option Addr) (n c : Nat) (l : List Rp) (at_ : Int) (w : World) (h : RRp w A n l) (hn : n ≤ 100000) :
    Calls Tryz.prog 155 #[.slice A n c, .int .i64 at_] w (RetS w (toldV l at_)) := by
  have hR := Lib.hid (fun W B => h.below (w' := W) B)
  have hl := Lib.hid h.len
  have hGa := Lib.hid (fun k x (h : l[k]? = some x) => toldL_at (at_ := at_) h)
  have hV := Lib.hid (show toldV l at_ = onceB (toldL l at_) from rfl)
  have hTl := toldL_len l at_
  rw [h.len] at hTl
  have hOl := onceB_len (toldL l at_)
  rw [← hV.out] at hOl
  generalize toldV l at_ = TV at *
  clear h
  go_enter Tryz.func155, Tryz.ntmps155
  go_wp2_with fail
  go_loopw [5, 10] (fun u i wr => ∃ (k : Nat) (P : List ByteArray), k ≤ n ∧ i = .int .i64 k ∧ P.length ≤ k ∧ wr.ownsRow w.heap.size 9 1 u P.length (P.map Value.string) ∧ Below w.heap.size w wr ∧ Hid (toldL l at_ = P ++ toldL (l.drop k) at_)) (fun _ i _ => n - (intOf i).toNat)
  case atStart => exact ⟨0, [], Nat.zero_le _, rfl, Nat.le_refl _, World.ownsRow_nil _ _ _ _, Below.refl _ _, Lib.hid rfl⟩
  case round =>
    rename World => wr
    obtain ⟨k, P, hk, rfl, hP, hown, hB, hF⟩ := hrel
    by_cases hlt : k < n
    · obtain ⟨b, off, x, rfl, hbl, hx, c0, c1, c2, c3, c4, c5, c6⟩ := RRp_at7 (hR.out _ hB) hlt
      have hS := Lib.hid (hGa.out k x hx)
      clear hx
      obtain ⟨id, jd, wo, fault, tm, wt, nt⟩ := x
      dsimp only [rpE] at *
      have hmw := hB.size
      have hn0 := heap_alloc_new wr (.cells #[.string id, .string jd, .string wo, .int .i64 fault, .int .i64 tm, .int .i64 wt, .bool nt] 96)
      have hBN := below_next hB (below_new wr (.cells #[.string id, .string jd, .string wo, .int .i64 fault, .int .i64 tm, .int .i64 wt, .bool nt] 96))
      have hown0 := hown.alloc (.cells #[.string id, .string jd, .string wo, .int .i64 fault, .int .i64 tm, .int .i64 wt, .bool nt] 96)
      have hz : w.heap.size ≤ (wr.alloc (.cells #[.string id, .string jd, .string wo, .int .i64 fault, .int .i64 tm, .int .i64 wt, .bool nt] 96)).heap.size := hBN.size
      have x2 := (blk_facts hn0).1 2
      have x4 := (blk_facts hn0).1 4
      clear hn0
      by_cases hm : tm ≤ at_
      · have hd : decide (tm ≤ at_) = true := decide_eq_true hm
        have hS2 := Lib.hid (hF.out.trans (by rw [hS.out, if_pos hm, ← List.append_assoc]))
        clear hS hm hF hown
        go_wp2_with (at_builtin; refine wpList_app rfl (.tmp 18) (.tmp 21) 97 rfl Tryz.underlying97 info_strS rfl (by omega) (by omega) hown0 rfl rfl (by first | rfl | (simp; done)) rfl (by simp [Value.oneCell']) (by omega) hz ?_; intro v4 w4 hown4 hg4)
        have H := Lib.hid (And.intro (show w4.ownsRow w.heap.size 9 1 v4 (P ++ [wo]).length ((P ++ [wo]).map Value.string) by rw [List.map_append, List.length_append]; exact hown4) (below_own hBN hown0 hg4 hz (Nat.le_refl _)))
        clear hown4 hg4 hown0
        go_roundw
        case rel => exact ⟨k + 1, P ++ [wo], by omega, by go_num, by rw [List.length_append]; simp; omega, H.out.1, H.out.2, hS2⟩
        case measure => simp [intOf]; omega
      · have hd : decide (tm ≤ at_) = false := decide_eq_false hm
        have hS2 := Lib.hid (hF.out.trans (by rw [hS.out, if_neg hm, List.nil_append]))
        clear hS hm hF hown
        go_wp2
        go_roundw
        case rel => exact ⟨k + 1, P, by omega, by go_num, by omega, hown0, hBN, hS2⟩
        case measure => simp [intOf]; omega
    · obtain rfl : k = n := by omega
      have hfin : toldL l at_ = P := by rw [hF.out, drop_end (by rw [hl.out]; exact Nat.le_refl _)]; simp [toldL]
      rw [hfin] at hV hOl
      clear hF hfin hTl hGa
      obtain ⟨A3, c3, rfl⟩ := own_shape hown
      have hrs : RS 9 wr A3 P.length P := R1.of_own hown (by omega)
      go_wp2_with fail
      refine (once2_c A3 P.length c3 P wr hrs (by omega)).mono ?_; rintro e w5 ⟨A5, c5, rfl, r5, B5⟩
      have hB5 := below_next hB B5
      rw [← hV.out] at r5 ⊢
      go_wp2
      go_ret
      exact ⟨A5, c5, rfl, r5, hB5⟩
end Go.Proofs.YtklggnglaeagpaaGreatDoor
