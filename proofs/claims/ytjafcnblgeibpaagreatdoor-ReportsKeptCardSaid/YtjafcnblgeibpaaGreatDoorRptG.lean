import Derived.Test.YtjafcnblgeibpaaGreatDoorSetR
import Derived.Test.YtjafcnblgeibpaaGreatDoorVerT
import Derived.Test.YtjafcnblgeibpaaGreatDoorKey0
import Derived.Test.YtjafcnblgeibpaaGreatDoorRptD
/- judge.Seen, tumbref1.SeenOf, tumbref1.KeyFault. -/
namespace Go.Proofs.YtjafcnblgeibpaaGreatDoor
open Go.RowKit Go.Shelf Go.Lib Go.Sort
set_option linter.unusedVariables false

def seeB (who : ByteArray) (at_ : Int) (x : Rp) : Bool := decide (x.who = who) && decide (x.tm ≤ at_)
def seenV (l : List Rp) (who : ByteArray) (at_ : Int) : List ByteArray := (l.filter (seeB who at_)).map Rp.id
theorem seenV_at {who : ByteArray} {at_ : Int} {l : List Rp} {k : Nat} {x : Rp} (h : l[k]? = some x) : seenV (l.drop k) who at_ = (if seeB who at_ x = true then [x.id] else []) ++ seenV (l.drop (k + 1)) who at_ := by
  rw [drop_at h]
  unfold seenV
  by_cases hm : seeB who at_ x = true
  · rw [if_pos hm, List.filter_cons_of_pos hm]; rfl
  · rw [if_neg hm, List.filter_cons_of_neg hm]; rfl
def seeE (l : List Rp) (who : ByteArray) (at_ : Int) : Int := if rpErr l ≠ 0 then rpErr l else if keyB who = false then 5 else if momB at_ = true then 0 else 1
def RetSee (w : World) (E : Int) (D : List ByteArray) (e : Ending) (w' : World) : Prop := ∃ (A : Option Addr) (c : Nat), e = .returned (.tuple #[.slice A D.length c, .int .i64 E]) ∧ RS 9 w' A D.length D ∧ Below w.heap.size w w'
theorem kFault_c (s : ByteArray) (w : World) : Calls Tryz.prog 45 #[.string s] w fun e w' => e = .returned (.int .i64 (if keyB s = true then 0 else 5)) ∧ Below w.heap.size w w' := by
  have hK := Lib.hid (key_c s w)
  generalize keyB s = kb at *
  go_enter Tryz.func45, Tryz.ntmps45
  go_wp2_with fail
  refine hK.out.mono ?_; rintro e w1 ⟨rfl, B1⟩
  cases kb
  all_goals
    go_wp2
    go_ret
    exact ⟨rfl, B1⟩
theorem see_case (who : ByteArray) (at_ : Int) (x : Rp) : (seeB who at_ x = true ∧ (x.who.toList == who.toList) = true ∧ decide (x.tm ≤ at_) = true) ∨ (seeB who at_ x = false ∧ ((x.who.toList == who.toList) = false ∨ ((x.who.toList == who.toList) = true ∧ decide (x.tm ≤ at_) = false))) := by
  unfold seeB
  by_cases e1 : x.who = who
  · have b1 : (x.who.toList == who.toList) = true := by rw [e1]; exact beq_self_eq_true _
    by_cases e3 : x.tm ≤ at_
    · exact .inl ⟨by simp [e1, e3], b1, decide_eq_true e3⟩
    · exact .inr ⟨by simp [e3], .inr ⟨b1, decide_eq_false e3⟩⟩
  · exact .inr ⟨by simp [e1], .inl (str_neR e1)⟩
set_option maxHeartbeats 1600000 in
set_option maxRecDepth 100000 in
theorem seen_c (A : Option Addr) (n c : Nat) (l : List Rp) (who : ByteArray) (at_ : Int) (w : World) (h : RRp w A n l) (hn : n ≤ 1000) :
    Calls Tryz.prog 44 #[.slice A n c, .string who, .int .i64 at_] w (RetSee w (seeE l who at_) (if seeE l who at_ = 0 then seenV l who at_ else [])) := by
  have hR := Lib.hid (fun W B => h.below (w' := W) B)
  have hl := Lib.hid h.len
  have hC := Lib.hid (checkReports_c A n c l w h)
  have hGa := Lib.hid (fun k x (h : l[k]? = some x) => seenV_at (who := who) (at_ := at_) h)
  have hK := Lib.hid (fun W => isKey_c who W)
  have hM := Lib.hid (fun W => show Calls Tryz.prog 114 #[.int .i64 at_] W fun e w' => e = .returned (.bool (momB at_)) ∧ W = w' from isMoment_c at_ W)
  have hE := Lib.hid (show seeE l who at_ = if rpErr l ≠ 0 then rpErr l else if keyB who = false then 5 else if momB at_ = true then 0 else 1 from rfl)
  obtain ⟨SV, hSV⟩ : ∃ SV, seenV l who at_ = SV := ⟨_, rfl⟩
  have hV := Lib.hid (show SV = [] ++ seenV (l.drop 0) who at_ by rw [List.drop_zero, hSV]; rfl)
  rw [hSV]
  clear h hSV
  obtain ⟨OUT, hOUT⟩ : ∃ OUT, (if seeE l who at_ = 0 then SV else []) = OUT := ⟨_, rfl⟩
  rw [hOUT]
  have hO := Lib.hid hOUT.symm
  clear hOUT
  generalize rpErr l = RE at *
  generalize keyB who = kb at *
  generalize momB at_ = mb at *
  generalize seeE l who at_ = E at *
  go_enter Tryz.func44, Tryz.ntmps44
  go_wp2_with fail
  refine hC.out.mono ?_; rintro e w1 ⟨rfl, B1⟩
  by_cases h0 : RE = 0
  rotate_left
  · have hd : (RE != 0) = true := by simpa using h0
    have hER : E = RE := by rw [hE.out, if_pos h0]
    subst hER
    obtain rfl : OUT = [] := by rw [hO.out, if_neg h0]
    clear hE h0 hO
    go_wp2
    go_ret2
    exact ⟨none, 0, rfl, R1.nil_ _ _ _ _, B1⟩
  subst h0
  go_wp2_with fail
  refine (hK.out _).mono ?_; rintro e w2 ⟨rfl, B2⟩
  have hB2 := below_next B1 B2
  clear B1 B2
  cases kb
  · obtain rfl : E = 5 := by rw [hE.out, if_neg (by simp), if_pos rfl]
    obtain rfl : OUT = [] := by rw [hO.out, if_neg (by decide)]
    clear hE hO
    go_wp2
    go_ret2
    exact ⟨none, 0, rfl, R1.nil_ _ _ _ _, hB2⟩
  go_wp2_with fail
  refine (hM.out _).mono ?_; rintro e w3 ⟨rfl, rfl⟩
  cases mb
  · obtain rfl : E = 1 := by rw [hE.out, if_neg (by simp), if_neg (by simp), if_neg (by simp)]
    obtain rfl : OUT = [] := by rw [hO.out, if_neg (by decide)]
    clear hE hO
    go_wp2
    go_ret2
    exact ⟨none, 0, rfl, R1.nil_ _ _ _ _, hB2⟩
  obtain rfl : E = 0 := by rw [hE.out, if_neg (by simp), if_neg (by simp), if_pos rfl]
  have e9 : SV = OUT := by rw [hO.out, if_pos rfl]
  subst e9
  clear hE hO
  go_wp2_with fail
  go_loopw [9, 25] (fun u i wr => ∃ (k : Nat) (P : List ByteArray), k ≤ n ∧ i = .int .i64 k ∧ P.length ≤ k ∧ wr.ownsRow w.heap.size 9 1 u P.length (P.map Value.string) ∧ Below w.heap.size w wr ∧ Hid (SV = P ++ seenV (l.drop k) who at_)) (fun _ i _ => n - (intOf i).toNat)
  case atStart => exact ⟨0, [], Nat.zero_le _, rfl, Nat.le_refl _, World.ownsRow_nil _ _ _ _, hB2, hV⟩
  case round =>
    rename World => wr
    obtain ⟨k, P, hk, rfl, hP, hown, hB, hF⟩ := hrel
    by_cases hlt : k < n
    · obtain ⟨b, off, x, rfl, hbl, hx, c0, c1, c2, c3, c4, c5, c6⟩ := RRp_at7 (hR.out _ hB) hlt
      have hS := Lib.hid (hGa.out k x hx)
      have hcase := see_case who at_ x
      clear hx
      obtain ⟨id, jd, wo, fault, tm, wt, nt⟩ := x
      dsimp only [rpE] at *
      generalize seeB who at_ ⟨id, jd, wo, fault, tm, wt, nt⟩ = sb at *
      have hmw := hB.size
      have hn0 := heap_alloc_new wr (.cells #[.string id, .string jd, .string wo, .int .i64 fault, .int .i64 tm, .int .i64 wt, .bool nt] 62)
      have hBN := below_next hB (below_new wr (.cells #[.string id, .string jd, .string wo, .int .i64 fault, .int .i64 tm, .int .i64 wt, .bool nt] 62))
      have hown0 := hown.alloc (.cells #[.string id, .string jd, .string wo, .int .i64 fault, .int .i64 tm, .int .i64 wt, .bool nt] 62)
      have hz : w.heap.size ≤ (wr.alloc (.cells #[.string id, .string jd, .string wo, .int .i64 fault, .int .i64 tm, .int .i64 wt, .bool nt] 62)).heap.size := hBN.size
      have x0 := (blk_facts hn0).1 0
      have x2 := (blk_facts hn0).1 2
      have x4 := (blk_facts hn0).1 4
      clear hn0
      rcases hcase with ⟨rfl, q1, q2⟩ | ⟨rfl, hq⟩
      · have hS2 := Lib.hid (hF.out.trans (by rw [hS.out, if_pos rfl, ← List.append_assoc]))
        clear hS hF hown
        go_wp2_with (at_builtin; refine wpList_app rfl (.tmp 39) (.tmp 42) 49 rfl Tryz.underlying49 info_strS rfl (by omega) (by omega) hown0 rfl rfl (by first | rfl | (simp; done)) rfl (by simp [Value.oneCell']) (by omega) hz ?_; intro v4 w4 hown4 hg4)
        have H := Lib.hid (And.intro (show w4.ownsRow w.heap.size 9 1 v4 (P ++ [id]).length ((P ++ [id]).map Value.string) by rw [List.map_append, List.length_append]; exact hown4) (below_own hBN hown0 hg4 hz (Nat.le_refl _)))
        clear hown4 hg4 hown0
        go_roundw
        case rel => exact ⟨k + 1, P ++ [id], by omega, by go_num, by rw [List.length_append]; simp; omega, H.out.1, H.out.2, hS2⟩
        case measure => simp [intOf]; omega
      · have hS2 := Lib.hid (hF.out.trans (by rw [hS.out, if_neg (by simp), List.nil_append]))
        clear hS hF hown
        rcases hq with q1 | ⟨q1, q2⟩
        all_goals
          go_wp2
          go_roundw
          case rel => exact ⟨k + 1, P, by omega, by go_num, by omega, hown0, hBN, hS2⟩
          case measure => simp [intOf]; omega
    · obtain rfl : k = n := by omega
      have hfin : SV = P := by rw [hF.out, drop_end (by rw [hl.out]; exact Nat.le_refl _)]; simp [seenV]
      subst hfin
      clear hF hGa hV
      obtain ⟨A3, c3, rfl⟩ := own_shape hown
      go_wp2
      go_ret2
      exact ⟨A3, c3, rfl, R1.of_own hown (by omega), hB⟩
set_option maxHeartbeats 1600000 in
set_option maxRecDepth 100000 in
theorem seenOf_c (A : Option Addr) (n c : Nat) (l : List Rp) (who : ByteArray) (at_ : Int) (w : World) (h : RRp w A n l) (hn : n ≤ 1000) :
    Calls Tryz.prog 48 #[.slice A n c, .string who, .int .i64 at_] w (RetS w (seenV l who at_)) := by
  have hR := Lib.hid (fun W B => h.below (w' := W) B)
  have hl := Lib.hid h.len
  have hGa := Lib.hid (fun k x (h : l[k]? = some x) => seenV_at (who := who) (at_ := at_) h)
  obtain ⟨SV, hSV⟩ : ∃ SV, seenV l who at_ = SV := ⟨_, rfl⟩
  have hV := Lib.hid (show SV = [] ++ seenV (l.drop 0) who at_ by rw [List.drop_zero, hSV]; rfl)
  rw [hSV]
  clear h hSV
  go_enter Tryz.func48, Tryz.ntmps48
  go_wp2_with fail
  go_loopw [7, 12] (fun u i wr => ∃ (k : Nat) (P : List ByteArray), k ≤ n ∧ i = .int .i64 k ∧ P.length ≤ k ∧ wr.ownsRow w.heap.size 9 1 u P.length (P.map Value.string) ∧ Below w.heap.size w wr ∧ Hid (SV = P ++ seenV (l.drop k) who at_)) (fun _ i _ => n - (intOf i).toNat)
  case atStart => exact ⟨0, [], Nat.zero_le _, rfl, Nat.le_refl _, World.ownsRow_nil _ _ _ _, Below.refl _ _, hV⟩
  case round =>
    rename World => wr
    obtain ⟨k, P, hk, rfl, hP, hown, hB, hF⟩ := hrel
    by_cases hlt : k < n
    · obtain ⟨b, off, x, rfl, hbl, hx, c0, c1, c2, c3, c4, c5, c6⟩ := RRp_at7 (hR.out _ hB) hlt
      have hS := Lib.hid (hGa.out k x hx)
      have hcase := see_case who at_ x
      clear hx
      obtain ⟨id, jd, wo, fault, tm, wt, nt⟩ := x
      dsimp only [rpE] at *
      generalize seeB who at_ ⟨id, jd, wo, fault, tm, wt, nt⟩ = sb at *
      have hmw := hB.size
      have hn0 := heap_alloc_new wr (.cells #[.string id, .string jd, .string wo, .int .i64 fault, .int .i64 tm, .int .i64 wt, .bool nt] 62)
      have hBN := below_next hB (below_new wr (.cells #[.string id, .string jd, .string wo, .int .i64 fault, .int .i64 tm, .int .i64 wt, .bool nt] 62))
      have hown0 := hown.alloc (.cells #[.string id, .string jd, .string wo, .int .i64 fault, .int .i64 tm, .int .i64 wt, .bool nt] 62)
      have hz : w.heap.size ≤ (wr.alloc (.cells #[.string id, .string jd, .string wo, .int .i64 fault, .int .i64 tm, .int .i64 wt, .bool nt] 62)).heap.size := hBN.size
      have x0 := (blk_facts hn0).1 0
      have x2 := (blk_facts hn0).1 2
      have x4 := (blk_facts hn0).1 4
      clear hn0
      rcases hcase with ⟨rfl, q1, q2⟩ | ⟨rfl, hq⟩
      · have hS2 := Lib.hid (hF.out.trans (by rw [hS.out, if_pos rfl, ← List.append_assoc]))
        clear hS hF hown
        go_wp2_with (at_builtin; refine wpList_app rfl (.tmp 26) (.tmp 29) 49 rfl Tryz.underlying49 info_strS rfl (by omega) (by omega) hown0 rfl rfl (by first | rfl | (simp; done)) rfl (by simp [Value.oneCell']) (by omega) hz ?_; intro v4 w4 hown4 hg4)
        have H := Lib.hid (And.intro (show w4.ownsRow w.heap.size 9 1 v4 (P ++ [id]).length ((P ++ [id]).map Value.string) by rw [List.map_append, List.length_append]; exact hown4) (below_own hBN hown0 hg4 hz (Nat.le_refl _)))
        clear hown4 hg4 hown0
        go_roundw
        case rel => exact ⟨k + 1, P ++ [id], by omega, by go_num, by rw [List.length_append]; simp; omega, H.out.1, H.out.2, hS2⟩
        case measure => simp [intOf]; omega
      · have hS2 := Lib.hid (hF.out.trans (by rw [hS.out, if_neg (by simp), List.nil_append]))
        clear hS hF hown
        rcases hq with q1 | ⟨q1, q2⟩
        all_goals
          go_wp2
          go_roundw
          case rel => exact ⟨k + 1, P, by omega, by go_num, by omega, hown0, hBN, hS2⟩
          case measure => simp [intOf]; omega
    · obtain rfl : k = n := by omega
      have hfin : SV = P := by rw [hF.out, drop_end (by rw [hl.out]; exact Nat.le_refl _)]; simp [seenV]
      subst hfin
      clear hF hGa hV
      obtain ⟨A3, c3, rfl⟩ := own_shape hown
      go_wp2
      go_ret
      exact ⟨A3, c3, rfl, R1.of_own hown (by omega), hB⟩
end Go.Proofs.YtjafcnblgeibpaaGreatDoor

/- tumbref1.ReportsMerged. -/
namespace Go.Proofs.YtjafcnblgeibpaaGreatDoor
open Go.RowKit Go.Shelf Go.Lib Go.Sort
set_option linter.unusedVariables false

def sameId (x y : Rp) : Bool := decide (y.id = x.id)
set_option maxRecDepth 100000 in
theorem rmC_c (p1 : Nat) (x y : Rp) (w : World) (h1 : w.heap[p1]? = some (.cells (rpE x).toArray 62 (0, 0))) :
    Calls Tryz.prog 118 #[.agg (rpE y).toArray, .pointer (some ⟨p1, 0, none⟩)] w fun e w' => e = .returned (.bool (sameId x y)) ∧ Below w.heap.size w w' := by
  have hcase : (sameId x y = true ∧ (y.id.toList == x.id.toList) = true) ∨ (sameId x y = false ∧ (y.id.toList == x.id.toList) = false) := by
    unfold sameId
    by_cases e : y.id = x.id
    · exact .inl ⟨decide_eq_true e, by rw [e]; exact beq_self_eq_true _⟩
    · exact .inr ⟨decide_eq_false e, str_neR e⟩
  obtain ⟨id2, jd2, who2, fault2, tm2, wt2, nt2⟩ := y
  obtain ⟨id, jd, who, fault, tm, wt, nt⟩ := x
  dsimp only [rpE] at *
  generalize sameId ⟨id, jd, who, fault, tm, wt, nt⟩ ⟨id2, jd2, who2, fault2, tm2, wt2, nt2⟩ = R at *
  have hBn := below_new w (.cells #[.string id2, .string jd2, .string who2, .int .i64 fault2, .int .i64 tm2, .int .i64 wt2, .bool nt2] 62)
  have hn0 := heap_alloc_new w (.cells #[.string id2, .string jd2, .string who2, .int .i64 fault2, .int .i64 tm2, .int .i64 wt2, .bool nt2] 62)
  have a10 := (blk_facts (blk_below h1 hBn)).1 0
  have x0 := (blk_facts hn0).1 0
  have hl1 := lt_of_heap h1
  clear hn0 h1
  rcases hcase with ⟨rfl, b0⟩ | ⟨rfl, b0⟩
  all_goals
    go_enter Tryz.func118, Tryz.ntmps118
    go_wp2
    go_ret
    exact ⟨rfl, hBn⟩
theorem idxRm_c (p : Rp → Bool) (p1 : Nat) (A : Option Addr) (n c : Nat) (l : List Rp) (w : World) (h : RRp w A n l) (hP : ∀ (x : Rp), x ∈ l → ∀ W, Below w.heap.size w W → Calls Tryz.prog 118 #[.agg (rpE x).toArray, .pointer (some ⟨p1, 0, none⟩)] W fun e w' => e = .returned (.bool (p x)) ∧ Below W.heap.size W w') :
    Calls Tryz.prog 117 #[.slice A n c, .func (.func 118) #[] #[.pointer (some ⟨p1, 0, none⟩)]] w fun e w' => ∃ i : Int, e = .returned (.int .i64 i) ∧ ((i = -1 ∧ ∀ x ∈ l, p x = false) ∨ ∃ (k : Nat) (x : Rp), i = k ∧ l[k]? = some x ∧ p x = true) ∧ Below w.heap.size w w' := by
  have hz := Lib.hid hP
  have hR := Lib.hid (fun W B => h.below (w' := W) B)
  have hl := Lib.hid h.len
  have hbd := h.bd
  clear hP h
  go_enter Tryz.func117, Tryz.ntmps117
  go_wp2_with fail
  go_loopw [8] (fun i wr => ∃ k : Nat, k ≤ n ∧ i = .int .i64 k ∧ Below w.heap.size w wr ∧ Hid (∀ x ∈ l.take k, p x = false)) (fun i _ => n - (intOf i).toNat)
  case atStart => exact ⟨0, Nat.zero_le _, rfl, Below.refl _ _, Lib.hid (fun x hx => by simp at hx)⟩
  case round =>
    rename World => wr
    obtain ⟨k, hk, rfl, hB, hF⟩ := hrel
    by_cases hlt : k < n
    · obtain ⟨b, off, x, rfl, hbl, hx, c0, c1, c2, c3, c4, c5, c6⟩ := RRp_at7 (hR.out _ hB) hlt
      have hx' := Lib.hid hx
      have hzx := Lib.hid (hz.out x (List.mem_of_getElem? hx) wr hB)
      obtain ⟨pb, hpb⟩ : ∃ pb, p x = pb := ⟨_, rfl⟩
      rw [hpb] at hzx
      have hpb' := Lib.hid hpb
      obtain ⟨id, jd, wo, fault, tm, wt, nt⟩ := x
      dsimp only [rpE] at *
      clear hx hpb
      cases pb
      · have hF2 := Lib.hid (show ∀ x ∈ l.take (k + 1), p x = false from fun x hx => by
          rw [List.take_add_one, hx'.out] at hx
          rcases List.mem_append.1 hx with hx | hx
          · exact hF.out x hx
          · simp at hx; subst hx; exact hpb'.out)
        clear hF hx' hpb'
        go_wp2_with fail
        refine hzx.out.mono ?_; rintro e w1 ⟨rfl, B1⟩
        have hB1 := below_next hB B1
        go_wp2
        go_roundw
        case rel => exact ⟨k + 1, by omega, by go_num, hB1, hF2⟩
        case measure => simp [intOf]; omega
      · go_wp2_with fail
        refine hzx.out.mono ?_; rintro e w1 ⟨rfl, B1⟩
        have hB1 := below_next hB B1
        go_wp2
        go_ret
        exact ⟨_, rfl, .inr ⟨k, _, rfl, hx'.out, hpb'.out⟩, hB1⟩
    · obtain rfl : k = n := by omega
      have hI := Lib.hid (show ∀ x ∈ l, p x = false from fun x hx => hF.out x (by rw [List.take_of_length_le (by rw [hl.out]; exact Nat.le_refl _)]; exact hx))
      go_wp2
      go_ret
      exact ⟨_, rfl, .inl ⟨rfl, hI.out⟩, hB⟩
def RetMr (a b : List Rp) (w : World) (e : Ending) (w' : World) : Prop := ∃ (A' : Option Addr) (n' c' : Nat) (out : List Rp) (E : Int), e = .returned (.tuple #[.slice A' n' c', .int .i64 E]) ∧ RRp w' A' n' out ∧ CapOk A' n' c' ∧ MrgQ a b E out ∧ Below w.heap.size w w'
theorem byRp_enters : ∀ args w, (callFunc 111 args).run Tryz.prog w = .ok (.enter 111 args) w := enters_of Tryz.func111 (by kernel_rfl) rfl
set_option maxHeartbeats 6400000 in
set_option maxRecDepth 100000 in
theorem reportsMerged_c (A B : Option Addr) (n c m d : Nat) (a b : List Rp) (w : World) (ha : RRp w A n a) (hb : RRp w B m b) (hn : n ≤ 400) (hm : m ≤ 400) (hs : Hid (a.map Rp.id).Nodup) :
    Calls Tryz.prog 42 #[.slice A n c, .slice B m d] w (RetMr a b w) := by
  have hRa := Lib.hid (fun W (B : Below w.heap.size w W) => ha.below B)
  have hRb := Lib.hid (fun W (B : Below w.heap.size w W) => hb.below B)
  have hla := Lib.hid ha.len
  have hlb := Lib.hid hb.len
  have hG3 := Lib.hid (fun (h3 : mrgR a b = none) => show MrgQ a b 13 [] from .inl ⟨h3, rfl, rfl⟩)
  have hG4 := Lib.hid (fun (p : List Rp) (h3 : mrgR a b = some p) (h5 : 500 < n + p.length) => show MrgQ a b 2 [] from .inr ⟨p, h3, .inl ⟨by rw [ha.len]; exact h5, rfl, rfl⟩⟩)
  have hG5 := Lib.hid (fun (p s : List Rp) (h3 : mrgR a b = some p) (h5 : ¬ 500 < n + p.length) (h4 : RpSorted (a ++ p) s) => show MrgQ a b 0 s from .inr ⟨p, h3, .inr ⟨by rw [ha.len]; exact h5, rfl, h4⟩⟩)
  have hCl := Lib.hid (cloneRp_c A n c a w ha (by omega))
  clear ha hb
  go_enter Tryz.func42, Tryz.ntmps42
  go_wp2_with fail
  refine hCl.out.mono ?_; rintro e w3 ⟨A3, c3, rfl, own3, hB3⟩
  clear hCl
  go_wp2_with fail
  go_loopw [6, 14] (fun u i wx => ∃ (j : Nat) (P : List Rp), j ≤ m ∧ i = .int .i64 j ∧ wx.ownsRow w.heap.size 62 7 u (n + P.length) ((a ++ P).flatMap rpE) ∧ Below w.heap.size w wx ∧ P.length ≤ j ∧ Hid (mrgR a b = (mrgR a (b.drop j)).map (P ++ ·))) (fun _ i _ => m - (intOf i).toNat)
  case atStart => exact ⟨0, [], Nat.zero_le _, rfl, by rw [List.append_nil]; exact own3, hB3, Nat.le_refl _, Lib.hid (by rw [List.drop_zero]; simp)⟩
  case round =>
    clear own3 hB3
    rename World => wx
    obtain ⟨j, P, hj, rfl, how, hB, hPj, hF⟩ := hrel
    by_cases hlt : j < m
    · have hlti : (j : Int) < m := by omega
      obtain ⟨b', off, x, rfl, hbl, hx, p0, p1, p2, p3, p4, p5, p6⟩ := RRp_at7 (hRb.out _ hB) hlt
      have hx' := Lib.hid hx
      clear hx
      have hn0 := heap_alloc_new wx (.cells (rpE x).toArray 62)
      have how0 := own_below how (below_new wx (.cells (rpE x).toArray 62))
      have hB0 := below_next hB (below_new wx (.cells (rpE x).toArray 62))
      have hI := Lib.hid (idxRm_c (sameId x) wx.heap.size A n c a (wx.alloc (.cells (rpE x).toArray 62)) (hRa.out _ hB0) (fun y _ W BW => rmC_c wx.heap.size x y W (blk_below hn0 BW)))
      have hsd := Lib.hid (fun (y : Rp) => show sameId x y = decide (y.id = x.id) from rfl)
      generalize sameId x = sm at *
      obtain ⟨id, jd, who, fault, tm, wt, nt⟩ := x
      dsimp only [rpE] at *
      have hwz := hB.size
      clear how
      go_wp2_with fail
      refine hI.out.mono ?_; rintro e w6 ⟨i, rfl, hi, B6⟩
      have hb6 := blk_below hn0 B6
      have how6 := own_below how0 B6
      have hB6 := below_next hB0 B6
      have hz6 : wx.heap.size < w6.heap.size := lt_of_heap hb6
      clear hI hn0 how0 hB0 B6 p0 p1 p2 p3 p4 p5 p6
      have x0 := (blk_facts hb6).1 0
      have x1 := (blk_facts hb6).1 1
      have x2 := (blk_facts hb6).1 2
      have x3 := (blk_facts hb6).1 3
      have x4 := (blk_facts hb6).1 4
      have x5 := (blk_facts hb6).1 5
      have x6 := (blk_facts hb6).1 6
      have hw6 : w.heap.size ≤ w6.heap.size := hB6.size
      rcases hi with ⟨rfl, hi⟩ | ⟨k, y, rfl, hy, hyx⟩
      · have hnew := Lib.hid (fun (P : List Rp) hF => mrgR_new (P := P) hx'.out (fun y hy => by have h9 := hi y hy; rw [hsd.out] at h9; exact of_decide_eq_false h9) hF)
        clear hi hsd
        go_wp2_with (at_builtin; refine wpList_app rfl (.tmp 24) (.tmp 26) 57 rfl Tryz.underlying57 info_report rfl (by omega) (by omega) how6 rfl rfl (by first | rfl | (simp; done)) rfl (by simp [Value.oneCell']) (by omega) hw6 ?_; intro v7 w7 hown7 hg7; have hB7 := below_own hB6 how6 hg7 hw6 (Nat.le_refl _))
        go_roundw
        case rel => exact ⟨j + 1, P ++ [⟨id, jd, who, fault, tm, wt, nt⟩], by omega, by go_num, by rw [← List.append_assoc, flat_appR, List.length_append]; exact hown7, hB7, by rw [List.length_append]; simp; omega, Lib.hid (hnew.out P hF.out)⟩
        case measure => simp [intOf]; omega
      · have hk : k < n := by have := lt_of_at hy; rw [hla.out] at this; exact this
        have hym := List.mem_of_getElem? hy
        rw [hsd.out] at hyx
        have hyx' : y.id = id := of_decide_eq_true hyx
        obtain ⟨b2, off2, y', rfl, hbl2, hy2, q0, q1, q2, q3, q4, q5, q6⟩ := RRp_at7 (hRa.out _ hB6) hk
        obtain rfl : y = y' := by rw [hy] at hy2; exact Option.some.inj hy2
        have hki : (k : Int) < n := by omega
        clear hy hy2 hyx hsd
        by_cases hxy : y = ⟨id, jd, who, fault, tm, wt, nt⟩
        · subst hxy
          dsimp only at q0 q1 q2 q3 q4 q5 q6
          have hold := Lib.hid (mrgR_old hs.out hx'.out hym hF.out)
          clear hyx' hym
          cases nt
          all_goals
            go_wp2
            go_quiet (fail)
            go_wp2
            go_roundw
            case rel => exact ⟨j + 1, P, by omega, by go_num, own_below how6 (below_drewN (Below.refl _ _) _), below_drewN hB6 _, by omega, hold⟩
            case measure => simp [intOf]; omega
        · have hbad := Lib.hid (hG3.out (mrgR_bad hs.out hx'.out hym hyx' hxy hF.out))
          clear hym
          obtain ⟨id2, jd2, who2, fault2, tm2, wt2, nt2⟩ := y
          dsimp only at q0 q1 q2 q3 q4 q5 q6 hyx'
          subst hyx'
          have hcases : ((jd2.toList == jd.toList) = false) ∨ (jd2 = jd ∧ (((who2.toList == who.toList) = false) ∨ (who2 = who ∧ (((fault2 == fault) = false) ∨ (fault2 = fault ∧ (((tm2 == tm) = false) ∨ (tm2 = tm ∧ (((wt2 == wt) = false) ∨ (wt2 = wt ∧ ((nt2 == nt) = false)))))))))) := by
            by_cases q1 : jd2 = jd
            · refine .inr ⟨q1, ?_⟩
              by_cases q2 : who2 = who
              · refine .inr ⟨q2, ?_⟩
                by_cases q3 : fault2 = fault
                · refine .inr ⟨q3, ?_⟩
                  by_cases q4 : tm2 = tm
                  · refine .inr ⟨q4, ?_⟩
                    by_cases q5 : wt2 = wt
                    · refine .inr ⟨q5, ?_⟩
                      exact beq_eq_false_iff_ne.2 (fun q6 => hxy (by rw [q1, q2, q3, q4, q5, q6]))
                    · exact .inl (beq_eq_false_iff_ne.2 q5)
                  · exact .inl (beq_eq_false_iff_ne.2 q4)
                · exact .inl (beq_eq_false_iff_ne.2 q3)
              · exact .inl (str_neR q2)
            · exact .inl (str_neR q1)
          clear hxy
          rcases hcases with h1 | ⟨rfl, h2 | ⟨rfl, h3 | ⟨rfl, h4 | ⟨rfl, h5 | ⟨rfl, h6⟩⟩⟩⟩⟩
          all_goals
            go_wp2
            go_quiet (fail)
            go_wp2
            go_ret2
            exact ⟨none, 0, 0, [], 13, rfl, RN.nil_ _ _ _ _ _, .inl ⟨rfl, rfl, rfl⟩, hbad.out, below_drewN hB6 _⟩
    · obtain rfl : j = m := by omega
      have hmp := Lib.hid (show mrgR a b = some P by
        rw [hF.out, drop_end (by rw [hlb.out]; exact Nat.le_refl _)]
        simp [mrgR])
      obtain ⟨A4, c4, rfl⟩ := own_shape how
      clear hF
      by_cases hbig : 500 < n + P.length
      · have hbig' : (500 : Int) < ((n + P.length : Nat) : Int) := by omega
        have hh4 := Lib.hid (hG4.out P hmp.out hbig)
        go_wp2
        go_ret2
        exact ⟨none, 0, 0, [], 2, rfl, RN.nil_ _ _ _ _ _, .inl ⟨rfl, rfl, rfl⟩, hh4.out, hB⟩
      have hbig' : ¬ (500 : Int) < ((n + P.length : Nat) : Int) := by omega
      have hSo := Lib.hid (sortFRp_c 111 byRp_enters (fun x y W => byReport_c x y W) (a ++ P) wx w.heap.size (n + P.length) _ how (by omega))
      go_wp2_with fail
      refine hSo.out.mono ?_; rintro e w5 ⟨rfl, s, own5, hs5, g5⟩
      have hB5 := below_own hB how g5 hB.size (Nat.le_refl _)
      have hl5 : s.length = n + P.length := by rw [hs5.1.length_eq, List.length_append, hla.out]
      have hR5 : RRp w5 A4 (n + P.length) s := RN.of_own rpE_len own5 hl5 (by omega)
      have hcp := Lib.hid (capOk_own own5)
      have hh5 := Lib.hid (hG5.out P s hmp.out hbig hs5)
      clear hSo how hB g5 own5 hs5 hl5
      go_wp2
      go_ret2
      exact ⟨A4, n + P.length, c4, s, 0, rfl, hR5, hcp.out, hh5.out, hB5⟩
end Go.Proofs.YtjafcnblgeibpaaGreatDoor
