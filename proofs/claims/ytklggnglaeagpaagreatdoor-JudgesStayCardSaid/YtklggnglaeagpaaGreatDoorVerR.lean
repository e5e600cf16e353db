import Derived.Test.YtklggnglaeagpaaGreatDoorVerD
import Derived.Test.YtklggnglaeagpaaGreatDoorDelR
import Derived.Test.YtklggnglaeagpaaGreatDoorApp2
/- tumbref1.about, stands and verdictOf: the reference's verdict is the program's. -/
namespace Go.Proofs.YtklggnglaeagpaaGreatDoor
open Go.RowKit Go.Shelf Go.Lib Go.Sort
set_option linter.unusedVariables false

/-- the greatest weight that is told -/
def mostGo (who : ByteArray) (f at_ : Int) : Int → List Rp → Int
  | m, [] => m
  | m, x :: r => mostGo who f at_ (if mtB who f at_ x = true then max m x.wt else m) r
def mostV (l : List Rp) (who : ByteArray) (f at_ : Int) : Int := mostGo who f at_ 0 l
theorem mostGo_at {who : ByteArray} {f at_ : Int} {l : List Rp} {k : Nat} {x : Rp} (m : Int) (h : l[k]? = some x) : mostGo who f at_ m (l.drop k) = mostGo who f at_ (if mtB who f at_ x = true then max m x.wt else m) (l.drop (k + 1)) := by rw [drop_at h]; rfl
def abB (who : ByteArray) (f at_ M : Int) (x : Rp) : Bool := mtB who f at_ x && decide (x.wt = M)
def aboutV (l : List Rp) (who : ByteArray) (f at_ : Int) : List Rp := l.filter (abB who f at_ (mostV l who f at_))
/-- lastGo and mostGo go together; the last of those with the greatest weight is the best -/
theorem lastGo_most (who : ByteArray) (f at_ : Int) : ∀ (l : List Rp) (best : Rp), (lastGo who f at_ best l).wt = mostGo who f at_ best.wt l
  | [], _ => rfl
  | x :: r, best => by
    unfold lastGo mostGo
    rw [lastGo_most who f at_ r]
    by_cases hm : mtB who f at_ x = true
    · by_cases hw : best.wt ≤ x.wt
      · rw [if_pos ⟨hm, hw⟩, if_pos hm, show max best.wt x.wt = x.wt by omega]
      · rw [if_neg (fun h => hw h.2), if_pos hm, show max best.wt x.wt = best.wt by omega]
    · rw [if_neg (fun h => hm h.1), if_neg hm]
theorem mostGo_ge (who : ByteArray) (f at_ : Int) : ∀ (l : List Rp) (m : Int), m ≤ mostGo who f at_ m l
  | [], m => Int.le_refl m
  | x :: r, m => by
    unfold mostGo
    have h := mostGo_ge who f at_ r (if mtB who f at_ x = true then max m x.wt else m)
    split at h <;> rename_i hm
    · rw [if_pos hm]; omega
    · rw [if_neg hm]; exact h
/-- the last one that passes, or what was there -/
def lastOr (d : Rp) (l : List Rp) : Rp := l.getLast?.getD d
theorem lastGo_ab (who : ByteArray) (f at_ : Int) : ∀ (l : List Rp) (best : Rp), lastGo who f at_ best l = lastOr (if mostGo who f at_ best.wt l = best.wt then best else rp0) (l.filter (abB who f at_ (mostGo who f at_ best.wt l)))
  | [], best => by simp [lastGo, mostGo, lastOr]
  | x :: r, best => by
    have hge := mostGo_ge who f at_
    unfold lastGo mostGo
    by_cases hm : mtB who f at_ x = true
    · rw [if_pos hm]
      by_cases hw : best.wt ≤ x.wt
      · rw [if_pos ⟨hm, hw⟩, show max best.wt x.wt = x.wt by omega, lastGo_ab who f at_ r x]
        by_cases hM : mostGo who f at_ x.wt r = x.wt
        · rw [if_pos hM, hM]
          have hx : abB who f at_ x.wt x = true := by simp [abB, hm]
          rw [List.filter_cons_of_pos hx]
          unfold lastOr
          rw [List.getLast?_cons]
          simp
        · rw [if_neg hM]
          have hx : ¬ abB who f at_ (mostGo who f at_ x.wt r) x = true := by
            simp only [abB, hm, Bool.true_and, decide_eq_true_eq]
            exact fun h => hM h.symm
          rw [List.filter_cons_of_neg hx]
          by_cases hb : mostGo who f at_ x.wt r = best.wt
          · have := hge r x.wt; omega
          · rw [if_neg hb]
      · rw [if_neg (fun h => hw h.2), show max best.wt x.wt = best.wt by omega, lastGo_ab who f at_ r best]
        have hx : ¬ abB who f at_ (mostGo who f at_ best.wt r) x = true := by
          simp only [abB, hm, Bool.true_and, decide_eq_true_eq]
          intro h
          have := hge r best.wt
          omega
        rw [List.filter_cons_of_neg hx]
    · rw [if_neg (fun h => hm h.1), if_neg hm, lastGo_ab who f at_ r best]
      have hx : ¬ abB who f at_ (mostGo who f at_ best.wt r) x = true := by simp [abB, hm]
      rw [List.filter_cons_of_neg hx]
theorem last_about {l : List Rp} (hw : ∀ x ∈ l, 1 ≤ x.wt) (who : ByteArray) (f at_ : Int) : lastV l who f at_ = lastOr rp0 (aboutV l who f at_) ∧ ((0 < (lastV l who f at_).wt) ↔ aboutV l who f at_ ≠ []) ∧ (lastV l who f at_).wt = mostV l who f at_ := by
  have h1 := lastGo_ab who f at_ l rp0
  have h2 := lastGo_most who f at_ l rp0
  have e0 : rp0.wt = 0 := rfl
  rw [e0] at h1 h2
  have h3 : (if mostGo who f at_ 0 l = 0 then rp0 else rp0) = rp0 := by split <;> rfl
  rw [h3] at h1
  refine ⟨h1, ⟨fun h hn => ?_, fun h => ?_⟩, h2⟩
  · have h4 : lastV l who f at_ = rp0 := by
      show lastGo who f at_ rp0 l = rp0
      rw [h1]
      have : l.filter (abB who f at_ (mostGo who f at_ 0 l)) = [] := hn
      rw [this]; rfl
    rw [h4] at h
    exact absurd h (by decide)
  · obtain ⟨x, hx⟩ := List.exists_mem_of_ne_nil _ h
    obtain ⟨hxl, hxa⟩ := List.mem_filter.1 hx
    simp only [abB, Bool.and_eq_true, decide_eq_true_eq] at hxa
    have := hw x hxl
    have h5 : (lastV l who f at_).wt = mostV l who f at_ := h2
    omega
/-- what a list of the report's kind comes back as -/
def RetRs (w : World) (L : List Rp) (e : Ending) (w' : World) : Prop := ∃ A n c, e = .returned (.slice A n c) ∧ RRp w' A n L ∧ Below w.heap.size w w'
theorem rp_src {w : World} {A : Option Addr} {n : Nat} {l : List Rp} (h : RRp w A n l) (hp : 0 < n) : ∃ b off, A = some ⟨b, off, none⟩ ∧ ∀ j u, (l.flatMap rpE)[j]? = some u → w.cell? ⟨b, off + j, none⟩ = some u := by
  obtain ⟨b, off, cs, fz, ha, hb, hc⟩ := h.2.2 hp
  refine ⟨b, off, ha, fun j u hu => ?_⟩
  have hj := lt_of_at hu
  rw [flat_len rpE_len] at hj
  obtain ⟨x, hx⟩ := at_of_lt (l := l) (k := j / 7) (by omega)
  have hi : j % 7 < 7 := Nat.mod_lt _ (by decide)
  have e : j = (j / 7) * 7 + j % 7 := by omega
  have hf := flat_atC rpE_len l (j / 7) (j % 7) x hx hi
  rw [← e, hu] at hf
  rw [cell_of_row w b _ cs _ fz hb]
  have h9 := hc (j / 7) x hx (j % 7) u hf.symm
  rw [show off + j = off + (j / 7) * 7 + j % 7 by omega]
  exact h9
theorem rp_one (l : List Rp) : ∀ u ∈ l.flatMap rpE, u.oneCell' = true := by
  intro u hu
  obtain ⟨x, _, hx⟩ := List.mem_flatMap.1 hu
  simp only [rpE, List.mem_cons, List.not_mem_nil, or_false] at hx
  rcases hx with rfl | rfl | rfl | rfl | rfl | rfl | rfl <;> rfl
set_option maxRecDepth 100000 in
theorem cloneRp_c (A : Option Addr) (n c : Nat) (l : List Rp) (w : World) (h : RRp w A n l) (hn : n ≤ 1000) :
    Calls Tryz.prog 147 #[.slice A n c] w fun e w' => ∃ A' c', e = .returned (.slice A' n c') ∧ w'.ownsRow w.heap.size 96 7 (.slice A' n c') n (l.flatMap rpE) ∧ Below w.heap.size w w' := by
  rcases A with _ | ad
  · have hn0 : n = 0 := by
      rcases Nat.eq_zero_or_pos n with h0 | hp
      · exact h0
      · obtain ⟨b, off, cs, fz, e, _⟩ := h.2.2 hp; cases e
    subst hn0
    have hl : l = [] := List.eq_nil_of_length_eq_zero h.len
    subst hl
    have hnil : ∀ W, (binOp .eql 89 (.slice none 0 c) (.slice none 0 0)).run Tryz.prog W = .ok (.bool true) W := fun W => Go.Lib.run_eql_slice_nil W _ _ none 0 c 0 0 Tryz.underlying89
    go_enter Tryz.func147, Tryz.ntmps147
    go_wp2
    go_ret
    exact ⟨none, 0, rfl, World.ownsRow_nil _ _ _ _, Below.refl _ _⟩
  · have hlen := h.len
    have hB := below_new w (.cells #[] 96)
    have hz : w.heap.size ≤ (w.alloc (.cells #[] 96)).heap.size := by simp
    have hown : (w.alloc (.cells #[] 96)).ownsRow w.heap.size 96 7 (.slice (some ⟨w.heap.size, 0, none⟩) 0 0) 0 ([] : List Value) := ⟨rfl, .inr ⟨w.heap.size, 0, #[], rfl, Nat.le_refl _, heap_alloc_new w _, Nat.le_refl _, Nat.zero_le _, by simp, rfl⟩⟩
    have hs := rp_src (h.below hB)
    have hnil : ∀ W, (binOp .eql 89 (.slice (some ad) n c) (.slice none 0 0)).run Tryz.prog W = .ok (.bool false) W := fun W => Go.Lib.run_eql_slice_nil W _ _ (some ad) n c 0 0 Tryz.underlying89
    go_enter Tryz.func147, Tryz.ntmps147
    go_wp2_with (at_builtin; refine wpList_appR rfl (.tmp 5) (.tmp 6) 89 rfl Tryz.underlying89 info_report rfl (by omega) (by omega) hown rfl (fun e => by cases e) hs rfl (by rw [flat_len rpE_len, hlen]) (rp_one l) (by omega) hz ?_; intro v4 w4 hown4 hg4)
    have hB4 := below_own hB hown hg4 hz (Nat.le_refl _)
    rw [List.nil_append, Nat.zero_add] at hown4
    obtain ⟨A9, c9, rfl⟩ := own_shape hown4
    go_wp2
    go_ret
    exact ⟨A9, c9, rfl, hown4, hB4⟩
/-- the closure of about: what is struck -/
structure AbK (w : World) (p1 p2 p3 p4 : Nat) (who : ByteArray) (f at_ M : Int) : Prop where
  b1 : w.heap[p1]? = some (.cells #[.string who] 9 (0, 0))
  b2 : w.heap[p2]? = some (.cells #[.int .i64 f] 3 (0, 0))
  b3 : w.heap[p3]? = some (.cells #[.int .i64 at_] 3 (0, 0))
  b4 : w.heap[p4]? = some (.cells #[.int .i64 M] 3 (0, 0))
theorem AbK.keep {w w' : World} {p1 p2 p3 p4 : Nat} {who : ByteArray} {f at_ M : Int} (h : AbK w p1 p2 p3 p4 who f at_ M) (hk : Keep 96 w w') : AbK w' p1 p2 p3 p4 who f at_ M :=
  ⟨hk _ _ _ _ (by decide) h.b1, hk _ _ _ _ (by decide) h.b2, hk _ _ _ _ (by decide) h.b3, hk _ _ _ _ (by decide) h.b4⟩
set_option maxHeartbeats 1600000 in
set_option maxRecDepth 100000 in
theorem abC_c (p1 p2 p3 p4 : Nat) (who : ByteArray) (f at_ M : Int) (x : Rp) (w : World) (h : AbK w p1 p2 p3 p4 who f at_ M) :
    Calls Tryz.prog 327 #[.agg (rpE x).toArray, .pointer (some ⟨p1, 0, none⟩), .pointer (some ⟨p2, 0, none⟩), .pointer (some ⟨p3, 0, none⟩), .pointer (some ⟨p4, 0, none⟩)] w fun e w' => e = .returned (.bool (!abB who f at_ M x)) ∧ Below w.heap.size w w' := by
  obtain ⟨id, jd, wo, fault, tm, wt, nt⟩ := x
  have hA := Lib.hid (show abB who f at_ M ⟨id, jd, wo, fault, tm, wt, nt⟩ = (mtB who f at_ ⟨id, jd, wo, fault, tm, wt, nt⟩ && decide (wt = M)) from rfl)
  have hM := Lib.hid (show mtB who f at_ ⟨id, jd, wo, fault, tm, wt, nt⟩ = (decide (wo = who) && (decide (fault = f) && decide (tm ≤ at_))) from rfl)
  generalize abB who f at_ M ⟨id, jd, wo, fault, tm, wt, nt⟩ = R at *
  generalize mtB who f at_ ⟨id, jd, wo, fault, tm, wt, nt⟩ = R2 at *
  dsimp only [rpE] at *
  have hBn := below_new w (.cells #[.string id, .string jd, .string wo, .int .i64 fault, .int .i64 tm, .int .i64 wt, .bool nt] 96)
  have hn0 := heap_alloc_new w (.cells #[.string id, .string jd, .string wo, .int .i64 fault, .int .i64 tm, .int .i64 wt, .bool nt] 96)
  have a1 := (blk_facts (blk_below h.b1 hBn)).1 0
  have a2 := (blk_facts (blk_below h.b2 hBn)).1 0
  have a3 := (blk_facts (blk_below h.b3 hBn)).1 0
  have a4 := (blk_facts (blk_below h.b4 hBn)).1 0
  have x2 := (blk_facts hn0).1 2
  have x3 := (blk_facts hn0).1 3
  have x4 := (blk_facts hn0).1 4
  have x5 := (blk_facts hn0).1 5
  have hl1 := lt_of_heap h.b1
  have hl2 := lt_of_heap h.b2
  have hl3 := lt_of_heap h.b3
  have hl4 := lt_of_heap h.b4
  have hcase : (R = true ∧ (wo.toList == who.toList) = true ∧ (fault == f) = true ∧ tm ≤ at_ ∧ (wt == M) = true) ∨ (R = false ∧ (((wo.toList == who.toList) = false) ∨ ((wo.toList == who.toList) = true ∧ (((fault == f) = false) ∨ ((fault == f) = true ∧ (¬ tm ≤ at_ ∨ (tm ≤ at_ ∧ (wt == M) = false))))))) := by
    by_cases e1 : wo = who
    · have b1 : (wo.toList == who.toList) = true := by rw [e1]; exact beq_self_eq_true _
      by_cases e2 : fault = f
      · have b2 : (fault == f) = true := by rw [e2]; exact beq_self_eq_true _
        by_cases e3 : tm ≤ at_
        · by_cases e4 : wt = M
          · exact .inl ⟨by rw [hA.out, hM.out]; simp [e1, e2, e3, e4], b1, b2, e3, by rw [e4]; exact beq_self_eq_true _⟩
          · exact .inr ⟨by rw [hA.out]; simp [e4], .inr ⟨b1, .inr ⟨b2, .inr ⟨e3, beq_eq_false_iff_ne.2 e4⟩⟩⟩⟩
        · exact .inr ⟨by rw [hA.out, hM.out]; simp [e3], .inr ⟨b1, .inr ⟨b2, .inl e3⟩⟩⟩
      · exact .inr ⟨by rw [hA.out, hM.out]; simp [e2], .inr ⟨b1, .inl (beq_eq_false_iff_ne.2 e2)⟩⟩
    · exact .inr ⟨by rw [hA.out, hM.out]; simp [e1], .inl (str_neV e1)⟩
  clear hA hM h hn0
  have n2t : (fault == f) = true → (fault != f) = false := fun h => by simp [bne, h]
  have n2f : (fault == f) = false → (fault != f) = true := fun h => by simp [bne, h]
  have n4t : (wt == M) = true → (wt != M) = false := fun h => by simp [bne, h]
  have n4f : (wt == M) = false → (wt != M) = true := fun h => by simp [bne, h]
  have d3t : tm ≤ at_ → decide (at_ < tm) = false := fun h => decide_eq_false (by omega)
  have d3f : ¬ tm ≤ at_ → decide (at_ < tm) = true := fun h => decide_eq_true (by omega)
  rcases hcase with ⟨rfl, b1, b2, b3, b4⟩ | ⟨rfl, b1 | ⟨b1, b2 | ⟨b2, b3 | ⟨b3, b4⟩⟩⟩⟩
  · replace b3 := d3t b3
    replace b2 := n2t b2
    replace b4 := n4t b4
    clear d3t d3f n2t n2f n4t n4f
    go_enter Tryz.func327, Tryz.ntmps327
    go_wp2
    go_ret
    exact ⟨rfl, hBn⟩
  · clear d3t d3f n2t n2f n4t n4f
    go_enter Tryz.func327, Tryz.ntmps327
    go_wp2
    go_ret
    exact ⟨rfl, hBn⟩
  · replace b2 := n2f b2
    clear d3t d3f n2t n2f n4t n4f
    go_enter Tryz.func327, Tryz.ntmps327
    go_wp2
    go_ret
    exact ⟨rfl, hBn⟩
  · replace b3 := d3f b3
    replace b2 := n2t b2
    clear d3t d3f n2t n2f n4t n4f
    go_enter Tryz.func327, Tryz.ntmps327
    go_wp2
    go_ret
    exact ⟨rfl, hBn⟩
  · replace b3 := d3t b3
    replace b2 := n2t b2
    replace b4 := n4f b4
    clear d3t d3f n2t n2f n4t n4f
    go_enter Tryz.func327, Tryz.ntmps327
    go_wp2
    go_ret
    exact ⟨rfl, hBn⟩
set_option maxHeartbeats 3200000 in
set_option maxRecDepth 100000 in
theorem about_c (A : Option Addr) (n c : Nat) (l : List Rp) (who : ByteArray) (f at_ : Int) (w : World) (h : RRp w A n l) (hn : n ≤ 1000) :
    Calls Tryz.prog 259 #[.slice A n c, .string who, .int .i64 f, .int .i64 at_] w (RetRs w (aboutV l who f at_)) := by
  have hR := Lib.hid (fun W B => h.below (w' := W) B)
  have hl := Lib.hid h.len
  have hGa := Lib.hid (fun m k x (h : l[k]? = some x) => mostGo_at (who := who) (f := f) (at_ := at_) m h)
  have hV0 := Lib.hid (show mostGo who f at_ 0 l = mostV l who f at_ from rfl)
  have hAv := Lib.hid (show aboutV l who f at_ = l.filter (abB who f at_ (mostV l who f at_)) from rfl)
  generalize aboutV l who f at_ = AV at *
  generalize mostV l who f at_ = V at *
  generalize hlg : mostGo who f at_ = LG at *
  have hG0 := Lib.hid (fun m => show LG m [] = m by rw [← hlg]; rfl)
  clear hlg h
  have hz1 : (w.alloc (.cells #[.string who] 9)).heap.size = w.heap.size + 1 := by simp
  have hz2 : ((w.alloc (.cells #[.string who] 9)).alloc (.cells #[.int .i64 f] 3)).heap.size = w.heap.size + 1 + 1 := by simp
  have hz3 : (((w.alloc (.cells #[.string who] 9)).alloc (.cells #[.int .i64 f] 3)).alloc (.cells #[.int .i64 at_] 3)).heap.size = w.heap.size + 1 + 1 + 1 := by simp
  have K0 : AbK ((((w.alloc (.cells #[.string who] 9)).alloc (.cells #[.int .i64 f] 3)).alloc (.cells #[.int .i64 at_] 3)).alloc (.cells #[.int .i64 0] 3)) w.heap.size (w.heap.size + 1) (w.heap.size + 1 + 1) (w.heap.size + 1 + 1 + 1) who f at_ 0 :=
    ⟨blk_alloc (blk_alloc (blk_alloc (heap_alloc_new w _) _) _) _, blk_alloc (blk_alloc (hz1 ▸ heap_alloc_new (w.alloc (.cells #[.string who] 9)) (.cells #[.int .i64 f] 3)) _) _, blk_alloc (hz2 ▸ heap_alloc_new ((w.alloc (.cells #[.string who] 9)).alloc (.cells #[.int .i64 f] 3)) (.cells #[.int .i64 at_] 3)) _, hz3 ▸ heap_alloc_new (((w.alloc (.cells #[.string who] 9)).alloc (.cells #[.int .i64 f] 3)).alloc (.cells #[.int .i64 at_] 3)) (.cells #[.int .i64 0] 3)⟩
  have hB0 : Below w.heap.size w ((((w.alloc (.cells #[.string who] 9)).alloc (.cells #[.int .i64 f] 3)).alloc (.cells #[.int .i64 at_] 3)).alloc (.cells #[.int .i64 0] 3)) := below_next (below_next (below_next (below_new w _) (below_new _ _)) (below_new _ _)) (below_new _ _)
  go_enter Tryz.func259, Tryz.ntmps259
  go_wp2_with fail
  generalize (((w.alloc (.cells #[.string who] 9)).alloc (.cells #[.int .i64 f] 3)).alloc (.cells #[.int .i64 at_] 3)).alloc (.cells #[.int .i64 0] 3) = w4 at *
  clear hz1 hz2 hz3
  go_loopw [14] (fun i wr => ∃ (k : Nat) (m : Int), k ≤ n ∧ i = .int .i64 k ∧ AbK wr w.heap.size (w.heap.size + 1) (w.heap.size + 1 + 1) (w.heap.size + 1 + 1 + 1) who f at_ m ∧ Below w.heap.size w wr ∧ Hid (LG m (l.drop k) = V)) (fun i _ => n - (intOf i).toNat)
  case atStart => exact ⟨0, 0, Nat.zero_le _, rfl, K0, hB0, hV0⟩
  case round =>
    clear K0 hB0
    rename World => wr
    obtain ⟨k, m, hk, rfl, K, hB, hF⟩ := hrel
    by_cases hlt : k < n
    · obtain ⟨b, off, x, rfl, hbl, hx, c0, c1, c2, c3, c4, c5, c6⟩ := RRp_at7 (hR.out _ hB) hlt
      have hS := Lib.hid ((hGa.out m k x hx).symm.trans hF.out)
      clear hx hF
      obtain ⟨id, jd, wo, fault, tm, wt, nt⟩ := x
      have hM := Lib.hid (show mtB who f at_ ⟨id, jd, wo, fault, tm, wt, nt⟩ = (decide (wo = who) && (decide (fault = f) && decide (tm ≤ at_))) from rfl)
      generalize mtB who f at_ ⟨id, jd, wo, fault, tm, wt, nt⟩ = R2 at *
      dsimp only [rpE] at *
      have hBn := below_new wr (.cells #[.string id, .string jd, .string wo, .int .i64 fault, .int .i64 tm, .int .i64 wt, .bool nt] 96)
      have hn0 := heap_alloc_new wr (.cells #[.string id, .string jd, .string wo, .int .i64 fault, .int .i64 tm, .int .i64 wt, .bool nt] 96)
      have K5 : AbK (wr.alloc (.cells #[.string id, .string jd, .string wo, .int .i64 fault, .int .i64 tm, .int .i64 wt, .bool nt] 96)) w.heap.size (w.heap.size + 1) (w.heap.size + 1 + 1) (w.heap.size + 1 + 1 + 1) who f at_ m := K.keep (Keep.of_below hBn)
      have hB5 := below_next hB hBn
      have a1 := (blk_facts K5.b1).1 0
      have a2 := (blk_facts K5.b2).1 0
      have a3 := (blk_facts K5.b3).1 0
      have a4 := (blk_facts K5.b4).1 0
      have e4 := (blk_facts K5.b4).2 0
      have x2 := (blk_facts hn0).1 2
      have x3 := (blk_facts hn0).1 3
      have x4 := (blk_facts hn0).1 4
      have x5 := (blk_facts hn0).1 5
      have hmw := hB.size
      have hcase : (R2 = true ∧ (wo.toList == who.toList) = true ∧ (fault == f) = true ∧ decide (tm ≤ at_) = true) ∨ (R2 = false ∧ (((wo.toList == who.toList) = false) ∨ ((wo.toList == who.toList) = true ∧ (((fault == f) = false) ∨ ((fault == f) = true ∧ decide (tm ≤ at_) = false))))) := by
        by_cases e1 : wo = who
        · have b1 : (wo.toList == who.toList) = true := by rw [e1]; exact beq_self_eq_true _
          by_cases e2 : fault = f
          · have b2 : (fault == f) = true := by rw [e2]; exact beq_self_eq_true _
            by_cases e3 : tm ≤ at_
            · exact .inl ⟨by rw [hM.out]; simp [e1, e2, e3], b1, b2, decide_eq_true e3⟩
            · exact .inr ⟨by rw [hM.out]; simp [e3], .inr ⟨b1, .inr ⟨b2, decide_eq_false e3⟩⟩⟩
          · exact .inr ⟨by rw [hM.out]; simp [e2], .inr ⟨b1, .inl (beq_eq_false_iff_ne.2 e2)⟩⟩
        · exact .inr ⟨by rw [hM.out]; simp [e1], .inl (str_neV e1)⟩
      clear hM hn0 K hB hbl
      rcases hcase with ⟨rfl, b1, b2, b3⟩ | ⟨rfl, hcase⟩
      · have hS2 := Lib.hid (show LG (max m wt) (l.drop (k + 1)) = V by rw [← hS.out, if_pos rfl])
        clear hS
        have K6 : AbK ((wr.alloc (.cells #[.string id, .string jd, .string wo, .int .i64 fault, .int .i64 tm, .int .i64 wt, .bool nt] 96)).setCell ⟨w.heap.size + 1 + 1 + 1, 0, none⟩ (.int .i64 (max m wt))) w.heap.size (w.heap.size + 1) (w.heap.size + 1 + 1) (w.heap.size + 1 + 1 + 1) who f at_ (max m wt) :=
          ⟨by rw [Below.heap_setCell _ _ _ _ (by show w.heap.size ≠ w.heap.size + 1 + 1 + 1; omega)]; exact K5.b1, by rw [Below.heap_setCell _ _ _ _ (by show w.heap.size + 1 ≠ w.heap.size + 1 + 1 + 1; omega)]; exact K5.b2, by rw [Below.heap_setCell _ _ _ _ (by show w.heap.size + 1 + 1 ≠ w.heap.size + 1 + 1 + 1; omega)]; exact K5.b3, by simpa using blk_set K5.b4 0 (.int .i64 (max m wt))⟩
        have hB6 := hB5.setCell (p := ⟨w.heap.size + 1 + 1 + 1, 0, none⟩) (by show w.heap.size ≤ w.heap.size + 1 + 1 + 1; omega) (.int .i64 (max m wt))
        clear K5 hB5
        go_wp2
        go_roundw
        case rel => exact ⟨k + 1, max m wt, by omega, by go_num, K6, hB6, hS2⟩
        case measure => simp [intOf]; omega
      · have hS2 := Lib.hid (show LG m (l.drop (k + 1)) = V by rw [← hS.out, if_neg (by decide)])
        clear hS
        rcases hcase with b1 | ⟨b1, b2 | ⟨b2, b3⟩⟩
        all_goals
          go_wp2
          go_roundw
          case rel => exact ⟨k + 1, m, by omega, by go_num, K5, hB5, hS2⟩
          case measure => simp [intOf]; omega
    · obtain rfl : k = n := by omega
      have hfin : m = V := by rw [← hF.out, drop_end (by rw [hl.out]; exact Nat.le_refl _), hG0.out]
      subst hfin
      clear hF
      have hRn := hR.out _ hB
      go_wp2_with fail
      refine (cloneRp_c A k c l wr hRn (by omega)).mono ?_; rintro e w5 ⟨A5, c5, rfl, ho5, B5⟩
      have K6 := K.keep (Keep.of_below B5)
      have hB6 := below_next hB B5
      have hDe := Lib.hid (deleteR_c (fun x => !abB who f at_ m x) w.heap.size (w.heap.size + 1) (w.heap.size + 1 + 1) (w.heap.size + 1 + 1 + 1) wr.heap.size (.slice A5 k c5) k l w5 ho5 hn B5.size (fun x W hk => abC_c _ _ _ _ who f at_ m x W (K6.keep hk)))
      have hfl : (l.filter fun y => !(!abB who f at_ m y)) = AV := by rw [hAv.out]; congr 1; funext y; simp
      clear hRn K ho5 K6
      go_wp2_with fail
      refine hDe.out.mono ?_; rintro e w6 ⟨A6, n6, c6, rfl, ho6, hn6, B6⟩
      rw [hfl] at ho6
      have hB7 := hB6.trans (B6.mono hB.size)
      have hr6 : RRp w6 A6 n6 AV := RN.of_own rpE_len ho6 (own_len rpE_len (by decide) ho6) (by omega)
      clear ho6 B6 hDe hfl
      go_wp2
      go_ret
      exact ⟨A6, n6, c6, rfl, hr6, hB7⟩
end Go.Proofs.YtklggnglaeagpaaGreatDoor
