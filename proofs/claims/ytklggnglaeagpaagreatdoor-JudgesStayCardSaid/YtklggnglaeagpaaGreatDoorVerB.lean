import Derived.Test.YtklggnglaeagpaaGreatDoorRptA
import Derived.BigRegion
import Derived.Deep.QuietTactic
import Derived.BigQuiet
import Derived.BigGuardPart
namespace Go.Proofs.YtklggnglaeagpaaGreatDoor
open Go.RowKit Go.Shelf Go.Lib Go.Sort
set_option linter.unusedVariables false

def rp0 : Rp := ⟨⟨#[]⟩, ⟨#[]⟩, ⟨#[]⟩, 0, 0, 0, false⟩
theorem str_neV {a b : ByteArray} (h : a ≠ b) : (a.toList == b.toList) = false := by
  rw [beq_eq_false_iff_ne, ByteArray.toList_eq, ByteArray.toList_eq]
  intro e
  exact h (by cases a; cases b; congr 1; exact Array.toList_inj.mp e)
def rp7 (w : World) (b : Nat) (v0 v1 v2 v3 v4 v5 v6 : Value) : World := ((((((w.setCell ⟨b, 0, none⟩ v0).setCell ⟨b, 1, none⟩ v1).setCell ⟨b, 2, none⟩ v2).setCell ⟨b, 3, none⟩ v3).setCell ⟨b, 4, none⟩ v4).setCell ⟨b, 5, none⟩ v5).setCell ⟨b, 6, none⟩ v6
theorem rp7_blk {T : TypeId} {w : World} {b : Nat} {u0 u1 u2 u3 u4 u5 u6 : Value} (h : w.heap[b]? = some (.cells #[u0, u1, u2, u3, u4, u5, u6] T (0, 0))) (v0 v1 v2 v3 v4 v5 v6 : Value) : (rp7 w b v0 v1 v2 v3 v4 v5 v6).heap[b]? = some (.cells #[v0, v1, v2, v3, v4, v5, v6] T (0, 0)) := by
  have h8 := (blk_set (blk_set (blk_set (blk_set (blk_set (blk_set (blk_set h 0 v0) 1 v1) 2 v2) 3 v3) 4 v4) 5 v5) 6 v6)
  simpa [rp7] using h8
theorem rp7_far {w : World} {b i : Nat} {o : Obj} (h : w.heap[i]? = some o) (hne : i ≠ b) (v0 v1 v2 v3 v4 v5 v6 : Value) : (rp7 w b v0 v1 v2 v3 v4 v5 v6).heap[i]? = some o := by
  unfold rp7
  rw [Below.heap_setCell _ _ _ _ hne, Below.heap_setCell _ _ _ _ hne, Below.heap_setCell _ _ _ _ hne, Below.heap_setCell _ _ _ _ hne, Below.heap_setCell _ _ _ _ hne, Below.heap_setCell _ _ _ _ hne, Below.heap_setCell _ _ _ _ hne]
  exact h
theorem rp7_below {B : Nat} {a w : World} (h : Below B a w) {b : Nat} (hb : B ≤ b) (v0 v1 v2 v3 v4 v5 v6 : Value) : Below B a (rp7 w b v0 v1 v2 v3 v4 v5 v6) :=
  ((((((h.setCell hb v0).setCell hb v1).setCell hb v2).setCell hb v3).setCell hb v4).setCell hb v5).setCell hb v6
theorem heap_drewV {w : World} {b : Nat} {o : Option Obj} (h : w.heap[b]? = o) : w.drew.heap[b]? = o := h
theorem below_drewV {B : Nat} {a w : World} (h : Below B a w) : Below B a w.drew := below_drewN h 1
def mtB (who : ByteArray) (f at_ : Int) (x : Rp) : Bool := decide (x.who = who) && (decide (x.fault = f) && decide (x.tm ≤ at_))
def lastGo (who : ByteArray) (f at_ : Int) : Rp → List Rp → Rp
  | best, [] => best
  | best, x :: r => lastGo who f at_ (if mtB who f at_ x = true ∧ best.wt ≤ x.wt then x else best) r
theorem lastGo_at {who : ByteArray} {f at_ : Int} {l : List Rp} {k : Nat} {x : Rp} (best : Rp) (h : l[k]? = some x) : lastGo who f at_ best (l.drop k) = lastGo who f at_ (if mtB who f at_ x = true ∧ best.wt ≤ x.wt then x else best) (l.drop (k + 1)) := by rw [drop_at h]; rfl
def lastV (l : List Rp) (who : ByteArray) (f at_ : Int) : Rp := lastGo who f at_ rp0 l
set_option maxHeartbeats 6400000 in
set_option maxRecDepth 100000 in
theorem last_c (A : Option Addr) (n c : Nat) (l : List Rp) (who : ByteArray) (f at_ : Int) (w : World) (h : RRp w A n l) :
    Calls Tryz.prog 256 #[.slice A n c, .string who, .int .i64 f, .int .i64 at_] w fun e w' => e = .returned (.tuple #[.agg (rpE (lastV l who f at_)).toArray, .bool (decide (0 < (lastV l who f at_).wt))]) ∧ Below w.heap.size w w' := by
  have hR := Lib.hid (fun W B => h.below (w' := W) B)
  have hbd := h.bd
  have hl := Lib.hid h.len
  have hGa := Lib.hid (fun best k x (h : l[k]? = some x) => lastGo_at (who := who) (f := f) (at_ := at_) best h)
  have hV0 := Lib.hid (show lastGo who f at_ rp0 l = lastV l who f at_ from rfl)
  have hG0 := Lib.hid (fun b => show lastGo who f at_ b [] = b from rfl)
  generalize lastV l who f at_ = V at *
  generalize hlg : lastGo who f at_ = LG at *
  clear hlg h
  have hb1 := heap_alloc_new (w.alloc (.cells (rpE rp0).toArray 96)) (.cells (rpE rp0).toArray 96)
  have hb0 := blk_alloc (heap_alloc_new w (.cells (rpE rp0).toArray 96)) (.cells (rpE rp0).toArray 96)
  rw [alloc_sizeS] at hb1
  have hB0 := below_next (below_new w (.cells (rpE rp0).toArray 96)) (below_new (w.alloc (.cells (rpE rp0).toArray 96)) (.cells (rpE rp0).toArray 96))
  go_enter Tryz.func256, Tryz.ntmps256
  go_wp2_with fail
  go_loopw [15] (fun i wr => ∃ (k : Nat) (best : Rp), k ≤ n ∧ i = .int .i64 k ∧ wr.heap[w.heap.size]? = some (.cells (rpE rp0).toArray 96 (0, 0)) ∧ wr.heap[w.heap.size + 1]? = some (.cells (rpE best).toArray 96 (0, 0)) ∧ Below w.heap.size w wr ∧ Hid (LG best (l.drop k) = V)) (fun i _ => n - (intOf i).toNat)
  case atStart => exact ⟨0, rp0, Nat.zero_le _, rfl, hb0, hb1, hB0, hV0⟩
  case round =>
    clear hb0 hb1 hB0
    rename World => wr
    obtain ⟨k, best, hk, rfl, hb0, hb1, hB, hF⟩ := hrel
    by_cases hlt : k < n
    · obtain ⟨b, off, x, rfl, hbl, hx, c0, c1, c2, c3, c4, c5, c6⟩ := RRp_at7 (hR.out _ hB) hlt
      have hS := Lib.hid ((hGa.out best k x hx).symm.trans hF.out)
      clear hx hF
      obtain ⟨id, jd, wo, fault, tm, wt, nt⟩ := x
      obtain ⟨id1, jd1, wo1, fault1, tm1, wt1, nt1⟩ := best
      dsimp only [rpE] at *
      have hmw := hB.size
      have hn0 := heap_alloc_new wr (.cells #[.string id, .string jd, .string wo, .int .i64 fault, .int .i64 tm, .int .i64 wt, .bool nt] 96)
      have hBn := below_new wr (.cells #[.string id, .string jd, .string wo, .int .i64 fault, .int .i64 tm, .int .i64 wt, .bool nt] 96)
      have hb0n := blk_below hb0 hBn
      have hb1n := blk_below hb1 hBn
      have hBN := below_next hB hBn
      have x0 := (blk_facts hn0).1 0
      have x1 := (blk_facts hn0).1 1
      have x2 := (blk_facts hn0).1 2
      have x3 := (blk_facts hn0).1 3
      have x4 := (blk_facts hn0).1 4
      have x5 := (blk_facts hn0).1 5
      have x6 := (blk_facts hn0).1 6
      have y0 := (blk_facts hb1n).1 0
      have y1 := (blk_facts hb1n).1 1
      have y2 := (blk_facts hb1n).1 2
      have y3 := (blk_facts hb1n).1 3
      have y4 := (blk_facts hb1n).1 4
      have y5 := (blk_facts hb1n).1 5
      have y6 := (blk_facts hb1n).1 6
      have z0 := (blk_facts hb1n).2 0
      have z1 := (blk_facts hb1n).2 1
      have z2 := (blk_facts hb1n).2 2
      have z3 := (blk_facts hb1n).2 3
      have z4 := (blk_facts hb1n).2 4
      have z5 := (blk_facts hb1n).2 5
      have z6 := (blk_facts hb1n).2 6
      have hcase : (wo = who ∧ fault = f ∧ tm ≤ at_ ∧ wt1 ≤ wt) ∨ ((wo.toList == who.toList) = false) ∨ (wo = who ∧ (((fault == f) = false) ∨ (fault = f ∧ ((decide (tm ≤ at_) = false) ∨ (decide (tm ≤ at_) = true ∧ decide (wt1 ≤ wt) = false))))) := by
        by_cases e1 : wo = who
        · by_cases e2 : fault = f
          · by_cases e3 : tm ≤ at_
            · by_cases e4 : wt1 ≤ wt
              · exact .inl ⟨e1, e2, e3, e4⟩
              · exact .inr (.inr ⟨e1, .inr ⟨e2, .inr ⟨decide_eq_true e3, decide_eq_false e4⟩⟩⟩)
            · exact .inr (.inr ⟨e1, .inr ⟨e2, .inl (decide_eq_false e3)⟩⟩)
          · exact .inr (.inr ⟨e1, .inl (beq_eq_false_iff_ne.2 e2)⟩)
        · exact .inr (.inl (str_neV e1))
      rcases hcase with ⟨rfl, rfl, e3, e4⟩ | hcase
      · have d3 : decide (tm ≤ at_) = true := decide_eq_true e3
        have d4 : decide (wt1 ≤ wt) = true := decide_eq_true e4
        have hS2 := Lib.hid (show LG ⟨id, jd, wo, fault, tm, wt, nt⟩ (l.drop (k + 1)) = V by
          rw [← hS.out, if_pos ⟨by simp [mtB, e3], e4⟩])
        clear hS
        go_wp2
        go_roundw
        case rel =>
          exact ⟨k + 1, ⟨id, jd, wo, fault, tm, wt, nt⟩, by omega, by go_num, rp7_far hb0n (by omega) (.string id) (.string jd) (.string wo) (.int .i64 fault) (.int .i64 tm) (.int .i64 wt) (.bool nt), rp7_blk hb1n (.string id) (.string jd) (.string wo) (.int .i64 fault) (.int .i64 tm) (.int .i64 wt) (.bool nt), rp7_below hBN (by omega) (.string id) (.string jd) (.string wo) (.int .i64 fault) (.int .i64 tm) (.int .i64 wt) (.bool nt), hS2⟩
        case measure => simp [intOf]; omega
      · have hno : ¬ (mtB who f at_ ⟨id, jd, wo, fault, tm, wt, nt⟩ = true ∧ wt1 ≤ wt) := by
          rintro ⟨h1, h2⟩
          simp only [mtB, Bool.and_eq_true, decide_eq_true_eq] at h1
          obtain ⟨h3, h4, h5⟩ := h1
          rcases hcase with q | ⟨_, q | ⟨_, q | ⟨_, q⟩⟩⟩
          · rw [h3] at q; simp at q
          · rw [h4] at q; simp at q
          · exact absurd h5 (of_decide_eq_false q)
          · exact absurd h2 (of_decide_eq_false q)
        have hS2 := Lib.hid (show LG ⟨id1, jd1, wo1, fault1, tm1, wt1, nt1⟩ (l.drop (k + 1)) = V by rw [← hS.out, if_neg hno])
        clear hS hno
        rcases hcase with q | ⟨rfl, q | ⟨rfl, q | ⟨q, q'⟩⟩⟩
        all_goals
          go_wp2
          go_roundw
          case rel => exact ⟨k + 1, _, by omega, by go_num, hb0n, hb1n, hBN, hS2⟩
          case measure => simp [intOf]; omega
    · obtain rfl : k = n := by omega
      have hfin : best = V := by rw [← hF.out, drop_end (by rw [hl.out]; exact Nat.le_refl _), hG0.out]
      subst hfin
      clear hF
      obtain ⟨id1, jd1, wo1, fault1, tm1, wt1, nt1⟩ := best
      dsimp only [rpE, rp0] at *
      have y0 := (blk_facts hb1).1 0
      have y1 := (blk_facts hb1).1 1
      have y2 := (blk_facts hb1).1 2
      have y3 := (blk_facts hb1).1 3
      have y4 := (blk_facts hb1).1 4
      have y5 := (blk_facts hb1).1 5
      have y6 := (blk_facts hb1).1 6
      have v0 := (blk_facts hb0).1 0
      have f0 := (blk_facts hb0).2 0
      have v1 := (blk_facts hb0).1 1
      have f1 := (blk_facts hb0).2 1
      have v2 := (blk_facts hb0).1 2
      have f2 := (blk_facts hb0).2 2
      have v3 := (blk_facts hb0).1 3
      have f3 := (blk_facts hb0).2 3
      have v4 := (blk_facts hb0).1 4
      have f4 := (blk_facts hb0).2 4
      have v5 := (blk_facts hb0).1 5
      have f5 := (blk_facts hb0).2 5
      have v6 := (blk_facts hb0).1 6
      have f6 := (blk_facts hb0).2 6
      go_wp2_with fail
      have hbF0 := heap_drewV (rp7_blk hb0 (.string id1) (.string jd1) (.string wo1) (.int .i64 fault1) (.int .i64 tm1) (.int .i64 wt1) (.bool nt1))
      have hBF0 := below_drewV (rp7_below hB (Nat.le_refl _) (.string id1) (.string jd1) (.string wo1) (.int .i64 fault1) (.int .i64 tm1) (.int .i64 wt1) (.bool nt1))
      have hbF1 := Lib.hid hbF0
      have hBF1 := Lib.hid hBF0
      clear hbF0 hBF0
      go_region
      generalize hW : World.drew (((((((wr.setCell ⟨w.heap.size, 0, none⟩ (.string id1)).setCell ⟨w.heap.size, 1, none⟩ (.string jd1)).setCell ⟨w.heap.size, 2, none⟩ (.string wo1)).setCell ⟨w.heap.size, 3, none⟩ (.int .i64 fault1)).setCell ⟨w.heap.size, 4, none⟩ (.int .i64 tm1)).setCell ⟨w.heap.size, 5, none⟩ (.int .i64 wt1)).setCell ⟨w.heap.size, 6, none⟩ (.bool nt1)) = wF
      have hbF : wF.heap[w.heap.size]? = some (.cells #[.string id1, .string jd1, .string wo1, .int .i64 fault1, .int .i64 tm1, .int .i64 wt1, .bool nt1] 96 (0, 0)) := by rw [← hW]; exact hbF1.out
      have hBF : Below w.heap.size w wF := by rw [← hW]; exact hBF1.out
      clear hW hb0 hb1 hB v0 v1 v2 v3 v4 v5 v6 f0 f1 f2 f3 f4 f5 f6 y0 y1 y2 y3 y4 y5 y6 hbF1 hBF1
      have zF := (blk_facts hbF).1
      go_wp2
      (try simp only [Exit.inBlock, Exit.then])
      refine bodyPost_ret (v := .tuple #[.agg #[.string id1, .string jd1, .string wo1, .int .i64 fault1, .int .i64 tm1, .int .i64 wt1, .bool nt1], .bool (decide (0 < wt1))]) ?_ rfl ⟨rfl, hBF⟩
      simp [results, Tryz.results256, go_sem, zF]
end Go.Proofs.YtklggnglaeagpaaGreatDoor
