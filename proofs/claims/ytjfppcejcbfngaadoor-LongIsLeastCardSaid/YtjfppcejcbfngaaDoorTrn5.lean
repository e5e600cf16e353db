/- Which turn a race has: the reference's lookup; what a time is worth in the other pool. -/
import Derived.Test.YtjfppcejcbfngaaDoorTrn4
namespace Go.Proofs.YtjfppcejcbfngaaDoor
open Go.RowKit
set_option linter.unusedVariables false

def sameB (s m : Int) (t : Trn) : Bool := decide (t.stroke = s ∧ t.metres = m)
def raceC (r : Race) : Obj := .cells r.cells 27
theorem turnF1_c (t : Trn) (r : Race) (g : Nat) (w : World) (h : w.heap[g]? = some (.cells r.cells 27 (0, 0))) :
    Calls Tryd.prog 159 #[t.val, .pointer (some ⟨g, 0, none⟩)] w fun e w' => e = .returned (.bool (sameB r.stroke r.metres t)) ∧ Below w.heap.size w w' := by
  have hlt := lt_of_heap h
  obtain ⟨key, metres, stroke, course, legs, sex, young, old⟩ := r
  obtain ⟨x0, x1, x2, x3, x4⟩ := t
  dsimp only [Race.cells, Trn.val, Trn.cells] at *
  have z := (blk_facts h).1
  by_cases h1 : x0 = stroke
  · by_cases h2 : x1 = metres
    · have hS : Hid (sameB stroke metres ⟨x0, x1, x2, x3, x4⟩ = true) := Lib.hid (decide_eq_true ⟨h1, h2⟩)
      subst h1 h2
      go_enter Tryd.func159, Tryd.ntmps159
      go_wp2
      go_ret
      exact ⟨ret_b hS.out.symm, below_new _ _⟩
    · have hS : Hid (sameB stroke metres ⟨x0, x1, x2, x3, x4⟩ = false) := Lib.hid (decide_eq_false (fun h => h2 h.2))
      subst h1
      have h2' : (x1 == metres) = false := beq_eq_false_iff_ne.2 h2
      clear h2
      go_enter Tryd.func159, Tryd.ntmps159
      go_wp2
      go_ret
      exact ⟨ret_b hS.out.symm, below_new _ _⟩
  · have hS : Hid (sameB stroke metres ⟨x0, x1, x2, x3, x4⟩ = false) := Lib.hid (decide_eq_false (fun h => h1 h.1))
    have h1' : (x0 == stroke) = false := beq_eq_false_iff_ne.2 h1
    clear h1
    go_enter Tryd.func159, Tryd.ntmps159
    go_wp2
    go_ret
    exact ⟨ret_b hS.out.symm, below_new _ _⟩
def FoundT (s m : Int) (l : List Trn) (v : Int) : Prop := (v = -1 ∧ findT s m l = none) ∨ ∃ (k : Nat) (t : Trn), v = k ∧ l[k]? = some t ∧ findT s m l = some t
theorem indexTn_c (A : Option Addr) (n c : Nat) (l : List Trn) (r : Race) (g : Nat) (w : World) (h : RTn w A n l) (hr : w.heap[g]? = some (.cells r.cells 27 (0, 0))) :
    Calls Tryd.prog 158 #[.slice A n c, .func (.func 159) #[] #[.pointer (some ⟨g, 0, none⟩)]] w fun e w' => ∃ v : Int, e = .returned (.int .i64 v) ∧ FoundT r.stroke r.metres l v ∧ Below w.heap.size w w' := by
  have hb := h.bd
  have hF1 := Lib.hid (fun t W h => turnF1_c t r g W h)
  generalize r.stroke = s at *
  generalize r.metres = m at *
  generalize r.cells = rc at *
  go_enter Tryd.func158, Tryd.ntmps158
  go_wp2
  go_loopw [8] (fun i wr => ∃ k : Nat, k ≤ n ∧ i = .int .i64 k ∧ Below w.heap.size w wr ∧ Hid (findT s m (l.drop k) = findT s m l)) (fun i _ => n - (intOf i).toNat)
  case atStart => exact ⟨0, Nat.zero_le _, rfl, Below.refl _ _, Lib.hid rfl⟩
  case round =>
    obtain ⟨k, hk, rfl, hB, hF⟩ := hrel
    by_cases hlt : k < n
    · obtain ⟨b, off, x, rfl, hbl, hx, c0, c1, c2, c3, c4⟩ := RTn.at5 (h.below hB) hlt
      have hS := Lib.hid (findT_at (s := s) (m := m) hx)
      have hx' := Lib.hid hx
      have hc := Lib.hid (hF1.out x _ (blk_below hr hB))
      have hq : Hid (sameB s m x = decide (x.stroke = s ∧ x.metres = m)) := Lib.hid rfl
      obtain ⟨x0, x1, x2, x3, x4⟩ := x
      dsimp only [Trn.val, Trn.cells] at *
      clear hx
      go_wp2_with fail
      refine hc.out.mono ?_; rintro e w1 ⟨rfl, B1⟩
      have hB1 := below_next hB B1
      generalize sameB s m ⟨x0, x1, x2, x3, x4⟩ = q at *
      cases q
      · have hR := Lib.hid (show findT s m (l.drop (k + 1)) = findT s m l by rw [← hF.out, hS.out, if_neg (of_decide_eq_false hq.out.symm)])
        go_wp2
        go_roundw
        case rel => exact ⟨k + 1, by omega, by go_num, hB1, hR⟩
        case measure => simp [intOf]; omega
      · have hR := Lib.hid (show findT s m l = some ⟨x0, x1, x2, x3, x4⟩ by rw [← hF.out, hS.out, if_pos (of_decide_eq_true hq.out.symm)])
        go_wp2
        go_ret
        exact ⟨k, rfl, .inr ⟨k, _, rfl, hx'.out, hR.out⟩, hB1⟩
    · have hS : Hid (findT s m l = none) := Lib.hid (by rw [← hF.out, drop_end (by rw [h.len]; omega)]; rfl)
      go_wp2
      go_ret
      exact ⟨-1, rfl, .inl ⟨rfl, hS.out⟩, hB⟩
set_option maxHeartbeats 1600000 in
set_option maxRecDepth 100000 in
theorem turnOf_c (A : Option Addr) (n c : Nat) (l : List Trn) (r : Race) (w : World) (h : RTn w A n l) :
    Calls Tryd.prog 134 #[.slice A n c, r.val] w fun e w' => e = .returned (.tuple #[(trnO (findT r.stroke r.metres l)).val, .bool (findT r.stroke r.metres l).isSome]) ∧ Below w.heap.size w w' := by
  have hb := h.bd
  have hnew := blk_alloc (heap_alloc_new w (.cells r.cells 27)) (.cells #[.int .i64 0, .int .i64 0, .int .i64 0, .int .i64 0, .int .i64 0] 160)
  have hK := heap_alloc_new (w.alloc (.cells r.cells 27)) (.cells #[.int .i64 0, .int .i64 0, .int .i64 0, .int .i64 0, .int .i64 0] 160)
  have hI := Lib.hid (fun W h h' => indexTn_c A n c l r w.heap.size W h h')
  have hW : Below w.heap.size w ((w.alloc (.cells r.cells 27)).alloc (.cells #[.int .i64 0, .int .i64 0, .int .i64 0, .int .i64 0, .int .i64 0] 160)) := ((Below.refl _ _).alloc (Nat.le_refl _) _).alloc (by simp) _
  simp only [World.size_alloc] at hK
  generalize r.stroke = s at *
  generalize r.metres = m at *
  obtain ⟨key, metres, stroke, course', legs, sex, young, old⟩ := r
  dsimp only [Race.val, Race.cells, Trn.val, Trn.cells, trn0] at *
  go_enter Tryd.func134, Tryd.ntmps134
  go_wp2_with fail
  refine (hI.out _ ((h.alloc _).alloc _) hnew).mono ?_; rintro e w1 ⟨v, rfl, hv, B1⟩
  replace hK := blk_below hK B1
  replace hW := below_next hW B1
  clear B1
  have lK := lt_of_heap hK
  obtain ⟨zK, yK⟩ := blk_facts hK
  clear hnew hI
  rcases hv with ⟨rfl, hv⟩ | ⟨k, t, rfl, hx, hv⟩
  · have hv' := Lib.hid hv
    clear hv
    go_wp2
    refine bodyPost_ret (v := .tuple #[.agg #[.int .i64 0, .int .i64 0, .int .i64 0, .int .i64 0, .int .i64 0], .bool false]) (by simp [results, Tryd.results134, go_sem, zK]) rfl ⟨by rw [hv'.out]; rfl, ?_⟩
    repeat (with_reducible refine Below.setCell ?_ (by simp) _)
    exact hW
  · have hv' := Lib.hid hv
    have hkn := (h.below hW).mem_at hx
    obtain ⟨b, off, t', rfl, hbl, hx', c0, c1, c2, c3, c4⟩ := RTn.at5 (h.below hW) hkn
    obtain rfl : t = t' := by rw [hx] at hx'; exact Option.some.inj hx'
    clear hv hx hx'
    obtain ⟨x0, x1, x2, x3, x4⟩ := t
    dsimp only at *
    go_wp2
    refine bodyPost_ret (v := .tuple #[.agg #[.int .i64 x0, .int .i64 x1, .int .i64 x2, .int .i64 x3, .int .i64 x4], .bool true]) (by simp [results, Tryd.results134, go_sem, zK]) rfl ⟨by rw [hv'.out]; rfl, ?_⟩
    repeat (with_reducible refine Below.setCell ?_ (by simp) _)
    exact hW
end Go.Proofs.YtjfppcejcbfngaaDoor
