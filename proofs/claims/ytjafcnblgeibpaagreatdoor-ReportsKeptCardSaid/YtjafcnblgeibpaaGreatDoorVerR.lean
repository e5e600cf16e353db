import Derived.Test.YtjafcnblgeibpaaGreatDoorVerD
import Derived.Test.YtjafcnblgeibpaaGreatDoorDelR
import Derived.Test.YtjafcnblgeibpaaGreatDoorApp2
/- tumbref1.about, stands and verdictOf: the reference's verdict is the program's. -/
namespace Go.Proofs.YtjafcnblgeibpaaGreatDoor
open Go.RowKit Go.Shelf Go.Lib Go.Sort
set_option linter.unusedVariables false

/-- the greatest weight that is told -/
def mostGo (who : ByteArray) (f at_ : Int) : Int → List Rp → Int
  | m, [] => m
  | m, x :: r => mostGo who f at_ (if mtB who f at_ x = true then max m x.wt else m) r
def mostV (l : List Rp) (who : ByteArray) (f at_ : Int) : Int := mostGo who f at_ 0 l
theorem mostGo_at {who : ByteArray} {f at_ : Int} {l : List Rp} {k : Nat} {x : Rp} (m : Int) (h : l[k]? = some x) : mostGo who f at_ m (l.drop k) = mostGo who f at_ (if mtB who f at_ x = true then max m x.wt else m) (l.drop (k + 1)) := by rw [drop_at h]; rfl
def abB (who : ByteArray) (f at_ M : Int) (x : Rp) : Bool := mtB who f at_ x && decide (x.wt = M)
def aboutV (l : List Rp) (who : ByteArray) (f at_ : Int) : List Rp := l.filter (abB who f at_ (mostV l who f at_))
/-- lastGo and mostGo go together; the last of those with the greatest weight is the best -/
theorem lastGo_most (who : ByteArray) (f at_ : Int) : ∀ (l : List Rp) (best : Rp), (lastGo who f at_ best l).wt = mostGo who f at_ best.wt l
  | [], _ => rfl
  | x :: r, best => by
    unfold lastGo mostGo
    rw [lastGo_most who f at_ r]
    by_cases hm : mtB who f at_ x = true
    · by_cases hw : best.wt ≤ x.wt
      · rw [if_pos ⟨hm, hw⟩, if_pos hm, show max best.wt x.wt = x.wt by omega]
      · rw [if_neg (fun h => hw h.2), if_pos hm, show max best.wt x.wt = best.wt by omega]
    · rw [if_neg (fun h => hm h.1), if_neg hm]
theorem mostGo_ge (who : ByteArray) (f at_ : Int) : ∀ (l : List Rp) (m : Int), m ≤ mostGo who f at_ m l
  | [], m => Int.le_refl m
  | x :: r, m => by
    unfold mostGo
    have h := mostGo_ge who f at_ r (if mtB who f at_ x = true then max m x.wt else m)
    split at h <;> rename_i hm
    · rw [if_pos hm]; omega
    · rw [if_neg hm]; exact h
/-- the last one that passes, or what was there -/
def lastOr (d : Rp) (l : List Rp) : Rp := l.getLast?.getD d
theorem lastGo_ab (who : ByteArray) (f at_ : Int) : ∀ (l : List Rp) (best : Rp), lastGo who f at_ best l = lastOr (if mostGo who f at_ best.wt l = best.wt then best else rp0) (l.filter (abB who f at_ (mostGo who f at_ best.wt l)))
  | [], best => by simp [lastGo, mostGo, lastOr]
  | x :: r, best => by
    have hge := mostGo_ge who f at_
    unfold lastGo mostGo
    by_cases hm : mtB who f at_ x = true
    · rw [if_pos hm]
      by_cases hw : best.wt ≤ x.wt
      · rw [if_pos ⟨hm, hw⟩, show max best.wt x.wt = x.wt by omega, lastGo_ab who f at_ r x]
        by_cases hM : mostGo who f at_ x.wt r = x.wt
        · rw [if_pos hM, hM]
          have hx : abB who f at_ x.wt x = true := by simp [abB, hm]
          rw [List.filter_cons_of_pos hx]
          unfold lastOr
          rw [List.getLast?_cons]
          simp
        · rw [if_neg hM]
          have hx : ¬ abB who f at_ (mostGo who f at_ x.wt r) x = true := by
            simp only [abB, hm, Bool.true_and, decide_eq_true_eq]
            exact fun h => hM h.symm
          rw [List.filter_cons_of_neg hx]
          by_cases hb : mostGo who f at_ x.wt r = best.wt
          · have := hge r x.wt; omega
          · rw [if_neg hb]
      · rw [if_neg (fun h => hw h.2), show max best.wt x.wt = best.wt by omega, lastGo_ab who f at_ r best]
        have hx : ¬ abB who f at_ (mostGo who f at_ best.wt r) x = true := by
          simp only [abB, hm, Bool.true_and, decide_eq_true_eq]
          intro h
          have := hge r best.wt
          omega
        rw [List.filter_cons_of_neg hx]
    · rw [if_neg (fun h => hm h.1), if_neg hm, lastGo_ab who f at_ r best]
      have hx : ¬ abB who f at_ (mostGo who f at_ best.wt r) x = true := by simp [abB, hm]
      rw [List.filter_cons_of_neg hx]
theorem last_about {l : List Rp} (hw : ∀ x ∈ l, 1 ≤ x.wt) (who : ByteArray) (f at_ : Int) : lastV l who f at_ = lastOr rp0 (aboutV l who f at_) ∧ ((0 < (lastV l who f at_).wt) ↔ aboutV l who f at_ ≠ []) ∧ (lastV l who f at_).wt = mostV l who f at_ := by
  have h1 := lastGo_ab who f at_ l rp0
  have h2 := lastGo_most who f at_ l rp0
  have e0 : rp0.wt = 0 := rfl
  rw [e0] at h1 h2
  have h3 : (if mostGo who f at_ 0 l = 0 then rp0 else rp0) = rp0 := by split <;> rfl
  rw [h3] at h1
  refine ⟨h1, ⟨fun h hn => ?_, fun h => ?_⟩, h2⟩
  · have h4 : lastV l who f at_ = rp0 := by
      show lastGo who f at_ rp0 l = rp0
      rw [h1]
      have : l.filter (abB who f at_ (mostGo who f at_ 0 l)) = [] := hn
      rw [this]; rfl
    rw [h4] at h
    exact absurd h (by decide)
  · obtain ⟨x, hx⟩ := List.exists_mem_of_ne_nil _ h
    obtain ⟨hxl, hxa⟩ := List.mem_filter.1 hx
    simp only [abB, Bool.and_eq_true, decide_eq_true_eq] at hxa
    have := hw x hxl
    have h5 : (lastV l who f at_).wt = mostV l who f at_ := h2
    omega
/-- what a list of the report's kind comes back as -/
def RetRs (w : World) (L : List Rp) (e : Ending) (w' : World) : Prop := ∃ A n c, e = .returned (.slice A n c) ∧ RRp w' A n L ∧ Below w.heap.size w w'
theorem rp_src {w : World} {A : Option Addr} {n : Nat} {l : List Rp} (h : RRp w A n l) (hp : 0 < n) : ∃ b off, A = some ⟨b, off, none⟩ ∧ ∀ j u, (l.flatMap rpE)[j]? = some u → w.cell? ⟨b, off + j, none⟩ = some u := by
  obtain ⟨b, off, cs, fz, ha, hb, hc⟩ := h.2.2 hp
  refine ⟨b, off, ha, fun j u hu => ?_⟩
  have hj := lt_of_at hu
  rw [flat_len rpE_len] at hj
  obtain ⟨x, hx⟩ := at_of_lt (l := l) (k := j / 7) (by omega)
  have hi : j % 7 < 7 := Nat.mod_lt _ (by decide)
  have e : j = (j / 7) * 7 + j % 7 := by omega
  have hf := flat_atC rpE_len l (j / 7) (j % 7) x hx hi
  rw [← e, hu] at hf
  rw [cell_of_row w b _ cs _ fz hb]
  have h9 := hc (j / 7) x hx (j % 7) u hf.symm
  rw [show off + j = off + (j / 7) * 7 + j % 7 by omega]
  exact h9
theorem rp_one (l : List Rp) : ∀ u ∈ l.flatMap rpE, u.oneCell' = true := by
  intro u hu
  obtain ⟨x, _, hx⟩ := List.mem_flatMap.1 hu
  simp only [rpE, List.mem_cons, List.not_mem_nil, or_false] at hx
  rcases hx with rfl | rfl | rfl | rfl | rfl | rfl | rfl <;> rfl
set_option maxRecDepth 100000 in
theorem cloneRp_c (A : Option Addr) (n c : Nat) (l : List Rp) (w : World) (h : RRp w A n l) (hn : n ≤ 1000) :
    Calls Tryz.prog 34 #[.slice A n c] w fun e w' => ∃ A' c', e = .returned (.slice A' n c') ∧ w'.ownsRow w.heap.size 62 7 (.slice A' n c') n (l.flatMap rpE) ∧ Below w.heap.size w w' := by
  rcases A with _ | ad
  · have hn0 : n = 0 := by
      rcases Nat.eq_zero_or_pos n with h0 | hp
      · exact h0
      · obtain ⟨b, off, cs, fz, e, _⟩ := h.2.2 hp; cases e
    subst hn0
    have hl : l = [] := List.eq_nil_of_length_eq_zero h.len
    subst hl
    have hnil : ∀ W, (binOp .eql 57 (.slice none 0 c) (.slice none 0 0)).run Tryz.prog W = .ok (.bool true) W := fun W => Go.Lib.run_eql_slice_nil W _ _ none 0 c 0 0 Tryz.underlying57
    go_enter Tryz.func34, Tryz.ntmps34
    go_wp2
    go_ret
    exact ⟨none, 0, rfl, World.ownsRow_nil _ _ _ _, Below.refl _ _⟩
  · have hlen := h.len
    have hB := below_new w (.cells #[] 62)
    have hz : w.heap.size ≤ (w.alloc (.cells #[] 62)).heap.size := by simp
    have hown : (w.alloc (.cells #[] 62)).ownsRow w.heap.size 62 7 (.slice (some ⟨w.heap.size, 0, none⟩) 0 0) 0 ([] : List Value) := ⟨rfl, .inr ⟨w.heap.size, 0, #[], rfl, Nat.le_refl _, heap_alloc_new w _, Nat.le_refl _, Nat.zero_le _, by simp, rfl⟩⟩
    have hs := rp_src (h.below hB)
    have hnil : ∀ W, (binOp .eql 57 (.slice (some ad) n c) (.slice none 0 0)).run Tryz.prog W = .ok (.bool false) W := fun W => Go.Lib.run_eql_slice_nil W _ _ (some ad) n c 0 0 Tryz.underlying57
    go_enter Tryz.func34, Tryz.ntmps34
    go_wp2_with (at_builtin; refine wpList_appR rfl (.tmp 5) (.tmp 6) 57 rfl Tryz.underlying57 info_report rfl (by omega) (by omega) hown rfl (fun e => by cases e) hs rfl (by rw [flat_len rpE_len, hlen]) (rp_one l) (by omega) hz ?_; intro v4 w4 hown4 hg4)
    have hB4 := below_own hB hown hg4 hz (Nat.le_refl _)
    rw [List.nil_append, Nat.zero_add] at hown4
    obtain ⟨A9, c9, rfl⟩ := own_shape hown4
    go_wp2
    go_ret
    exact ⟨A9, c9, rfl, hown4, hB4⟩
/-- the closure of about: what is struck -/
structure AbK (w : World) (p1 p2 p3 p4 : Nat) (who : ByteArray) (f at_ M : Int) : Prop where
  b1 : w.heap[p1]? = some (.cells #[.string who] 9 (0, 0))
  b2 : w.heap[p2]? = some (.cells #[.int .i64 f] 3 (0, 0))
  b3 : w.heap[p3]? = some (.cells #[.int .i64 at_] 3 (0, 0))
  b4 : w.heap[p4]? = some (.cells #[.int .i64 M] 3 (0, 0))
theorem AbK.keep {w w' : World} {p1 p2 p3 p4 : Nat} {who : ByteArray} {f at_ M : Int} (h : AbK w p1 p2 p3 p4 who f at_ M) (hk : Keep 62 w w') : AbK w' p1 p2 p3 p4 who f at_ M :=
  ⟨hk _ _ _ _ (by decide) h.b1, hk _ _ _ _ (by decide) h.b2, hk _ _ _ _ (by decide) h.b3, hk _ _ _ _ (by decide) h.b4⟩
end Go.Proofs.YtjafcnblgeibpaaGreatDoor
