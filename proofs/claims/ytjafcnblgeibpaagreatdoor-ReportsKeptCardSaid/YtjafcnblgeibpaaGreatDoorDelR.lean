/- slices.DeleteFunc of reports in a row of the call's own, by the closure of tumbref1.about. Printed by wip/gendelr.py. -/
import Derived.Test.YtjafcnblgeibpaaGreatDoorRptA
import Derived.Test.YtjafcnblgeibpaaGreatDoorMkReg
import Derived.Test.YtjafcnblgeibpaaGreatDoorSortB
import Derived.Laws.IdiomCopy
import Derived.Deep.QuietTactic
import Derived.BigQuiet
import Derived.BigGuardPart
namespace Go.Proofs.YtjafcnblgeibpaaGreatDoor
open Go.RowKit Go.Shelf Go.Lib Go.Sort
set_option linter.unusedVariables false

theorem own_takeR {w : World} {base : Nat} {e : TypeId} {size g n c k : Nat} {xs : List Value} (h : w.ownsRow base e size (.slice (some ⟨g, 0, none⟩) n c) n xs) (hk : k ≤ n) : w.ownsRow base e size (.slice (some ⟨g, 0, none⟩) k c) k (xs.take (k * size)) := by
  have hl := h.1
  have hm : k * size ≤ n * size := Nat.mul_le_mul_right _ hk
  refine ⟨by rw [List.length_take]; omega, ?_⟩
  rcases h.2 with ⟨hv, _⟩ | ⟨g', cap, cur, hv, hb, hg, h1, h2, h3, h4⟩
  · cases hv
  · injection hv with q1 q2 q3
    injection q1 with q1
    injection q1 with q1
    subst q1 q3
    refine .inr ⟨g, c, cur, rfl, hb, hg, by omega, h2, h3, ?_⟩
    rw [← h4, List.take_take]
    congr 1
    omega
theorem own_setCellsR {base : Nat} {e : TypeId} {size g n c : Nat} {xs : List Value} : ∀ (vs : List Value) (o : Nat) (w : World), w.ownsRow base e size (.slice (some ⟨g, 0, none⟩) n c) n xs → n * size ≤ o → (w.setCells g o vs).ownsRow base e size (.slice (some ⟨g, 0, none⟩) n c) n xs ∧ w.grownBy (w.setCells g o vs) (some g)
  | [], _, w, h, _ => ⟨h, grown_refl _ _⟩
  | v :: r, o, w, h, ho => by
    obtain ⟨h1, h2⟩ := h.stored o v
    rw [List.set_eq_of_length_le (by rw [h.1]; exact ho)] at h1
    obtain ⟨h3, h4⟩ := own_setCellsR r (o + 1) _ h1 (by omega)
    exact ⟨h3, grown_trans h2 h4⟩
theorem flat_takeR : ∀ (R : List Rp) (i : Nat), (R.flatMap rpE).take (i * 7) = (R.take i).flatMap rpE
  | _, 0 => by simp
  | [], i + 1 => by simp
  | x :: r, i + 1 => by
    rw [List.take_succ_cons, List.flatMap_cons, List.flatMap_cons, ← flat_takeR r i, show (i + 1) * 7 = i * 7 + 7 by omega]
    rfl
theorem zc_oneR (n : Nat) : ∀ v ∈ (Builtin.zeroCells (Value.agg #[.string ⟨#[]⟩, .string ⟨#[]⟩, .string ⟨#[]⟩, .int .i64 0, .int .i64 0, .int .i64 0, .bool false]).cells n).toList, v.oneCell' = true := by
  intro v hv
  unfold Builtin.zeroCells at hv
  rw [Array.toList_map] at hv
  obtain ⟨a, _, rfl⟩ := List.mem_map.1 hv
  show (#[Value.string ⟨#[]⟩, Value.string ⟨#[]⟩, Value.string ⟨#[]⟩, Value.int .i64 0, Value.int .i64 0, Value.int .i64 0, Value.bool false][a % 7]!).oneCell' = true
  have h : a % 7 < 7 := Nat.mod_lt _ (by decide)
  have h2 : a % 7 = 0 ∨ a % 7 = 1 ∨ a % 7 = 2 ∨ a % 7 = 3 ∨ a % 7 = 4 ∨ a % 7 = 5 ∨ a % 7 = 6 := by omega
  rcases h2 with h | h | h | h | h | h | h <;> rw [h] <;> rfl
theorem own_blkR {w : World} {base : Nat} {e : TypeId} {size g n c : Nat} {xs : List Value} (h : w.ownsRow base e size (.slice (some ⟨g, 0, none⟩) n c) n xs) : ∃ cur, w.heap[g]? = some (.cells cur e (0, 0)) ∧ cur.size = c * size ∧ n ≤ c := by
  rcases h.2 with ⟨hv, _⟩ | ⟨g', cap, cur, hv, hb, hg, h1, h2, h3, h4⟩
  · cases hv
  · injection hv with q1 q2 q3
    injection q1 with q1
    injection q1 with q1
    subst q1 q3
    exact ⟨cur, hg, h3, h1⟩
theorem run_clearR {P : Program} (w : World) (t e ty : TypeId) (z : Value) (ht : P.underlying t = some (.slice e)) (hv : ∀ w, (zeroValue e).run P w = .ok z w) (b o n c : Nat) (hn : 0 < n) (h1 : ∀ v ∈ (Builtin.zeroCells z.cells n).toList, v.oneCell' = true)
    (hc : ∀ j, j < (Builtin.zeroCells z.cells n).toList.length → (w.cell? ⟨b, o + j, none⟩).isSome = true) (hf : ∀ j, j < (Builtin.zeroCells z.cells n).toList.length → w.frozen? ⟨b, o + j, none⟩ = false) :
    (Builtin.clear_ #[t] ty #[.slice (some ⟨b, o, none⟩) n c]).run P w = .ok (.tuple #[]) (w.setCells b o (Builtin.zeroCells z.cells n).toList) := by
  have hst := run_storeCells_cells (P := P) b o (Builtin.zeroCells z.cells n).toList 0 w (by simpa using hc) (by simpa using hf) h1
  simp only [Nat.add_zero] at hst
  obtain ⟨m, rfl⟩ : ∃ m, n = m + 1 := ⟨n - 1, by omega⟩
  simp [Builtin.clear_, run_underlying ht, hv, hst]
/-- an element of an own row is stored whole -/
theorem flat_set7 (R : List Rp) (i : Nat) (x r : Rp) (h : R[i]? = some r) : ((((((((R.flatMap rpE).set (i * 7) (.string x.id)).set (i * 7 + 1) (.string x.jd)).set (i * 7 + 2) (.string x.who)).set (i * 7 + 3) (.int .i64 x.fault)).set (i * 7 + 4) (.int .i64 x.tm)).set (i * 7 + 5) (.int .i64 x.wt)).set (i * 7 + 6) (.bool x.nt)) = (R.set i x).flatMap rpE := by
  have e0 := flat_set rpE_len R i r ⟨x.id, r.jd, r.who, r.fault, r.tm, r.wt, r.nt⟩ 0 (.string x.id) h (by decide) rfl
  have hi := lt_of_at h
  have g0 : (R.set i ⟨x.id, r.jd, r.who, r.fault, r.tm, r.wt, r.nt⟩)[i]? = some ⟨x.id, r.jd, r.who, r.fault, r.tm, r.wt, r.nt⟩ := List.getElem?_set_self hi
  have e1 := flat_set rpE_len _ i _ ⟨x.id, x.jd, r.who, r.fault, r.tm, r.wt, r.nt⟩ 1 (.string x.jd) g0 (by decide) rfl
  rw [List.set_set] at e1
  have g1 : (R.set i ⟨x.id, x.jd, r.who, r.fault, r.tm, r.wt, r.nt⟩)[i]? = some ⟨x.id, x.jd, r.who, r.fault, r.tm, r.wt, r.nt⟩ := List.getElem?_set_self hi
  have e2 := flat_set rpE_len _ i _ ⟨x.id, x.jd, x.who, r.fault, r.tm, r.wt, r.nt⟩ 2 (.string x.who) g1 (by decide) rfl
  rw [List.set_set] at e2
  have g2 : (R.set i ⟨x.id, x.jd, x.who, r.fault, r.tm, r.wt, r.nt⟩)[i]? = some ⟨x.id, x.jd, x.who, r.fault, r.tm, r.wt, r.nt⟩ := List.getElem?_set_self hi
  have e3 := flat_set rpE_len _ i _ ⟨x.id, x.jd, x.who, x.fault, r.tm, r.wt, r.nt⟩ 3 (.int .i64 x.fault) g2 (by decide) rfl
  rw [List.set_set] at e3
  have g3 : (R.set i ⟨x.id, x.jd, x.who, x.fault, r.tm, r.wt, r.nt⟩)[i]? = some ⟨x.id, x.jd, x.who, x.fault, r.tm, r.wt, r.nt⟩ := List.getElem?_set_self hi
  have e4 := flat_set rpE_len _ i _ ⟨x.id, x.jd, x.who, x.fault, x.tm, r.wt, r.nt⟩ 4 (.int .i64 x.tm) g3 (by decide) rfl
  rw [List.set_set] at e4
  have g4 : (R.set i ⟨x.id, x.jd, x.who, x.fault, x.tm, r.wt, r.nt⟩)[i]? = some ⟨x.id, x.jd, x.who, x.fault, x.tm, r.wt, r.nt⟩ := List.getElem?_set_self hi
  have e5 := flat_set rpE_len _ i _ ⟨x.id, x.jd, x.who, x.fault, x.tm, x.wt, r.nt⟩ 5 (.int .i64 x.wt) g4 (by decide) rfl
  rw [List.set_set] at e5
  have g5 : (R.set i ⟨x.id, x.jd, x.who, x.fault, x.tm, x.wt, r.nt⟩)[i]? = some ⟨x.id, x.jd, x.who, x.fault, x.tm, x.wt, r.nt⟩ := List.getElem?_set_self hi
  have e6 := flat_set rpE_len _ i _ x 6 (.bool x.nt) g5 (by decide) rfl
  rw [List.set_set] at e6
  rw [Nat.add_zero] at e0
  rw [e0, e1, e2, e3, e4, e5, e6]
theorem keep_own7 {w w' : World} {B n size : Nat} {e : TypeId} {u : Value} {xs : List Value} (h : w.ownsRow B e size u n xs) (hg : w.grownBy w' u.ownBlock) : Keep e w w' := by
  intro b cs e' fz hne hb
  refine (hg.block b (lt_of_heap hb) (fun e0 => ?_)).trans hb
  rcases h.2 with ⟨rfl, _⟩ | ⟨g, cap, cur, rfl, _, hg', _⟩
  · simp [Value.ownBlock] at e0
  · simp only [Value.ownBlock, Option.some.injEq] at e0
    subst e0
    rw [hg'] at hb
    injection hb with hb
    injection hb with _ h3
    exact hne h3.symm
def IdxR (p : Rp → Bool) (l : List Rp) (n : Nat) (i : Int) : Prop := (i = -1 ∧ ∀ x ∈ l, p x = false) ∨ ∃ k : Nat, i = (k : Int) ∧ k < n ∧ (∃ x, l[k]? = some x ∧ p x = true) ∧ ∀ x ∈ l.take k, p x = false
theorem strikeR (p : Rp → Bool) (R l : List Rp) (i j : Nat) (x : Rp) (hR : R.take i = (l.take j).filter fun y => !p y) (hD : R.drop j = l.drop j) (hij : i ≤ j) (hx : l[j]? = some x) (hl : R.length = l.length) :
    (p x = true → R.take i = (l.take (j + 1)).filter fun y => !p y) ∧ (p x = false → (R.set i x).take (i + 1) = (l.take (j + 1)).filter fun y => !p y) ∧ R.drop (j + 1) = l.drop (j + 1) ∧ (R.set i x).drop (j + 1) = l.drop (j + 1) := by
  have hj := lt_of_at hx
  have ht : (l.take (j + 1)).filter (fun y => !p y) = (l.take j).filter (fun y => !p y) ++ if p x = false then [x] else [] := by
    rw [List.take_add_one, hx, List.filter_append]
    congr 1
    by_cases h : p x = true <;> simp [h]
  have hd : R.drop (j + 1) = l.drop (j + 1) := by
    have h1 : (R.drop j).drop 1 = (l.drop j).drop 1 := by rw [hD]
    rw [List.drop_drop, List.drop_drop] at h1
    exact h1
  refine ⟨fun h => by rw [ht, if_neg (by simp [h]), List.append_nil, hR], fun h => ?_, hd, ?_⟩
  · rw [ht, if_pos h, List.take_add_one, List.getElem?_set_self (by omega), List.take_set_of_le (Nat.le_refl _), hR]
    rfl
  · rw [List.drop_set_of_lt (by omega)]
    exact hd
end Go.Proofs.YtjafcnblgeibpaaGreatDoor
