import Derived.Test.YtnkhdofcmanipaaGreatDoorTaApp2
import Derived.Test.YtnkhdofcmanipaaGreatDoorTaP23
import Derived.Laws.AppendOwnNone
import Derived.Lib.AppendZeros
import Derived.Test.YtnkhdofcmanipaaGreatDoorTaSortR
import Derived.Test.YtnkhdofcmanipaaGreatDoorTaSeedM
import Derived.Lib.SliceRun
/- slices.Concat of two rows of seeds; judge.Together of two heats. -/
namespace Go.Proofs.YtnkhdofcmanipaaGreatDoor
open Go.RowKit
set_option linter.unusedVariables false

section
variable {P : Program} {w : World}
/-- `append(nil, make([]T, n)...)` -/
theorem wpList_zerosS {ops : Array Oper} {rest : List Oper} {o : Oper} {a : Act} {Q : Exit → Act → World → Prop} (hgd : o.guard = none) (s x : Operand) (t tn : TypeId)
    (ho : o.op = .call { callee := .builtin .append, args := #[s, x], argTypes := #[t, tn] })
    {e : TypeId} {z : Value} {size bytes : Nat} (ht : P.underlying t = some (.slice e)) (htn : P.underlying tn = some (.int .i64)) (hinfo : (P.info? e).map (fun i => (i.zero, i.size, i.bytes)) = some (some z, size, bytes))
    (n : Nat) (h0 : 0 < n) (hsz : 0 < size) (hn : n ≤ 1000000) (hby : bytes ≤ 1024) (hs : a.eval s = .slice none 0 0) (hx : a.eval x = .int .i64 n)
    (h : ∀ cap, n ≤ cap → cap ≤ maxLen → wpList P ops Q rest (a.put o.dst (.slice (some ⟨w.heap.size, 0, none⟩) n cap)) (w.drew.alloc (.cells (Builtin.zeroCells z.cells n ++ Builtin.zeroCells z.cells (cap - n)) e))) :
    wpList P ops Q (o :: rest) a w := by
  obtain ⟨i, hi, hz0, hz1, hz2⟩ := info_parts hinfo
  have hm : n * bytes ≤ 1000000 * 1024 := Nat.mul_le_mul hn hby
  refine wpList_plain hgd fun K hK => ?_
  have hr := Lib.run_append_nil_zeros (P := P) w t tn o.type e i z .i64 .i64 ht htn hi hz0 n h0 (by rw [hz1]; exact hsz) (by omega) (by rw [hz2]; omega)
  unfold Oper.wp execOp
  simp only [ho, resolve, invoke, builtin, Sem.run_bind, Sem.run_pure, Result.andThen_ok, List.map_toArray, List.map_cons, List.map_nil, hs, hx, hr]
  exact hK _ _ (h _ (grownCap_ge _ _ _ _) (grownCap_le_maxLen _ _ _ _ (by unfold maxLen; omega)))
end
theorem seed_src {w : World} {A : Option Addr} {n : Nat} {l : List Sd} (h : RSd w A n l) (hp : 0 < n) : ∃ b off, A = some ⟨b, off, none⟩ ∧ ∀ j u, (l.flatMap sdE)[j]? = some u → w.cell? ⟨b, off + j, none⟩ = some u := by
  obtain ⟨b, off, cs, fz, hA, hb, hc⟩ := h.2.2 hp
  refine ⟨b, off, hA, fun j u hu => ?_⟩
  have hj : j < l.length * 2 := by
    have := (List.getElem?_eq_some_iff.1 hu).1
    rw [flat_len sdE_len] at this; exact this
  obtain ⟨x, hx⟩ := at_of_lt (l := l) (k := j / 2) (by omega)
  have hlen : (sdE x).length = 2 := rfl
  have hv : ∃ v, (sdE x)[j % 2]? = some v := ⟨_, List.getElem?_eq_getElem (by rw [hlen]; omega)⟩
  obtain ⟨v, hv⟩ := hv
  have h1 := flat_at sdE_len l (j / 2) x (j % 2) v hx hv
  rw [show j / 2 * 2 + j % 2 = j by omega, hu] at h1
  obtain rfl := Option.some.inj h1
  have h2 := hc (j / 2) x hx (j % 2) u hv
  rw [show off + j / 2 * 2 + j % 2 = off + j by omega] at h2
  rw [cell_of_row w b _ cs _ fz hb]
  exact h2
theorem seeds_one (l : List Sd) : ∀ u ∈ l.flatMap sdE, u.oneCell' = true := by
  intro u hu
  obtain ⟨x, _, hx⟩ := List.mem_flatMap.1 hu
  simp only [sdE, List.mem_cons, List.not_mem_nil, or_false] at hx
  rcases hx with rfl | rfl <;> rfl
theorem growNilS_c (n : Nat) (w : World) (h0 : 0 < n) (hn : n ≤ 1000000) :
    Calls Tryz.prog 104 #[.slice none 0 0, .int .i64 n] w fun e w' => ∃ A c, e = .returned (.slice A 0 c) ∧ w'.ownsRow w.heap.size 40 2 (.slice A 0 c) 0 [] ∧ Below w.heap.size w w' := by
  have h1 : ¬ ((n : Int) < 0) := by omega
  have h2 : (0 : Int) < (n : Int) := by omega
  have h3 : IntKind.i64.wrap ((n : Int)) = (n : Int) := IntWalk.i64_in _ (by omega)
  go_enter Tryz.func104, Tryz.ntmps104
  go_wp2_with (at_builtin; refine wpList_zerosS rfl (.tmp 20) (.tmp 21) 26 3 rfl Tryz.underlying26 Tryz.underlying3 info_seed n h0 (by omega) hn (by omega) (by rfl) (by rfl) ?_; intro cap hc1 hc2)
  go_ret
  refine ⟨_, cap, rfl, ⟨rfl, .inr ⟨w.heap.size, cap, _, rfl, Nat.le_refl _, heap_alloc_new w.drew _, Nat.zero_le _, hc2, ?_, by simp⟩⟩, below_drewN (below_new w _) 1⟩
  rw [Array.size_append, size_zeroCells, size_zeroCells]
  show n * 2 + (cap - n) * 2 = cap * 2
  omega
theorem growNilS0_c (w : World) :
    Calls Tryz.prog 104 #[.slice none 0 0, .int .i64 0] w fun e w' => ∃ A c, e = .returned (.slice A 0 c) ∧ w'.ownsRow w.heap.size 40 2 (.slice A 0 c) 0 [] ∧ Below w.heap.size w w' := by
  go_enter Tryz.func104, Tryz.ntmps104
  go_wp2
  go_ret
  exact ⟨none, 0, rfl, World.ownsRow_nil _ _ _ _, Below.refl _ _⟩
theorem growNilSA_c (n : Nat) (w : World) (hn : n ≤ 1000000) :
    Calls Tryz.prog 104 #[.slice none 0 0, .int .i64 n] w fun e w' => ∃ A c, e = .returned (.slice A 0 c) ∧ w'.ownsRow w.heap.size 40 2 (.slice A 0 c) 0 [] ∧ Below w.heap.size w w' := by
  rcases Nat.eq_zero_or_pos n with h | h
  · subst h; exact growNilS0_c w
  · exact growNilS_c n w h hn
end Go.Proofs.YtnkhdofcmanipaaGreatDoor

/- Seeds from the fastest one on: slices.Clone of seeds, heat.ordered, heat.Order and tumbref1.OrderOf of at most 19 seeds. -/
namespace Go.Proofs.YtnkhdofcmanipaaGreatDoor
open Go.RowKit Go.Shelf Go.Lib Go.Sort
set_option linter.unusedVariables false

/-- a stable insertion, on the list from its end -/
def insR {α : Type} (lt : α → α → Bool) (x : α) : List α → List α
  | [] => [x]
  | y :: r => if lt x y then y :: insR lt x r else x :: y :: r
theorem insR_mem {α : Type} {lt : α → α → Bool} {x z : α} : ∀ {P : List α}, z ∈ insR lt x P ↔ z = x ∨ z ∈ P
  | [] => by simp [insR]
  | y :: r => by
    unfold insR
    split
    · rw [List.mem_cons, insR_mem (P := r), List.mem_cons]
      constructor
      · rintro (h | h | h)
        · exact .inr (.inl h)
        · exact .inl h
        · exact .inr (.inr h)
      · rintro (h | h | h)
        · exact .inr (.inl h)
        · exact .inl h
        · exact .inr (.inr h)
    · rw [List.mem_cons]
theorem swp_mid {α : Type} [Inhabited α] (Q R : List α) (x y : α) : Sort.swp (Q ++ y :: x :: R).toArray (Q.length + 1) Q.length = (Q ++ x :: y :: R).toArray := by
  have e1 : (Q ++ y :: x :: R).toArray[Q.length]! = y := by simp
  have e2 : (Q ++ y :: x :: R).toArray[Q.length + 1]! = x := by simp
  unfold Sort.swp
  rw [e1, e2, List.setIfInBounds_toArray, List.setIfInBounds_toArray, List.set_append_right _ _ (by omega), List.set_append_right _ _ (by omega)]
  rw [show Q.length + 1 - Q.length = 1 by omega, Nat.sub_self]
  rfl
theorem insInner_list {α : Type} [Inhabited α] (lt : α → α → Bool) (x : α) : ∀ (P R : List α), Sort.insInner lt 0 P.length (P.reverse ++ x :: R).toArray = ((insR lt x P).reverse ++ R).toArray
  | [], R => rfl
  | y :: r, R => by
    have e0 : (y :: r).reverse ++ x :: R = r.reverse ++ y :: x :: R := by rw [List.reverse_cons, List.append_assoc]; rfl
    have e1 : (r.reverse ++ y :: x :: R).toArray[r.length]! = y := by simp
    have e2 : (r.reverse ++ y :: x :: R).toArray[r.length + 1]! = x := by simp
    rw [List.length_cons, e0]
    unfold Sort.insInner insR
    rw [e1, e2]
    cases h : lt x y with
    | true =>
      rw [if_pos (by simp), if_pos rfl]
      have hs := swp_mid r.reverse R x y
      rw [List.length_reverse] at hs
      rw [hs, insInner_list lt x r (y :: R), List.reverse_cons, List.append_assoc]
      rfl
    | false =>
      rw [if_neg (by simp), if_neg (by simp), List.reverse_cons, List.reverse_cons, List.append_assoc, List.append_assoc]
      rfl
theorem insOuter_list {α : Type} [Inhabited α] (lt : α → α → Bool) : ∀ (R P : List α), Sort.insOuter lt 0 (P.length + R.length) P.length (P.reverse ++ R).toArray = (R.foldl (fun P x => insR lt x P) P).reverse.toArray
  | [], P => by unfold Sort.insOuter; rw [if_neg (by simp), List.append_nil]; rfl
  | x :: R, P => by
    unfold Sort.insOuter
    rw [if_pos (by simp), insInner_list]
    have hl : (insR lt x P).length = P.length + 1 := by
      clear R
      induction P with
      | nil => rfl
      | cons y r ih => unfold insR; split <;> simp [ih]
    have ih := insOuter_list lt R (insR lt x P)
    rw [hl, show P.length + 1 + R.length = P.length + (R.length + 1) by omega] at ih
    exact ih
theorem insL_fold {α : Type} [Inhabited α] (lt : α → α → Bool) (l : List α) : insL lt l = (l.foldl (fun P x => insR lt x P) []).reverse := by
  unfold insL Sort.insertionSort
  cases l with
  | nil => unfold Sort.insOuter; rw [if_neg (by simp)]; rfl
  | cons x r =>
    have h := insOuter_list lt r [x]
    rw [show ([x] : List α).length + r.length = (x :: r).length by simp; omega] at h
    show (Sort.insOuter lt 0 (x :: r).length 1 (x :: r).toArray).toList = _
    have h2 : Sort.insOuter lt 0 (x :: r).length 1 (x :: r).toArray = (r.foldl (fun P x => insR lt x P) [x]).reverse.toArray := h
    rw [h2]
    rfl
instance : Inhabited Sd := ⟨⟨⟨#[]⟩, 0⟩⟩
set_option maxRecDepth 100000 in
theorem cloneSd_c (A : Option Addr) (n c : Nat) (l : List Sd) (w : World) (h : RSd w A n l) (hn : n ≤ 1000) :
    Calls Tryz.prog 12 #[.slice A n c] w fun e w' => ∃ A' c', e = .returned (.slice A' n c') ∧ w'.ownsRow w.heap.size 40 2 (.slice A' n c') n (l.flatMap sdE) ∧ Below w.heap.size w w' := by
  rcases A with _ | ad
  · have hn0 : n = 0 := by
      rcases Nat.eq_zero_or_pos n with h0 | hp
      · exact h0
      · obtain ⟨b, off, cs, fz, e, _⟩ := h.2.2 hp; cases e
    subst hn0
    have hl : l = [] := List.eq_nil_of_length_eq_zero h.len
    subst hl
    have hnil : ∀ W, (binOp .eql 26 (.slice none 0 c) (.slice none 0 0)).run Tryz.prog W = .ok (.bool true) W := fun W => Go.Lib.run_eql_slice_nil W _ _ none 0 c 0 0 Tryz.underlying26
    go_enter Tryz.func12, Tryz.ntmps12
    go_wp2
    go_ret
    exact ⟨none, 0, rfl, World.ownsRow_nil _ _ _ _, Below.refl _ _⟩
  · have hlen := h.len
    have hB := below_new w (.cells #[] 40)
    have hz : w.heap.size ≤ (w.alloc (.cells #[] 40)).heap.size := by simp
    have hown : (w.alloc (.cells #[] 40)).ownsRow w.heap.size 40 2 (.slice (some ⟨w.heap.size, 0, none⟩) 0 0) 0 ([] : List Value) := ⟨rfl, .inr ⟨w.heap.size, 0, #[], rfl, Nat.le_refl _, heap_alloc_new w _, Nat.le_refl _, Nat.zero_le _, by simp, rfl⟩⟩
    have hs := seed_src (h.below hB)
    have hnil : ∀ W, (binOp .eql 26 (.slice (some ad) n c) (.slice none 0 0)).run Tryz.prog W = .ok (.bool false) W := fun W => Go.Lib.run_eql_slice_nil W _ _ (some ad) n c 0 0 Tryz.underlying26
    go_enter Tryz.func12, Tryz.ntmps12
    go_wp2_with (at_builtin; refine wpList_appR rfl (.tmp 5) (.tmp 6) 26 rfl Tryz.underlying26 info_seed rfl (by omega) (by omega) hown rfl (fun e => by cases e) hs rfl (by rw [flat_len sdE_len, hlen]) (seeds_one l) (by omega) hz ?_; intro v4 w4 hown4 hg4)
    have hB4 := below_own hB hown hg4 hz (Nat.le_refl _)
    rw [List.nil_append, Nat.zero_add] at hown4
    obtain ⟨A9, c9, rfl⟩ := own_shape hown4
    go_wp2
    go_ret
    exact ⟨A9, c9, rfl, hown4, hB4⟩
theorem strs_app (l : List ByteArray) (x : ByteArray) : (l ++ [x]).map Value.string = l.map Value.string ++ [.string x] := by rw [List.map_append]; rfl
theorem RS.of_own {w : World} {base : Nat} {e : TypeId} {A : Option Addr} {n c : Nat} {l : List ByteArray} (h : w.ownsRow base e 1 (.slice A n c) n (l.map Value.string)) (hn : n ≤ 140737488355328) : RS e w A n l := R1.of_own h hn
structure NL (w : World) (u : Value) (L : List ByteArray) (wx : World) : Prop where
  own : wx.ownsRow w.heap.size 9 1 u L.length (L.map Value.string)
  bel : Below w.heap.size w wx
theorem NL.below {w wx w' : World} {u : Value} {L : List ByteArray} (h : NL w u L wx) (B : Below wx.heap.size wx w') : NL w u L w' := ⟨own_below h.own B, below_next h.bel B⟩
theorem NL.app {w wx w' : World} {u v' : Value} {L : List ByteArray} {x : ByteArray} (h : NL w u L wx) (ho : w'.ownsRow w.heap.size 9 1 v' (L.length + 1) (L.map Value.string ++ [.string x])) (hg : wx.grownBy w' u.ownBlock) : NL w v' (L ++ [x]) w' :=
  ⟨by rw [strs_app, List.length_append]; exact ho, below_own h.bel h.own hg h.bel.size (Nat.le_refl _)⟩
end Go.Proofs.YtnkhdofcmanipaaGreatDoor
