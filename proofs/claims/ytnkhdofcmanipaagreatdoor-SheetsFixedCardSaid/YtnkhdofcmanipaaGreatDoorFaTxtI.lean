/- Readers of lines of flat records: what their closures keep under way, what the readers hand back. -/
import Derived.Test.YtnkhdofcmanipaaGreatDoorFaTxtW
import Derived.Test.YtnkhdofcmanipaaGreatDoorFaRegAp
namespace Go.Proofs.YtnkhdofcmanipaaGreatDoor
open Go.RowKit Go.Lib
set_option linter.unusedVariables false

/-- records under way in box b -/
structure TkI {α : Type} (T Te : TypeId) (sz : Nat) (enc : α → List Value) (parse : List UInt8 → Option α) (w : World) (b : Nat) (L : List (List UInt8)) (W : World) : Prop where
  ex : ∃ (u : Value) (acc : List α), W.heap[b]? = some (.cells #[u] T (0, 0)) ∧ W.ownsRow (b + 1) Te sz u acc.length (acc.flatMap enc) ∧ acc.length ≤ L.length ∧ ((∀ a ∈ L, (parse a).isSome = true) → acc = L.filterMap parse)
  mx : Mx W
  bel : Below b w W
section
variable {α : Type} {T Te : TypeId} {sz : Nat} {enc : α → List Value} {parse : List UInt8 → Option α} {w W W' : World} {b : Nat} {L : List (List UInt8)} {a : List UInt8}
theorem TkI.below (h : TkI T Te sz enc parse w b L W) (B : Below W.heap.size W W') : TkI T Te sz enc parse w b L W' := by
  obtain ⟨u, acc, h1, h2, h4, h5⟩ := h.ex
  have hb := lt_of_heap h1
  exact ⟨⟨u, acc, blk_below h1 B, own_below h2 B, h4, h5⟩, h.mx.below B, h.bel.trans (B.mono (by omega))⟩
theorem TkI.bad (h : TkI T Te sz enc parse w b L W) (B : Below W.heap.size W W') (ha : (parse a).isSome = false) : TkI T Te sz enc parse w b (L ++ [a]) W' := by
  obtain ⟨u, acc, h1, h2, h4, h5⟩ := (h.below B).ex
  exact ⟨⟨u, acc, h1, h2, by rw [List.length_append]; omega, fun h9 => by have := h9 a (by simp); rw [ha] at this; cases this⟩, (h.below B).mx, (h.below B).bel⟩
theorem TkI.good {u : Value} {acc : List α} {x : α} (h1 : W.heap[b]? = some (.cells #[u] T (0, 0))) (h2 : W.ownsRow (b + 1) Te sz u (acc.length + 1) (acc.flatMap enc ++ enc x)) (h4 : acc.length ≤ L.length) (h5 : (∀ a ∈ L, (parse a).isSome = true) → acc = L.filterMap parse) (h6 : (parse a).isSome = true → parse a = some x) (hm : Mx W) (hB : Below b w W) : TkI T Te sz enc parse w b (L ++ [a]) W := by
  refine ⟨⟨u, acc ++ [x], h1, ?_, by simp; exact h4, fun h9 => ?_⟩, hm, hB⟩
  · rw [List.length_append, List.flatMap_append]; simpa using h2
  · rw [List.filterMap_append, ← h5 fun z hz => h9 z (List.mem_append_left _ hz)]
    simp [h6 (h9 a (by simp))]
theorem TkI.start (hM : Mx w) : TkI T Te sz enc parse w w.heap.size [] (w.alloc (.cells #[.slice none 0 0] T)) :=
  ⟨⟨.slice none 0 0, [], heap_alloc_new w _, World.ownsRow_nil _ _ _ _, Nat.le_refl _, fun _ => rfl⟩, hM.below (below_new w _), below_new w _⟩
theorem TkI.out (h : TkI T Te sz enc parse w b L W) (he : ∀ x, (enc x).length = sz) (hL : L.length ≤ 1000000) : ∃ A n c acc, W.heap[b]? = some (.cells #[.slice A n c] T (0, 0)) ∧ RN sz enc Te W A n acc ∧ ((∀ a ∈ L, (parse a).isSome = true) → acc = L.filterMap parse) := by
  obtain ⟨u, acc, h1, h2, h4, h5⟩ := h.ex
  obtain ⟨A, c, rfl⟩ := own_shape h2
  exact ⟨A, acc.length, c, acc, h1, RN.of_own he h2 rfl (by omega), h5⟩
end
/-- what a reader of flat records hands back: rows say where records stand, Er is their error -/
def RetRf {α : Type} (rows : World → Option Addr → Nat → List α → Prop) (Er : List α → Int) (parse : List UInt8 → Option α) (t : List UInt8) (w : World) (e : Ending) (w' : World) : Prop := Below w.heap.size w w' ∧
  (((lnR (fun a => (parse a).isSome) t).2.2 = false ∧ e = .returned (.tuple #[.slice none 0 0, .int .i64 (lnR (fun a => (parse a).isSome) t).2.1, .int .i64 9])) ∨
   ((lnR (fun a => (parse a).isSome) t).2.2 = true ∧
     ((Er ((lnR (fun a => (parse a).isSome) t).1.filterMap parse) ≠ 0 ∧ e = .returned (.tuple #[.slice none 0 0, .int .i64 0, .int .i64 (Er ((lnR (fun a => (parse a).isSome) t).1.filterMap parse))])) ∨
      (Er ((lnR (fun a => (parse a).isSome) t).1.filterMap parse) = 0 ∧ ∃ A n c, e = .returned (.tuple #[.slice A n c, .int .i64 0, .int .i64 0]) ∧ rows w' A n ((lnR (fun a => (parse a).isSome) t).1.filterMap parse)))))
theorem rf_one {α : Type} {rows : World → Option Addr → Nat → List α → Prop} {Er : List α → Int} {parse : List UInt8 → Option α} {t : List UInt8} {w w' : World} {e : Ending} (hn : ∀ v, rows v none 0 []) (h : RetRf rows Er parse t w e w') : ∃ (A : Option Addr) (n c : Nat) (i E : Int) (l : List α), e = .returned (.tuple #[.slice A n c, .int .i64 i, .int .i64 E]) ∧ rows w' A n l ∧ Below w.heap.size w w' ∧ (A, n, i, E, l) = (A, n, i, E, l) := by
  obtain ⟨B, ⟨_, he⟩ | ⟨_, ⟨_, he⟩ | ⟨_, A, n, c, he, hr⟩⟩⟩ := h
  · exact ⟨_, _, _, _, _, _, he, hn _, B, rfl⟩
  · exact ⟨_, _, _, _, _, _, he, hn _, B, rfl⟩
  · exact ⟨_, _, _, _, _, _, he, hr, B, rfl⟩
/-- two readers of one text say the same -/
theorem rf_two {α : Type} {rows : World → Option Addr → Nat → List α → Prop} {Er : List α → Int} {parse : List UInt8 → Option α} {t : List UInt8} {w1 w2 v1 v2 : World} {A : Option Addr} {n c : Nat} {i E : Int} {e2 : Ending} (hn : ∀ v, rows v none 0 []) (h1 : RetRf rows Er parse t w1 (.returned (.tuple #[.slice A n c, .int .i64 i, .int .i64 E])) v1) (h2 : RetRf rows Er parse t w2 e2 v2) : ∃ (A' : Option Addr) (n' c' : Nat) (l : List α), e2 = .returned (.tuple #[.slice A' n' c', .int .i64 i, .int .i64 E]) ∧ rows v1 A n l ∧ rows v2 A' n' l ∧ Below w2.heap.size w2 v2 := by
  obtain ⟨B1, ⟨k1, he1⟩ | ⟨k1, ⟨n1, he1⟩ | ⟨n1, A1, m1, c1, he1, hr1⟩⟩⟩ := h1
  · obtain ⟨B2, ⟨k2, he2⟩ | ⟨k2, _⟩⟩ := h2
    · simp at he1
      obtain ⟨⟨rfl, rfl, rfl⟩, rfl, rfl⟩ := he1
      exact ⟨_, _, _, _, he2, hn _, hn _, B2⟩
    · rw [k1] at k2; cases k2
  · obtain ⟨B2, ⟨k2, he2⟩ | ⟨k2, ⟨n2, he2⟩ | ⟨n2, A2, m2, c2, he2, hr2⟩⟩⟩ := h2
    · rw [k1] at k2; cases k2
    · simp at he1
      obtain ⟨⟨rfl, rfl, rfl⟩, rfl, rfl⟩ := he1
      exact ⟨_, _, _, _, he2, hn _, hn _, B2⟩
    · exact absurd n2 n1
  · obtain ⟨B2, ⟨k2, he2⟩ | ⟨k2, ⟨n2, he2⟩ | ⟨n2, A2, m2, c2, he2, hr2⟩⟩⟩ := h2
    · rw [k1] at k2; cases k2
    · exact absurd n1 n2
    · simp at he1
      obtain ⟨⟨rfl, rfl, rfl⟩, rfl, rfl⟩ := he1
      exact ⟨_, _, _, _, he2, hr1, hr2, B2⟩
theorem info_strT : (Tryz.prog.info? 9).map (fun i => (i.zero, i.size, i.bytes)) = some (some (.string ⟨#[]⟩), 1, 16) := by kernel_rfl
theorem RS_takeT {w : World} {b o n k : Nat} {l : List ByteArray} (h : RS 9 w (some ⟨b, o, none⟩) n l) (hk : k ≤ n) : RS 9 w (some ⟨b, o, none⟩) k (l.take k) := by
  refine ⟨by rw [List.length_take, h.1]; omega, by have := h.2.1; omega, fun hp => ?_⟩
  obtain ⟨b', off, cs, fz, hA, hb, hc⟩ := h.2.2 (by omega)
  exact ⟨b', off, cs, fz, hA, hb, fun j x hx => hc j x (by rw [List.getElem?_take] at hx; split at hx; exact hx; cases hx)⟩
/-- a row that is not empty: its block -/
theorem R1.blk {α : Type} {enc : α → Value} {e : TypeId} {w : World} {b o n : Nat} {l : List α} (h : R1 enc e w (some ⟨b, o, none⟩) n l) (hp : 0 < n) : ∃ cs fz, w.heap[b]? = some (.cells cs e fz) ∧ ∀ (j : Nat) (x : α), l[j]? = some x → cs[o + j]? = some (enc x) := by
  obtain ⟨b', off, cs, fz, hA, hb, hc⟩ := h.2.2 hp
  injection hA with hA
  injection hA with q1 q2
  subst q1 q2
  exact ⟨cs, fz, hb, hc⟩
theorem contS_c (A : Option Addr) (n c : Nat) (l : List ByteArray) (x : ByteArray) (w : World) (h : RS 9 w A n l) :
    Calls Tryz.prog 92 #[.slice A n c, .string x] w fun e w' => e = .returned (.bool (Lib.containsS l x)) ∧ w = w' := by
  have hl := h.len
  have hb := h.bd
  rcases Nat.eq_zero_or_pos n with h0 | hp
  · subst h0
    obtain rfl : l = [] := List.eq_nil_of_length_eq_zero hl
    exact (Tryz.slices_Contains_string_empty A c x w).mono fun _ _ ⟨h1, h2⟩ => ⟨by rw [h1]; rfl, h2.symm⟩
  · obtain ⟨b, off, cs, fz, rfl, hbk, hc⟩ := h.2.2 hp
    refine (Tryz.slices_Contains_string b off n c l x w (by omega) (by omega) fun j hj => ?_).mono fun _ _ ⟨he, hw⟩ => ⟨?_, hw.symm⟩
    · have hx : l[j]? = some (l.getD j ⟨#[]⟩) := by rw [List.getD_eq_getElem?_getD, List.getElem?_eq_getElem hj]; rfl
      rw [cell_of_row w b _ cs _ fz hbk]
      exact hc j _ hx
    · rw [he, List.take_of_length_le (by omega)]
theorem own_setT {w : World} {b B e s n o : Nat} {u : Value} {xs : List Value} (h : w.ownsRow B e s u n xs) (hb : b < B) (v : Value) : (w.setCell ⟨b, o, none⟩ v).ownsRow B e s u n xs :=
  h.kept (row := some b) (grown_setCell (grown_refl _ _) (p := ⟨b, o, none⟩) (.inl rfl) v) (.inr fun e => by have := own_row_lt h b e; omega)
/-- whether a word of a line is empty -/
theorem emp_dec {Lw : List ByteArray} {ps : List (List UInt8)} (h : Lw.map bL = ps) : Lib.containsS Lw ⟨#[]⟩ = decide (([] : List UInt8) ∈ ps) := by
  rw [Bool.eq_iff_iff, Lib.containsS_iff, decide_eq_true_eq, ← h, List.mem_map]
  constructor
  · intro h; exact ⟨_, h, rfl⟩
  · rintro ⟨x, hx, e⟩
    have : x = ⟨#[]⟩ := by cases x; unfold bL at e; simp at e; simp [e]
    rw [← this]; exact hx
end Go.Proofs.YtnkhdofcmanipaaGreatDoor
