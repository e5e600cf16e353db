/- Texts that are written: a builder's WriteString; a builder below. -/
import Derived.Test.YtnkhdofcmanipaaGreatDoorFaTxtW
import Derived.Shelf.Strings.BuilderK
import Derived.Shelf.Strings.BuilderF
namespace Go.Proofs.YtnkhdofcmanipaaGreatDoor
open Go.RowKit Go.Lib
set_option linter.unusedVariables false

/-- the builder in block b holds these bytes -/
abbrev Bd (B b : Nat) (l : List UInt8) (w : World) : Prop := Lib.IsBuilderF 130 5 B b (Lib.byteCells l) w
theorem wsB_c (B b : Nat) (l : List UInt8) (s : ByteArray) (w : World) (h : Bd B b l w) (hl : l.length + s.size ≤ 1000000) (hB : B ≤ w.heap.size) :
    Calls Tryz.prog 78 #[.pointer (some ⟨b, 0, none⟩), .string s] w fun e w' => e = .returned (.tuple #[.int .i64 s.size, .nilIface]) ∧ Bd B b (l ++ s.data.toList) w' ∧ Below B w w' ∧ Lib.OthersKept 5 (some b) w w' := by
  refine (Any.Builder_WriteString_k { Tryz.lays156 with } Tryz.Builder_Extra_156 B b _ s w h (by rw [Lib.byteCells_length]; omega) hB).mono ?_
  rintro e w' ⟨rfl, h3, hb, hk⟩
  rw [Lib.strCells_eq, ← Lib.byteCells_append] at h3
  exact ⟨rfl, .inr h3, hb, hk⟩
theorem Bd.grown0 {B b : Nat} {l : List UInt8} {w w' : World} {row : Option Nat} (h : Bd B b l w) (hg : w.grownBy w' row) (h1 : some b ≠ row) (h2 : ∀ v, w.ownsRowF B 5 1 v (Lib.byteCells l).length (Lib.byteCells l) → v.ownBlock = none ∨ v.ownBlock ≠ row) : Bd B b l w' := by
  rcases h with ⟨h0, v, h3, h4, h5⟩ | ⟨h0, v, h3, h4, h5⟩
  · exact .inl ⟨h0, v, blk_grown h3 hg h1, h4.kept hg (h2 v h4), h5⟩
  · exact .inr ⟨h0, v, blk_grown h3 hg h1, h4.kept hg (h2 v h4), h5⟩
theorem Bd.below {B b : Nat} {l : List UInt8} {w w' : World} (h : Bd B b l w) (hB : Below w.heap.size w w') : Bd B b l w' :=
  h.grown0 (row := none) (grown_of_below hB) (by simp) fun v _ => by cases hv : v.ownBlock <;> simp
theorem Bd.blk {B b : Nat} {l : List UInt8} {w : World} (h : Bd B b l w) : ∃ cs, w.heap[b]? = some (.cells cs 130 (0, 0)) := by
  rcases h with ⟨_, v, h3, _⟩ | ⟨_, v, h3, _⟩ <;> exact ⟨_, h3⟩
theorem Bd.start {w : World} : Bd w.heap.size w.heap.size [] (w.alloc (.cells #[.pointer none, .slice none 0 0] 130)) := Lib.IsBuilderF.of (Lib.fresh_isBuilder 130 5 w)
/-- String of a builder -/
theorem strB_c (B b : Nat) (l : List UInt8) (w : World) (h : Bd B b l w) (hB : B ≤ w.heap.size) :
    Calls Tryz.prog 81 #[.pointer (some ⟨b, 0, none⟩)] w fun e w' => e = .returned (.string ⟨l.toArray⟩) ∧ Below B w w' := by
  refine (Any.Builder_String_any_f { Tryz.lays169 with } Tryz.Builder_Extra_169 B b l w h hB).mono ?_
  rintro e w' ⟨rfl, h2⟩
  exact ⟨rfl, h2.2⟩
/-- strings.Join of a row of one's own -/
theorem joinR_c (A : Option Addr) (n c : Nat) (L : List ByteArray) (k : UInt8) (w : World) (h : RS 9 w A n L) (hc : n ≤ c) (hs : (Lib.join (L.map bL) [k]).length ≤ 1000000) :
    Calls Tryz.prog 79 #[.slice A n c, .string ⟨#[k]⟩] w fun e w' => e = .returned (.string ⟨(Lib.join (L.map bL) [k]).toArray⟩) ∧ Below w.heap.size w w' := by
  have hl := h.len
  have hb := h.bd
  rcases Nat.eq_zero_or_pos n with h0 | hp
  · subst h0
    obtain rfl : L = [] := List.eq_nil_of_length_eq_zero hl
    refine (Tryz.strings_Join_none A c ⟨#[k]⟩ w).mono ?_
    rintro e w' ⟨rfl, rfl⟩
    exact ⟨rfl, Below.refl _ _⟩
  · obtain ⟨b, o, cs, fz, rfl, hbk, hcs⟩ := h.2.2 hp
    subst hl
    exact Tryz.strings_Join b o c L ⟨#[k]⟩ w (fun j x hx => by rw [cell_of_row w b _ cs _ fz hbk]; exact hcs j x hx) (lt_of_heap hbk) (by omega) hc (by show (Lib.join (L.map bL) [k]).length ≤ _; omega)
end Go.Proofs.YtnkhdofcmanipaaGreatDoor
