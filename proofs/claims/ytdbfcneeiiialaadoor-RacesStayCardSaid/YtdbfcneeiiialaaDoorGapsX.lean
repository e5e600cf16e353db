import Derived.Test.YtdbfcneeiiialaaDoorSortR
import Derived.Test.YtdbfcneeiiialaaDoorFastQ
import Derived.Deep.RegionHeld3
import Derived.Test.YtdbfcneeiiialaaDoorSortSt
import Derived.Test.YtdbfcneeiiialaaDoorTrnM
import Derived.Test.YtdbfcneeiiialaaDoorP17
/- race.Gaps of a right field: a permutation of the gaps, ascending. -/
namespace Go.Proofs.YtdbfcneeiiialaaDoor
open Go.RowKit
set_option linter.unusedVariables false

def gapV (E : Nat) (x : Sw) : Int := x.sp.getD (E - 1) 0
def minG (E : Nat) : List Sw → Int → Int
  | [], f => f
  | x :: r, f => minG E r (min f (gapV E x))
def firstG (E : Nat) (l : List Sw) : Int := minG E l 360000
theorem minG_at {E : Nat} {l : List Sw} {k : Nat} {x : Sw} (f : Int) (h : l[k]? = some x) : minG E (l.drop k) f = minG E (l.drop (k + 1)) (min f (gapV E x)) := by rw [drop_at h]; rfl
def mkB (who : ByteArray) (e v : Int) : GpB := if h : -1000000 ≤ v ∧ v ≤ 1000000 then ⟨⟨who, e, v⟩, h⟩ else default
theorem mkB_val {who : ByteArray} {e v : Int} (h : -1000000 ≤ v ∧ v ≤ 1000000) : (mkB who e v).1 = ⟨who, e, v⟩ := by unfold mkB; rw [dif_pos h]
def gapLs (E : Nat) (F : Int) (l : List Sw) : List Gp := l.map fun x => ⟨x.who, (E : Int), gapV E x - F⟩
theorem gapLs_at {E : Nat} {F : Int} {l : List Sw} {k : Nat} {x : Sw} (h : l[k]? = some x) : gapLs E F (l.drop k) = ⟨x.who, (E : Int), gapV E x - F⟩ :: gapLs E F (l.drop (k + 1)) := by rw [drop_at h]; rfl
theorem gpB_flat (l : List GpB) : l.flatMap gpB = (l.map Subtype.val).flatMap gpE := by
  induction l with
  | nil => rfl
  | cons x r ih => rw [List.flatMap_cons, List.map_cons, List.flatMap_cons, ih]; rfl
end Go.Proofs.YtdbfcneeiiialaaDoor

/- Gaps and GapsOf exactly: the insertion sort of the gaps; with errors. Printed by wip/genG.py. -/
namespace Go.Proofs.YtdbfcneeiiialaaDoor
open Go.RowKit Go.Shelf Go.Lib Go.Sort
set_option linter.unusedVariables false

instance : Inhabited Gp := ⟨⟨⟨#[]⟩, 0, 0⟩⟩
def gapCf0 (x y : Gp) : Int := x.behind - y.behind
def cmpS (a b : ByteArray) : Int := Lib.compareBytes a.data.toList b.data.toList
def byGapCf0 (x y : Gp) : Int := orV [cmpV x.behind y.behind, cmpS x.who y.who]
def byGapCf (x y : GpB) : Int := byGapCf0 x.1 y.1
def gpSortL (l : List Gp) : List Gp := insL (ltOf gapCf0) l
def bySortL (l : List Gp) : List Gp := insL (ltOf byGapCf0) l
theorem gpSort_val (l : List GpB) : (insL (ltOf gapCf) l).map Subtype.val = gpSortL (l.map Subtype.val) := (insL_map (ltOf gapCf) (ltOf gapCf0) Subtype.val (fun _ _ => rfl) l).symm
theorem bySort_val (l : List GpB) : (insL (ltOf byGapCf) l).map Subtype.val = bySortL (l.map Subtype.val) := (insL_map (ltOf byGapCf) (ltOf byGapCf0) Subtype.val (fun _ _ => rfl) l).symm
theorem bytes_more : ∀ (a b : List UInt8), (Op.bytesLess a b || (a == b)) = false → 0 < Lib.compareBytes a b
  | [], [], h => by simp at h
  | [], b :: ys, h => by simp [Op.bytesLess] at h
  | a :: xs, [], _ => by simp [Lib.compareBytes]
  | a :: xs, b :: ys, h => by
    simp only [Op.bytesLess, Bool.or_eq_false_iff, Bool.and_eq_false_iff, decide_eq_false_iff_not] at h
    obtain ⟨⟨h1, h2⟩, h3⟩ := h
    unfold Lib.compareBytes
    rw [if_neg h1]
    split
    · decide
    · rename_i h4
      have he : a = b := UInt8.toNat_inj.1 (by have h1' := h1; have h4' := h4; rw [UInt8.lt_iff_toNat_lt] at h1' h4'; omega)
      subst he
      apply bytes_more xs ys
      simp at h2 h3
      rw [h2]
      simpa using h3
theorem bytes_trans : ∀ (a b c : List UInt8), 0 < Lib.compareBytes b a → 0 < Lib.compareBytes c b → 0 < Lib.compareBytes c a
  | [], b, c, h1, h2 => by
    rcases c with _ | ⟨z, c⟩
    · rcases b with _ | ⟨y, b⟩
      · exact absurd h1 (by decide)
      · exact absurd h2 (by simp [Lib.compareBytes])
    · simp [Lib.compareBytes]
  | x :: a, [], c, h1, h2 => absurd h1 (by simp [Lib.compareBytes])
  | x :: a, y :: b, [], h1, h2 => absurd h2 (by simp [Lib.compareBytes])
  | x :: a, y :: b, z :: c, h1, h2 => by
    simp only [Lib.compareBytes, UInt8.lt_iff_toNat_lt] at *
    split at h1
    · omega
    · split at h1
      · split at h2
        · omega
        · split at h2
          · rw [if_neg (by omega), if_pos (by omega)]; decide
          · rw [if_neg (by omega), if_pos (by omega)]; decide
      · split at h2
        · omega
        · split at h2
          · rw [if_neg (by omega), if_pos (by omega)]; decide
          · rw [if_neg (by omega), if_neg (by omega)]
            exact bytes_trans a b c h1 h2
theorem cmpV_or (a b c : Int) (hc : 0 < c) : decide (a - b < 0) = decide (orV [cmpV a b, c] < 0) := by
  rw [orV_two]
  unfold cmpV
  by_cases h1 : a < b
  · rw [if_pos h1, if_pos (by decide), decide_eq_true (by omega)]; rfl
  · rw [if_neg h1]
    by_cases h2 : b < a
    · rw [if_pos h2, if_pos (by decide), decide_eq_false (by omega)]; rfl
    · rw [if_neg h2, if_neg (by decide), decide_eq_false (by omega), decide_eq_false (by omega)]
theorem leS_more {a b : ByteArray} (h : leS a b = false) : 0 < cmpS a b := by
  unfold leS at h
  rw [ByteArray.toList_eq, ByteArray.toList_eq] at h
  exact bytes_more _ _ h
theorem fieldGo_up {r : Race} : ∀ (l : List Sw) (p : Option ByteArray), fieldGo r p l = 0 → (∀ q, p = some q → ∀ x ∈ l, 0 < cmpS x.who q) ∧ l.Pairwise (fun a b => 0 < cmpS b.who a.who)
  | [], _, _ => ⟨fun _ _ x hx => by simp at hx, List.Pairwise.nil⟩
  | y :: l, p, h => by
    unfold fieldGo at h
    split at h
    · cases h
    · split at h
      · cases h
      · rename_i hle
        split at h
        · rename_i h1; exact absurd h h1
        · obtain ⟨h2, h3⟩ := fieldGo_up l (some y.who) h
          have hy : ∀ q, p = some q → 0 < cmpS y.who q := fun q hq => by
            subst hq
            exact leS_more (by simpa [leO] using hle)
          refine ⟨fun q hq x hx => ?_, List.Pairwise.cons (fun x hx => h2 _ rfl x hx) h3⟩
          rcases List.mem_cons.1 hx with rfl | hx
          · exact hy q hq
          · exact bytes_trans _ _ _ (hy q hq) (h2 _ rfl x hx)
theorem field_up {r : Race} {l : List Sw} (h : fieldErr r l = 0) : l.Pairwise (fun a b => 0 < cmpS b.who a.who) := by
  unfold fieldErr at h
  split at h
  · rename_i h1; exact absurd h h1
  · split at h
    · cases h
    · exact (fieldGo_up l none h).2
/-- the gaps of a field whose names ascend are sorted alike by both orders -/
theorem gaps_same {l : List Sw} {E : Nat} {F : Int} (h : l.Pairwise (fun a b => 0 < cmpS b.who a.who)) : gpSortL (gapLs E F l) = bySortL (gapLs E F l) := by
  unfold gpSortL bySortL
  refine insL_same _ _ _ (fun p k x y hkp hx hy => ?_)
  unfold gapLs at hx hy
  rw [List.getElem?_map] at hx hy
  obtain ⟨u, hu, rfl⟩ := Option.map_eq_some_iff.1 hx
  obtain ⟨v, hv, rfl⟩ := Option.map_eq_some_iff.1 hy
  have hc : 0 < cmpS u.who v.who := by
    have hp' := lt_of_at hu
    have hk' := lt_of_at hv
    have := (List.pairwise_iff_getElem.1 h) k p hk' hp' hkp
    rw [List.getElem?_eq_getElem hp'] at hu
    rw [List.getElem?_eq_getElem hk'] at hv
    rw [Option.some.inj hu, Option.some.inj hv] at this
    exact this
  exact cmpV_or _ _ _ hc
/-! ## with errors -/
def gapsE (r : Race) (l : List Sw) (q : Int) : Int := if fieldErr r l ≠ 0 then fieldErr r l else if ¬ (1 ≤ q ∧ q ≤ lenV r) then 1 else 0
def gapsLs (r : Race) (l : List Sw) (q : Int) : List Gp := if gapsE r l q = 0 then gpSortL (gapLs q.toNat (firstG q.toNat l) l) else []
theorem gapsE_ok {r : Race} {l : List Sw} {q : Int} (h : gapsE r l q = 0) : fieldErr r l = 0 ∧ 1 ≤ q ∧ q ≤ lenV r := by
  unfold gapsE at h
  split at h
  · rename_i h1; exact absurd h h1
  · rename_i h1
    split at h
    · cases h
    · omega
theorem field_lens {r : Race} {l : List Sw} {w : World} {A : Option Addr} {n : Nat} (h : RSw w A n l) (hf : fieldErr r l = 0) : (∀ x ∈ l, x.n = (lenV r).toNat) ∧ ∀ x ∈ l, ∀ y ∈ x.sp, 0 ≤ y ∧ y ≤ 360000 := by
  obtain ⟨hr, _, hw⟩ := fieldErr_ok hf
  refine ⟨fun x hx => ?_, fun x hx y hy => (splits_bd (wholeErr_ok (hw x hx)).1).2.2 y hy⟩
  have h1 := whole_len (hw x hx)
  have h2 := (h.2 x hx).len
  omega
end Go.Proofs.YtdbfcneeiiialaaDoor
