/- A map of reports; the merge of reports as data. -/
import Derived.Test.YtklggnglaeagpaaGreatDoorRptB
import Derived.Test.YtklggnglaeagpaaGreatDoorSetR
namespace Go.Proofs.YtklggnglaeagpaaGreatDoor
open Go.RowKit Go.Shelf Go.Lib Go.Sort
open Go.Maps (Keyed string_keyed)
open Go.WideMaps (keyOf_string_mk)
set_option linter.unusedVariables false

/-- how a report reads as a map's element -/
def rpD (x : Rp) : DataW Unit := .agg [.lit (.string x.id.data.toList), .lit (.string x.jd.data.toList), .lit (.string x.who.data.toList), .lit (.int .i64 x.fault), .lit (.int .i64 x.tm), .lit (.int .i64 x.wt), .lit (.bool x.nt)]
def rpElem : Value → Option (DataW Unit × List MemPlace)
  | .agg cs => match cs.toList with
    | [.string a, .string b, .string c, .int .i64 f, .int .i64 t, .int .i64 u, .bool n] => some (rpD ⟨a, b, c, f, t, u, n⟩, [])
    | _ => none
  | _ => none
theorem bytes_injR {a b : ByteArray} (h : a.data.toList = b.data.toList) : a = b := by
  cases a; cases b; congr 1; exact Array.toList_inj.mp h
theorem rpD_inj {x y : Rp} (h : rpD x = rpD y) : x = y := by
  obtain ⟨a, b, c, d, e, f, g⟩ := x
  obtain ⟨a2, b2, c2, d2, e2, f2, g2⟩ := y
  simp only [rpD, DataW.agg.injEq, List.cons.injEq, DataW.lit.injEq, Lit.string.injEq, Lit.int.injEq, Lit.bool.injEq, and_true, true_and] at h
  obtain ⟨h1, h2, h3, h4, h5, h6, h7⟩ := h
  rw [bytes_injR h1, bytes_injR h2, bytes_injR h3, h4, h5, h6, h7]
theorem rpElem_inv {v : Value} {z : DataW Unit × List MemPlace} (h : rpElem v = some z) : ∃ x : Rp, v = .agg (rpE x).toArray ∧ z = (rpD x, []) := by
  unfold rpElem at h
  split at h
  · rename_i cs
    split at h
    · rename_i a b c f t u n e
      cases h
      refine ⟨⟨a, b, c, f, t, u, n⟩, ?_, rfl⟩
      rw [← Array.toArray_toList (xs := cs), e]
      rfl
    · cases h
  · cases h
theorem rpElem_mk (x : Rp) : rpElem (.agg (rpE x).toArray) = some (rpD x, []) := rfl
abbrev MR (w : World) (b n : Nat) (D : DataW Unit) : Prop := w.ownsMap Tryz.prog 9 rpElem b n D
theorem mr_new (w : World) : MR (w.alloc (.map #[] 0)) w.heap.size 0 (.map []) := World.ownsMap_made w _ _ _
def rpZ : Rp := ⟨⟨#[]⟩, ⟨#[]⟩, ⟨#[]⟩, 0, 0, 0, false⟩
/-- the map of the reports by their Id -/
def KM (a : List Rp) (D : DataW Unit) : Prop := Go.Maps.IsMap D ∧ (∀ x ∈ a, D.atKey (.string x.id.data.toList) (rpD rpZ) = rpD x ∧ Go.Maps.has D (.string x.id.data.toList) = true) ∧ ∀ i : ByteArray, (∀ x ∈ a, x.id ≠ i) → D.atKey (.string i.data.toList) (rpD rpZ) = rpD rpZ ∧ Go.Maps.has D (.string i.data.toList) = false
theorem KM.nil : KM [] (.map []) := ⟨Go.Maps.isMap_empty, fun x h => by simp at h, fun i _ => ⟨rfl, rfl⟩⟩
theorem KM.snoc {a : List Rp} {D : DataW Unit} (h : KM a D) (x : Rp) (hx : ∀ y ∈ a, y.id ≠ x.id) : KM (a ++ [x]) (D.put (.string x.id.data.toList) (rpD x)) := by
  obtain ⟨h1, h2, h3⟩ := h
  have hne : ∀ i : ByteArray, i ≠ x.id → (Lit.string i.data.toList) ≠ .string x.id.data.toList := fun i hi e => by injection e with e; exact hi (bytes_injR e)
  refine ⟨h1.put _ _, fun y hy => ?_, fun i hi => ?_⟩
  · rcases List.mem_append.1 hy with hy | hy
    · have e := hne y.id (hx y hy)
      rw [Go.Maps.atKey_put_other e, Go.Maps.has_put_other e]
      exact h2 y hy
    · obtain rfl := List.mem_singleton.1 hy
      exact ⟨Go.Maps.atKey_put_same h1 (by trivial) _ _, Go.Maps.has_put_same h1 (by trivial) _⟩
  · have e := hne i (fun e => hi x (by simp) e.symm)
    rw [Go.Maps.atKey_put_other e, Go.Maps.has_put_other e]
    exact h3 i (fun y hy => hi y (List.mem_append_left _ hy))
theorem KM.step {a : List Rp} {k : Nat} {x : Rp} {D : DataW Unit} (h : KM (a.take k) D) (hx : a[k]? = some x) (hn : (a.map Rp.id).Nodup) : KM (a.take (k + 1)) (D.put (.string x.id.data.toList) (rpD x)) := by
  rw [List.take_add_one, hx]
  refine h.snoc x fun y hy => ?_
  obtain ⟨i, hi, e⟩ := List.getElem_of_mem hy
  rw [List.length_take] at hi
  rw [List.getElem_take] at e
  have hk := lt_of_at hx
  have e2 : a[k]? = some a[k] := List.getElem?_eq_getElem hk
  rw [e2] at hx
  obtain rfl := Option.some.inj hx
  subst e
  have h3 := List.pairwise_iff_getElem.1 hn i k (by simp; omega) (by simpa using hk) (by omega)
  simpa using h3
theorem mr_look {w : World} {b n : Nat} {D : DataW Unit} (h : MR w b n D) (s : ByteArray) (hs : s.size ≤ maxLen) (y : Rp) (v : Bool) (h1 : D.atKey (.string s.data.toList) (rpD rpZ) = rpD y ∧ Go.Maps.has D (.string s.data.toList) = v) : (Instr.lookup 219 (.map (some b)) (.string s) true).run Tryz.prog w = .ok (.tuple #[.agg #[.string y.id, .string y.jd, .string y.who, .int .i64 y.fault, .int .i64 y.tm, .int .i64 y.wt, .bool y.nt], .bool v]) w := by
  obtain ⟨u, ps, hrun, hu⟩ := h.look_ok (string_keyed Tryz.underlying9) Tryz.underlying219 (Tryz.zeroValue96 w) (rpElem_mk rpZ) (keyOf_string_mk Tryz.underlying9 hs)
  obtain ⟨x, rfl, hz⟩ := rpElem_inv hu
  have hd := congrArg Prod.fst hz
  have hxy : y = x := rpD_inj (h1.1.symm.trans hd)
  subst hxy
  rw [hrun, h1.2]
  rfl
/-- what a merge puts behind the first list; none: two reports of one Id differ -/
def mrgR (a : List Rp) : List Rp → Option (List Rp)
  | [] => some []
  | x :: r => match a.find? (fun y => decide (y.id = x.id)) with
    | none => (mrgR a r).map (x :: ·)
    | some y => if y = x then mrgR a r else none
theorem mrgR_new {a b : List Rp} {k : Nat} {x : Rp} {P : List Rp} (hx : b[k]? = some x) (h : ∀ y ∈ a, y.id ≠ x.id) (hF : mrgR a b = (mrgR a (b.drop k)).map (P ++ ·)) : mrgR a b = (mrgR a (b.drop (k + 1))).map ((P ++ [x]) ++ ·) := by
  rw [hF, drop_at hx]
  have e : a.find? (fun y => decide (y.id = x.id)) = none := by
    rw [List.find?_eq_none]
    intro y hy
    simpa using h y hy
  simp only [mrgR, e]
  cases mrgR a (b.drop (k + 1)) <;> simp
theorem id_same {a : List Rp} (hn : (a.map Rp.id).Nodup) {x y : Rp} (hx : x ∈ a) (hy : y ∈ a) (e : x.id = y.id) : x = y := by
  obtain ⟨i, hi, rfl⟩ := List.getElem_of_mem hx
  obtain ⟨j, hj, rfl⟩ := List.getElem_of_mem hy
  have h := List.pairwise_iff_getElem.1 hn
  rcases Nat.lt_trichotomy i j with hij | hij | hij
  · have := h i j (by simpa using hi) (by simpa using hj) hij; simp at this; exact absurd e this
  · subst hij; rfl
  · have := h j i (by simpa using hj) (by simpa using hi) hij; simp at this; exact absurd e.symm this
theorem mrgR_find {a : List Rp} {x y : Rp} (hn : (a.map Rp.id).Nodup) (hy : y ∈ a) (h : y.id = x.id) : a.find? (fun y => decide (y.id = x.id)) = some y := by
  cases e : a.find? (fun y => decide (y.id = x.id)) with
  | none =>
    rw [List.find?_eq_none] at e
    exact absurd h (by simpa using e y hy)
  | some z =>
    have hz := List.mem_of_find?_eq_some e
    have h2 := List.find?_some e
    have h3 : z.id = x.id := by simpa using h2
    rw [id_same hn hz hy (h3.trans h.symm)]
theorem mrgR_old {a b : List Rp} {k : Nat} {x : Rp} {P : List Rp} (hn : (a.map Rp.id).Nodup) (hx : b[k]? = some x) (hy : x ∈ a) (hF : mrgR a b = (mrgR a (b.drop k)).map (P ++ ·)) : mrgR a b = (mrgR a (b.drop (k + 1))).map (P ++ ·) := by
  rw [hF, drop_at hx]
  have e := mrgR_find hn hy (x := x) rfl
  simp only [mrgR, e, if_pos]
theorem mrgR_bad {a b : List Rp} {k : Nat} {x y : Rp} {P : List Rp} (hn : (a.map Rp.id).Nodup) (hx : b[k]? = some x) (hy : y ∈ a) (h : y.id = x.id) (hne : y ≠ x) (hF : mrgR a b = (mrgR a (b.drop k)).map (P ++ ·)) : mrgR a b = none := by
  rw [hF, drop_at hx]
  have e := mrgR_find hn hy h
  simp only [mrgR, e, if_neg hne]
  rfl
/-- of lists of which equal Ids are equal reports: what the second has and the first has not -/
theorem mrgR_rest {a : List Rp} (hn : (a.map Rp.id).Nodup) : ∀ {b : List Rp}, (∀ x ∈ b, ∀ y ∈ a, y.id = x.id → y = x) → mrgR a b = some (restB a b)
  | [], _ => rfl
  | x :: r, h => by
    have ih := mrgR_rest hn (b := r) (fun z hz => h z (List.mem_cons_of_mem _ hz))
    have hx := h x (List.mem_cons_self ..)
    by_cases hm : x ∈ a
    · have e := mrgR_find hn hm (x := x) rfl
      simp only [mrgR, e, if_pos, ih]
      unfold restB
      rw [List.filter_cons_of_neg (by simpa using hm)]
    · have e : a.find? (fun y => decide (y.id = x.id)) = none := by
        rw [List.find?_eq_none]
        intro y hy
        have : y.id ≠ x.id := fun h0 => hm (hx y hy h0 ▸ hy)
        simpa using this
      simp only [mrgR, e, ih]
      unfold restB
      rw [List.filter_cons_of_pos (by simpa using hm)]
      rfl
/-- what a merge of right lists is -/
def MrgQ (a b : List Rp) (E : Int) (out : List Rp) : Prop :=
  (mrgR a b = none ∧ E = 13 ∧ out = []) ∨ ∃ p, mrgR a b = some p ∧ ((500 < a.length + p.length ∧ E = 2 ∧ out = []) ∨ (¬ 500 < a.length + p.length ∧ E = 0 ∧ RpSorted (a ++ p) out))
def MrgP (a b : List Rp) (E : Int) (out : List Rp) : Prop :=
  (rpErr a ≠ 0 ∧ E = rpErr a ∧ out = []) ∨ (rpErr a = 0 ∧ rpErr b ≠ 0 ∧ E = rpErr b ∧ out = []) ∨ (rpErr a = 0 ∧ rpErr b = 0 ∧ MrgQ a b E out)
end Go.Proofs.YtklggnglaeagpaaGreatDoor
