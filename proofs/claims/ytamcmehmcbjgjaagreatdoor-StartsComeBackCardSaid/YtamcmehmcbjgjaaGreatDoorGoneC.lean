import Derived.Test.YtamcmehmcbjgjaaGreatDoorOrdC
import Derived.Test.YtamcmehmcbjgjaaGreatDoorSeedM
import Derived.Laws.IdiomCopy
import Derived.Test.YtamcmehmcbjgjaaGreatDoorRankM
import Derived.Deep.RegionHeld3
import Derived.Test.YtamcmehmcbjgjaaGreatDoorDraws
/- slices.DeleteFunc of seeds in a row of the call's own: who did not finish is struck; heat.finished and tumbref1.finished. -/
namespace Go.Proofs.YtamcmehmcbjgjaaGreatDoor
open Go.RowKit Go.Shelf Go.Lib Go.Sort
set_option linter.unusedVariables false

theorem own_takeN {w : World} {base : Nat} {e : TypeId} {size g n c k : Nat} {xs : List Value} (h : w.ownsRow base e size (.slice (some ⟨g, 0, none⟩) n c) n xs) (hk : k ≤ n) : w.ownsRow base e size (.slice (some ⟨g, 0, none⟩) k c) k (xs.take (k * size)) := by
  have hl := h.1
  have hm : k * size ≤ n * size := Nat.mul_le_mul_right _ hk
  refine ⟨by rw [List.length_take]; omega, ?_⟩
  rcases h.2 with ⟨hv, _⟩ | ⟨g', cap, cur, hv, hb, hg, h1, h2, h3, h4⟩
  · cases hv
  · injection hv with q1 q2 q3
    injection q1 with q1
    injection q1 with q1
    subst q1 q3
    refine .inr ⟨g, c, cur, rfl, hb, hg, by omega, h2, h3, ?_⟩
    rw [← h4, List.take_take]
    congr 1
    omega
theorem own_setCells {base : Nat} {e : TypeId} {size g n c : Nat} {xs : List Value} : ∀ (vs : List Value) (o : Nat) (w : World), w.ownsRow base e size (.slice (some ⟨g, 0, none⟩) n c) n xs → n * size ≤ o → (w.setCells g o vs).ownsRow base e size (.slice (some ⟨g, 0, none⟩) n c) n xs ∧ w.grownBy (w.setCells g o vs) (some g)
  | [], _, w, h, _ => ⟨h, grown_refl _ _⟩
  | v :: r, o, w, h, ho => by
    obtain ⟨h1, h2⟩ := h.stored o v
    rw [List.set_eq_of_length_le (by rw [h.1]; exact ho)] at h1
    obtain ⟨h3, h4⟩ := own_setCells r (o + 1) _ h1 (by omega)
    exact ⟨h3, grown_trans h2 h4⟩
theorem flat_take : ∀ (R : List Sd) (i : Nat), (R.flatMap sdE).take (i * 2) = (R.take i).flatMap sdE
  | _, 0 => by simp
  | [], i + 1 => by simp
  | x :: r, i + 1 => by
    rw [List.take_succ_cons, List.flatMap_cons, List.flatMap_cons, ← flat_take r i, show (i + 1) * 2 = i * 2 + 2 by omega]
    rfl
theorem zc_one (n : Nat) : ∀ v ∈ (Builtin.zeroCells (Value.agg #[.string ⟨#[]⟩, .int .i64 0]).cells n).toList, v.oneCell' = true := by
  intro v hv
  unfold Builtin.zeroCells at hv
  rw [Array.toList_map] at hv
  obtain ⟨a, _, rfl⟩ := List.mem_map.1 hv
  show (#[Value.string ⟨#[]⟩, Value.int .i64 0][a % 2]!).oneCell' = true
  rcases Nat.mod_two_eq_zero_or_one a with h | h <;> rw [h] <;> rfl
theorem own_blk {w : World} {base : Nat} {e : TypeId} {size g n c : Nat} {xs : List Value} (h : w.ownsRow base e size (.slice (some ⟨g, 0, none⟩) n c) n xs) : ∃ cur, w.heap[g]? = some (.cells cur e (0, 0)) ∧ cur.size = c * size ∧ n ≤ c := by
  rcases h.2 with ⟨hv, _⟩ | ⟨g', cap, cur, hv, hb, hg, h1, h2, h3, h4⟩
  · cases hv
  · injection hv with q1 q2 q3
    injection q1 with q1
    injection q1 with q1
    subst q1 q3
    exact ⟨cur, hg, h3, h1⟩
theorem run_clearN {P : Program} (w : World) (t e ty : TypeId) (z : Value) (ht : P.underlying t = some (.slice e)) (hv : ∀ w, (zeroValue e).run P w = .ok z w) (b o n c : Nat) (hn : 0 < n) (h1 : ∀ v ∈ (Builtin.zeroCells z.cells n).toList, v.oneCell' = true)
    (hc : ∀ j, j < (Builtin.zeroCells z.cells n).toList.length → (w.cell? ⟨b, o + j, none⟩).isSome = true) (hf : ∀ j, j < (Builtin.zeroCells z.cells n).toList.length → w.frozen? ⟨b, o + j, none⟩ = false) :
    (Builtin.clear_ #[t] ty #[.slice (some ⟨b, o, none⟩) n c]).run P w = .ok (.tuple #[]) (w.setCells b o (Builtin.zeroCells z.cells n).toList) := by
  have hst := run_storeCells_cells (P := P) b o (Builtin.zeroCells z.cells n).toList 0 w (by simpa using hc) (by simpa using hf) h1
  simp only [Nat.add_zero] at hst
  obtain ⟨m, rfl⟩ : ∃ m, n = m + 1 := ⟨n - 1, by omega⟩
  simp [Builtin.clear_, run_underlying ht, hv, hst]
def IdxZA (l : List Sd) (n : Nat) (i : Int) : Prop := (i = -1 ∧ ∀ x ∈ l, x.time ≠ 0) ∨ ∃ k : Nat, i = (k : Int) ∧ k < n ∧ (∃ x, l[k]? = some x ∧ x.time = 0) ∧ ∀ x ∈ l.take k, x.time ≠ 0
theorem strikeZA (R l : List Sd) (i j : Nat) (x : Sd) (hR : R.take i = (l.take j).filter fun y => decide (y.time ≠ 0)) (hD : R.drop j = l.drop j) (hij : i ≤ j) (hx : l[j]? = some x) (hl : R.length = l.length) :
    (x.time = 0 → R.take i = (l.take (j + 1)).filter fun y => decide (y.time ≠ 0)) ∧ (x.time ≠ 0 → (R.set i x).take (i + 1) = (l.take (j + 1)).filter fun y => decide (y.time ≠ 0)) ∧ R.drop (j + 1) = l.drop (j + 1) ∧ (R.set i x).drop (j + 1) = l.drop (j + 1) := by
  have hj := lt_of_at hx
  have ht : (l.take (j + 1)).filter (fun y => decide (y.time ≠ 0)) = (l.take j).filter (fun y => decide (y.time ≠ 0)) ++ if x.time ≠ 0 then [x] else [] := by
    rw [List.take_add_one, hx, List.filter_append]
    congr 1
    by_cases h : x.time = 0 <;> simp [h]
  have hd : R.drop (j + 1) = l.drop (j + 1) := by
    have h1 : (R.drop j).drop 1 = (l.drop j).drop 1 := by rw [hD]
    rw [List.drop_drop, List.drop_drop] at h1
    exact h1
  refine ⟨fun h => by rw [ht, if_neg (by simp [h]), List.append_nil, hR], fun h => ?_, hd, ?_⟩
  · rw [ht, if_pos h, List.take_add_one, List.getElem?_set_self (by omega), List.take_set_of_le (Nat.le_refl _), hR]
    rfl
  · rw [List.drop_set_of_lt (by omega)]
    exact hd
def IdxZB (l : List Sd) (n : Nat) (i : Int) : Prop := (i = -1 ∧ ∀ x ∈ l, x.time ≠ 0) ∨ ∃ k : Nat, i = (k : Int) ∧ k < n ∧ (∃ x, l[k]? = some x ∧ x.time = 0) ∧ ∀ x ∈ l.take k, x.time ≠ 0
theorem strikeZB (R l : List Sd) (i j : Nat) (x : Sd) (hR : R.take i = (l.take j).filter fun y => decide (y.time ≠ 0)) (hD : R.drop j = l.drop j) (hij : i ≤ j) (hx : l[j]? = some x) (hl : R.length = l.length) :
    (x.time = 0 → R.take i = (l.take (j + 1)).filter fun y => decide (y.time ≠ 0)) ∧ (x.time ≠ 0 → (R.set i x).take (i + 1) = (l.take (j + 1)).filter fun y => decide (y.time ≠ 0)) ∧ R.drop (j + 1) = l.drop (j + 1) ∧ (R.set i x).drop (j + 1) = l.drop (j + 1) := by
  have hj := lt_of_at hx
  have ht : (l.take (j + 1)).filter (fun y => decide (y.time ≠ 0)) = (l.take j).filter (fun y => decide (y.time ≠ 0)) ++ if x.time ≠ 0 then [x] else [] := by
    rw [List.take_add_one, hx, List.filter_append]
    congr 1
    by_cases h : x.time = 0 <;> simp [h]
  have hd : R.drop (j + 1) = l.drop (j + 1) := by
    have h1 : (R.drop j).drop 1 = (l.drop j).drop 1 := by rw [hD]
    rw [List.drop_drop, List.drop_drop] at h1
    exact h1
  refine ⟨fun h => by rw [ht, if_neg (by simp [h]), List.append_nil, hR], fun h => ?_, hd, ?_⟩
  · rw [ht, if_pos h, List.take_add_one, List.getElem?_set_self (by omega), List.take_set_of_le (Nat.le_refl _), hR]
    rfl
  · rw [List.drop_set_of_lt (by omega)]
    exact hd
/-- who did finish, from the fastest one on -/
def finL (l : List Sd) : List Sd := (ordL l).filter fun y => decide (y.time ≠ 0)
theorem finL_ref (l : List Sd) : ordL (l.filter fun y => decide (y.time ≠ 0)) = finL l := (insL_filter sdSWO _ l).symm
theorem finL_mem {l : List Sd} {x : Sd} : x ∈ finL l ↔ x ∈ l ∧ x.time ≠ 0 := by
  unfold finL
  rw [List.mem_filter, (ord_perm l).mem_iff]
  simp
theorem finL_len (l : List Sd) : (finL l).length ≤ l.length := by
  unfold finL
  have := List.length_filter_le (fun y : Sd => decide (y.time ≠ 0)) (ordL l)
  rw [ord_len] at this
  exact this
end Go.Proofs.YtamcmehmcbjgjaaGreatDoor

/- heat.CheckFinal, heat.Finals: who swims which final. -/
namespace Go.Proofs.YtamcmehmcbjgjaaGreatDoor
open Go.RowKit
set_option linter.unusedVariables false

structure Fl where
  sz : Int
  mn : Int
  rs : Int
def Fl.val (f : Fl) : Value := .agg #[.int .i64 f.sz, .int .i64 f.mn, .int .i64 f.rs]
def Fl.cells (f : Fl) : Array Value := #[.int .i64 f.sz, .int .i64 f.mn, .int .i64 f.rs]
def FlOk (f : Fl) : Prop := (1 ≤ f.sz ∧ f.sz ≤ 10) ∧ (1 ≤ f.mn ∧ f.mn ≤ 5) ∧ (0 ≤ f.rs ∧ f.rs ≤ 10)
instance (f : Fl) : Decidable (FlOk f) := by unfold FlOk; infer_instance
def finErr (f : Fl) : Int := if FlOk f then 0 else 1
theorem finErr_ok {f : Fl} (h : finErr f = 0) : FlOk f := by
  unfold finErr at h
  split at h
  · assumption
  · cases h
/-- what number i swims -/
def cls (f : Fl) (i : Nat) : Int := if (i : Int) < f.sz * f.mn then (i : Int) / f.sz + 1 else if (i : Int) < f.sz * f.mn + f.rs then 0 else -1
/-- 1 and how many of a list are faster -/
def fasterN (t : Int) (L : List Sd) : Nat := (L.filter fun y => decide (y.time < t)).length
def rnkS (L : List Sd) (t : Int) : Int := 1 + (fasterN t L : Int)
theorem faster_snoc (t : Int) (L : List Sd) (y : Sd) : fasterN t (L ++ [y]) = fasterN t L + if y.time < t then 1 else 0 := by
  unfold fasterN
  rw [List.filter_append, List.length_append]
  congr 1
  by_cases h : y.time < t
  · rw [if_pos h, List.filter_cons, if_pos (by simpa using h)]; rfl
  · rw [if_neg h, List.filter_cons, if_neg (by simpa using h)]; rfl
theorem faster_le (t : Int) (L : List Sd) : fasterN t L ≤ L.length := List.length_filter_le _ _
structure Pc where
  who : ByteArray
  fin : Int
  rk : Int
def pcE (x : Pc) : List Value := [.string x.who, .int .i64 x.fin, .int .i64 x.rk]
theorem pcE_len : ∀ x, (pcE x).length = 3 := fun _ => rfl
theorem RSd_drewF {w : World} {A : Option Addr} {n : Nat} {l : List Sd} (h : RSd w A n l) : RSd w.drew A n l := h
/-- the places of swimmers in an order -/
def plc (f : Fl) (L : List Sd) : Nat → List Sd → List Pc
  | _, [] => []
  | i, x :: r => (if 0 ≤ cls f i then [⟨x.who, cls f i, rnkS L x.time⟩] else []) ++ plc f L (i + 1) r
theorem plc_at {f : Fl} {L l : List Sd} {k : Nat} {x : Sd} (h : l[k]? = some x) : plc f L k (l.drop k) = (if 0 ≤ cls f k then [⟨x.who, cls f k, rnkS L x.time⟩] else []) ++ plc f L (k + 1) (l.drop (k + 1)) := by rw [drop_at h]; rfl
theorem flat_snocP (l : List Pc) (x : Pc) : (l ++ [x]).flatMap pcE = l.flatMap pcE ++ pcE x := by rw [List.flatMap_append]; simp
/-- heat.Finals of right seeds and right finals -/
def plcV (f : Fl) (l : List Sd) : List Pc := plc f (finL l) 0 (finL l)
end Go.Proofs.YtamcmehmcbjgjaaGreatDoor

/- tumbref1.PlaceNames, (*Stream).Taken, tumbref1.GoneFault. -/
namespace Go.Proofs.YtamcmehmcbjgjaaGreatDoor
open Go.RowKit
set_option linter.unusedVariables false

theorem shelfN {e : TypeId} {w : World} {A : Option Addr} {n : Nat} {l : List ByteArray} (h : RS e w A n l) (hp : 0 < n) : ∃ b off, A = some ⟨b, off, none⟩ ∧ ∀ j, j < l.length → w.cell? ⟨b, off + j, none⟩ = some (.string (l.getD j ⟨#[]⟩)) := by
  obtain ⟨b, off, cs, fz, hA, hb, hc⟩ := h.2.2 hp
  refine ⟨b, off, hA, fun j hj => ?_⟩
  have hx : l[j]? = some (l.getD j ⟨#[]⟩) := by rw [List.getD_eq_getElem?_getD, List.getElem?_eq_getElem hj]; rfl
  rw [cell_of_row w b _ cs e fz hb]
  exact hc j _ hx
theorem containsN_c (A : Option Addr) (n c : Nat) (l : List ByteArray) (x : ByteArray) (w : World) (h : RS 9 w A n l) :
    Calls Tryz.prog 62 #[.slice A n c, .string x] w fun e w' => e = .returned (.bool (Lib.containsS l x)) ∧ w = w' := by
  have hl := h.len
  have hb := h.bd
  rcases Nat.eq_zero_or_pos n with h0 | hp
  · subst h0
    obtain rfl : l = [] := List.eq_nil_of_length_eq_zero hl
    exact (Tryz.slices_Contains_string_empty A c x w).mono fun _ _ ⟨h1, h2⟩ => ⟨by rw [h1]; rfl, h2.symm⟩
  · obtain ⟨b, off, rfl, hc⟩ := shelfN h hp
    refine (Tryz.slices_Contains_string b off n c l x w (by omega) (by omega) hc).mono fun _ _ ⟨he, hw⟩ => ⟨?_, hw.symm⟩
    rw [he, List.take_of_length_le (by omega)]
theorem RS_takeN {w : World} {b o n k : Nat} {l : List ByteArray} (h : RS 9 w (some ⟨b, o, none⟩) n l) (hk : k ≤ n) : RS 9 w (some ⟨b, o, none⟩) k (l.take k) := by
  have hl := h.len
  refine ⟨by rw [List.length_take]; omega, by have := h.bd; omega, fun hp => ?_⟩
  obtain ⟨b', o', cs, fz, hA, hb, hc⟩ := h.2.2 (by omega)
  refine ⟨b', o', cs, fz, hA, hb, fun j x hx => hc j x ?_⟩
  rw [List.getElem?_take] at hx
  split at hx
  · exact hx
  · cases hx
def RetTk (w : World) (g : Nat) (zs : Zs) (k N : Nat) (e : Ending) (w' : World) : Prop := ∃ (A : Option Addr) (n c : Nat) (l : List ByteArray) (k' : Nat), e = .returned (.slice A n c) ∧ RS 9 w' A n l ∧ ((A = none ∧ n = 0 ∧ c = 0) ∨ ∃ b, A = some ⟨b, 0, none⟩ ∧ n ≤ c) ∧ n ≤ N + 1 ∧ St w' g zs k' ∧ k' ≤ k + N + 5 ∧ w.grownBy w' (some g)
def goneL (of : List ByteArray) : List ByteArray → List ByteArray → Int
  | _, [] => 0
  | done, s :: r => if Lib.containsS of s = true then (if Lib.containsS done s = true then 6 else goneL of (done ++ [s]) r) else 8
def goneErr (of who : List ByteArray) : Int := if 300 < who.length then 2 else goneL of [] who
theorem goneL_at {of who : List ByteArray} {k : Nat} {s : ByteArray} (h : who[k]? = some s) : goneL of (who.take k) (who.drop k) = if Lib.containsS of s = true then (if Lib.containsS (who.take k) s = true then 6 else goneL of (who.take (k + 1)) (who.drop (k + 1))) else 8 := by
  rw [drop_at h, List.take_add_one, h]
  rfl
theorem goneL_ok {of : List ByteArray} : ∀ (r done : List ByteArray), goneL of done r = 0 → done.Nodup → (∀ s ∈ r, s ∈ of) ∧ (done ++ r).Nodup
  | [], done, _, hd => ⟨fun s hs => (by cases hs), by simpa using hd⟩
  | s :: r, done, h, hd => by
    rw [show goneL of done (s :: r) = if Lib.containsS of s = true then (if Lib.containsS done s = true then 6 else goneL of (done ++ [s]) r) else 8 from rfl] at h
    split at h
    · split at h
      · cases h
      · rename_i h1 h2
        have hd2 : (done ++ [s]).Nodup := List.nodup_append.2 ⟨hd, by simp, fun a ha b hb e => by simp at hb; subst hb; subst e; exact h2 ((Lib.containsS_iff _ _).2 ha)⟩
        obtain ⟨i1, i2⟩ := goneL_ok r _ h hd2
        refine ⟨fun t ht => ?_, by rw [List.append_assoc] at i2; exact i2⟩
        rcases List.mem_cons.1 ht with rfl | ht
        · exact (Lib.containsS_iff _ _).1 h1
        · exact i1 t ht
    · cases h
theorem goneErr_ok {of who : List ByteArray} (h : goneErr of who = 0) : who.length ≤ 300 ∧ (∀ s ∈ who, s ∈ of) ∧ who.Nodup := by
  unfold goneErr at h
  split at h
  · cases h
  · obtain ⟨h1, h2⟩ := goneL_ok who [] h (by simp)
    exact ⟨by omega, h1, by simpa using h2⟩
end Go.Proofs.YtamcmehmcbjgjaaGreatDoor
