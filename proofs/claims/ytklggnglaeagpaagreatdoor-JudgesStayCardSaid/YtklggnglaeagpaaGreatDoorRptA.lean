/- Reports as data, their order, judge.CheckReports, tumbref1.ReportsFault. Printed by wip/genrp.py. -/
import Derived.Test.YtklggnglaeagpaaGreatDoorSeedM
import Derived.Test.YtklggnglaeagpaaGreatDoorSigD
import Derived.Deep.RegionHeld3
namespace Go.Proofs.YtklggnglaeagpaaGreatDoor
open Go.RowKit Go.Shelf Go.Lib Go.Sort
open Go.Maps (Keyed string_keyed)
open Go.WideMaps (keyOf_string_mk)
set_option linter.unusedVariables false

structure Rp where
  id : ByteArray
  jd : ByteArray
  who : ByteArray
  fault : Int
  tm : Int
  wt : Int
  nt : Bool
deriving DecidableEq
instance : Inhabited Rp := ⟨⟨⟨#[]⟩, ⟨#[]⟩, ⟨#[]⟩, 0, 0, 0, false⟩⟩
def rpE (x : Rp) : List Value := [.string x.id, .string x.jd, .string x.who, .int .i64 x.fault, .int .i64 x.tm, .int .i64 x.wt, .bool x.nt]
theorem rpE_len : ∀ x, (rpE x).length = 7 := fun _ => rfl
abbrev RRp (w : World) (A : Option Addr) (n : Nat) (l : List Rp) : Prop := RN 7 rpE 96 w A n l
theorem RRp_at7 {w : World} {A : Option Addr} {n : Nat} {l : List Rp} (h : RRp w A n l) {k : Nat} (hk : k < n) : ∃ b off x, A = some ⟨b, off, none⟩ ∧ b < w.heap.size ∧ l[k]? = some x ∧ w.cell? ⟨b, off + k * 7, none⟩ = some (.string x.id) ∧ w.cell? ⟨b, off + k * 7 + 1, none⟩ = some (.string x.jd) ∧ w.cell? ⟨b, off + k * 7 + 2, none⟩ = some (.string x.who) ∧ w.cell? ⟨b, off + k * 7 + 3, none⟩ = some (.int .i64 x.fault) ∧ w.cell? ⟨b, off + k * 7 + 4, none⟩ = some (.int .i64 x.tm) ∧ w.cell? ⟨b, off + k * 7 + 5, none⟩ = some (.int .i64 x.wt) ∧ w.cell? ⟨b, off + k * 7 + 6, none⟩ = some (.bool x.nt) := by
  obtain ⟨b, off, x, hA, hb, hx, hc⟩ := h.at_ hk
  exact ⟨b, off, x, hA, hb, hx, hc 0 _ rfl, hc 1 _ rfl, hc 2 _ rfl, hc 3 _ rfl, hc 4 _ rfl, hc 5 _ rfl, hc 6 _ rfl⟩
theorem info_report : (Tryz.prog.info? 96).map (fun i => (i.zero, i.size, i.bytes)) = some (some (.agg #[.string ⟨#[]⟩, .string ⟨#[]⟩, .string ⟨#[]⟩, .int .i64 0, .int .i64 0, .int .i64 0, .bool false]), 7, 80) := by kernel_rfl
def rpCf (x y : Rp) : Int := orV [Lib.compareInt x.tm y.tm, cmpB x.id y.id]
theorem rpCf_val (x y : Rp) : rpCf x y = if Lib.compareInt x.tm y.tm ≠ 0 then Lib.compareInt x.tm y.tm else cmpB x.id y.id := by
  unfold rpCf
  simp only [orV]
  split
  · rfl
  · split
    · rfl
    · rename_i h; exact (Decidable.not_not.1 h).symm
set_option maxRecDepth 100000 in
theorem rpCompare_c (x y : Rp) (W : World) : Calls Tryz.prog 149 #[.agg (rpE x).toArray, .agg (rpE y).toArray] W fun e w' => e = .returned (.int .i64 (rpCf x y)) ∧ Below W.heap.size W w' ∧ W.drawn ≤ w'.drawn := by
  have hV := Lib.hid (show rpCf x y = orV [Lib.compareInt x.tm y.tm, cmpB x.id y.id] from rfl)
  generalize rpCf x y = V at *
  obtain ⟨id, jd, who, fault, tm, wt, nt⟩ := x
  obtain ⟨id2, jd2, who2, fault2, tm2, wt2, nt2⟩ := y
  dsimp only [rpE] at *
  have hC := Lib.hid (fun W => show Calls Tryz.prog 121 #[.int .i64 tm, .int .i64 tm2] W fun e w' => e = .returned (.int .i64 (Lib.compareInt tm tm2)) ∧ W = w' from (Tryz.cmp_Compare_int tm tm2 W).mono fun _ _ ⟨h1, h2⟩ => ⟨h1, h2.symm⟩)
  have hS := Lib.hid (fun W => show Calls Tryz.prog 170 #[.string id, .string id2] W fun e w' => e = .returned (.int .i64 (cmpB id id2)) ∧ W = w' from (Tryz.strings_Compare id id2 W).mono fun _ _ ⟨h1, h2⟩ => ⟨h1, h2.symm⟩)
  generalize hu : cmpB id id2 = u at *
  generalize hv : Lib.compareInt tm tm2 = v at *
  clear hu hv
  have hb0 := heap_alloc_new W (.cells #[.string id, .string jd, .string who, .int .i64 fault, .int .i64 tm, .int .i64 wt, .bool nt] 96)
  have hb1 := blk_alloc hb0 (.cells #[.string id2, .string jd2, .string who2, .int .i64 fault2, .int .i64 tm2, .int .i64 wt2, .bool nt2] 96)
  have hb2 := heap_alloc_new (W.alloc (.cells #[.string id, .string jd, .string who, .int .i64 fault, .int .i64 tm, .int .i64 wt, .bool nt] 96)) (.cells #[.string id2, .string jd2, .string who2, .int .i64 fault2, .int .i64 tm2, .int .i64 wt2, .bool nt2] 96)
  rw [alloc_sizeS] at hb2
  have hBB := below_box (below_box (Below.refl ((W.alloc (.cells #[.string id, .string jd, .string who, .int .i64 fault, .int .i64 tm, .int .i64 wt, .bool nt] 96)).alloc (.cells #[.string id2, .string jd2, .string who2, .int .i64 fault2, .int .i64 tm2, .int .i64 wt2, .bool nt2] 96)).heap.size _))
  have hD : ((W.alloc (.cells #[.string id, .string jd, .string who, .int .i64 fault, .int .i64 tm, .int .i64 wt, .bool nt] 96)).alloc (.cells #[.string id2, .string jd2, .string who2, .int .i64 fault2, .int .i64 tm2, .int .i64 wt2, .bool nt2] 96)).drawn = W.drawn := rfl
  go_enter Tryz.func149, Tryz.ntmps149
  go_wp2_with fail
  generalize (W.alloc (.cells #[.string id, .string jd, .string who, .int .i64 fault, .int .i64 tm, .int .i64 wt, .bool nt] 96)).alloc (.cells #[.string id2, .string jd2, .string who2, .int .i64 fault2, .int .i64 tm2, .int .i64 wt2, .bool nt2] 96) = w5 at *
  generalize hbx : W.heap.size = bx at *
  have z0 := (blk_facts hb1).1 0
  have z4 := (blk_facts hb1).1 4
  have y0 := (blk_facts hb2).1 0
  have y4 := (blk_facts hb2).1 4
  clear hb0
  go_region_held3 (fun w' => w'.cell? ⟨bx, 0, none⟩ = some (.string id) ∧ w'.cell? ⟨bx, 4, none⟩ = some (.int .i64 tm) ∧ w'.cell? ⟨bx + 1, 0, none⟩ = some (.string id2) ∧ w'.cell? ⟨bx + 1, 4, none⟩ = some (.int .i64 tm2)) (go_keep)
    (first
      | (go_at_call 170; refine (hS.out _).mono ?_; rintro e w' ⟨rfl, rfl⟩)
      | (go_at_call 121; refine (hC.out _).mono ?_; rintro e w' ⟨rfl, rfl⟩)
      | (go_at_call 234; refine (orP_c _ _ _ [v, u] _ (R1.litAt _ _ _ _ (by simp) rfl (by simp)).drew).mono ?_; rintro e w' ⟨rfl, rfl⟩))
  have hz := below_drewN (hBB.alloc (by have := hBB.size; omega) (.cells #[.int .i64 v, .int .i64 u] 3)) 1
  go_wp2
  go_ret
  exact ⟨ret_i hV.out.symm, hbx ▸ hz, by show W.drawn ≤ w5.drawn + 1; omega⟩
set_option maxRecDepth 100000 in
theorem byReport_c (x y : Rp) (W : World) : Calls Tryz.prog 250 #[.agg (rpE x).toArray, .agg (rpE y).toArray] W fun e w' => e = .returned (.int .i64 (rpCf x y)) ∧ Below W.heap.size W w' ∧ W.drawn ≤ w'.drawn := by
  have hV := Lib.hid (show rpCf x y = orV [Lib.compareInt x.tm y.tm, cmpB x.id y.id] from rfl)
  generalize rpCf x y = V at *
  obtain ⟨id, jd, who, fault, tm, wt, nt⟩ := x
  obtain ⟨id2, jd2, who2, fault2, tm2, wt2, nt2⟩ := y
  dsimp only [rpE] at *
  have hC := Lib.hid (fun W => show Calls Tryz.prog 121 #[.int .i64 tm, .int .i64 tm2] W fun e w' => e = .returned (.int .i64 (Lib.compareInt tm tm2)) ∧ W = w' from (Tryz.cmp_Compare_int tm tm2 W).mono fun _ _ ⟨h1, h2⟩ => ⟨h1, h2.symm⟩)
  have hS := Lib.hid (fun W => show Calls Tryz.prog 170 #[.string id, .string id2] W fun e w' => e = .returned (.int .i64 (cmpB id id2)) ∧ W = w' from (Tryz.strings_Compare id id2 W).mono fun _ _ ⟨h1, h2⟩ => ⟨h1, h2.symm⟩)
  generalize hu : cmpB id id2 = u at *
  generalize hv : Lib.compareInt tm tm2 = v at *
  clear hu hv
  have hb0 := heap_alloc_new W (.cells #[.string id, .string jd, .string who, .int .i64 fault, .int .i64 tm, .int .i64 wt, .bool nt] 96)
  have hb1 := blk_alloc hb0 (.cells #[.string id2, .string jd2, .string who2, .int .i64 fault2, .int .i64 tm2, .int .i64 wt2, .bool nt2] 96)
  have hb2 := heap_alloc_new (W.alloc (.cells #[.string id, .string jd, .string who, .int .i64 fault, .int .i64 tm, .int .i64 wt, .bool nt] 96)) (.cells #[.string id2, .string jd2, .string who2, .int .i64 fault2, .int .i64 tm2, .int .i64 wt2, .bool nt2] 96)
  rw [alloc_sizeS] at hb2
  have hBB := below_box (below_box (Below.refl ((W.alloc (.cells #[.string id, .string jd, .string who, .int .i64 fault, .int .i64 tm, .int .i64 wt, .bool nt] 96)).alloc (.cells #[.string id2, .string jd2, .string who2, .int .i64 fault2, .int .i64 tm2, .int .i64 wt2, .bool nt2] 96)).heap.size _))
  have hD : ((W.alloc (.cells #[.string id, .string jd, .string who, .int .i64 fault, .int .i64 tm, .int .i64 wt, .bool nt] 96)).alloc (.cells #[.string id2, .string jd2, .string who2, .int .i64 fault2, .int .i64 tm2, .int .i64 wt2, .bool nt2] 96)).drawn = W.drawn := rfl
  go_enter Tryz.func250, Tryz.ntmps250
  go_wp2_with fail
  generalize (W.alloc (.cells #[.string id, .string jd, .string who, .int .i64 fault, .int .i64 tm, .int .i64 wt, .bool nt] 96)).alloc (.cells #[.string id2, .string jd2, .string who2, .int .i64 fault2, .int .i64 tm2, .int .i64 wt2, .bool nt2] 96) = w5 at *
  generalize hbx : W.heap.size = bx at *
  have z0 := (blk_facts hb1).1 0
  have z4 := (blk_facts hb1).1 4
  have y0 := (blk_facts hb2).1 0
  have y4 := (blk_facts hb2).1 4
  clear hb0
  go_region_held3 (fun w' => w'.cell? ⟨bx, 0, none⟩ = some (.string id) ∧ w'.cell? ⟨bx, 4, none⟩ = some (.int .i64 tm) ∧ w'.cell? ⟨bx + 1, 0, none⟩ = some (.string id2) ∧ w'.cell? ⟨bx + 1, 4, none⟩ = some (.int .i64 tm2)) (go_keep)
    (first
      | (go_at_call 170; refine (hS.out _).mono ?_; rintro e w' ⟨rfl, rfl⟩)
      | (go_at_call 121; refine (hC.out _).mono ?_; rintro e w' ⟨rfl, rfl⟩)
      | (go_at_call 234; refine (orP_c _ _ _ [v, u] _ (R1.litAt _ _ _ _ (by simp) rfl (by simp)).drew).mono ?_; rintro e w' ⟨rfl, rfl⟩))
  have hz := below_drewN (hBB.alloc (by have := hBB.size; omega) (.cells #[.int .i64 v, .int .i64 u] 3)) 1
  go_wp2
  go_ret
  exact ⟨ret_i hV.out.symm, hbx ▸ hz, by show W.drawn ≤ w5.drawn + 1; omega⟩
/-- the error of a report alone -/
def rp1 (x : Rp) : Int :=
  if keyB x.id = false ∨ keyB x.jd = false ∨ keyB x.who = false then 5
  else if ¬ (1 ≤ x.fault ∧ x.fault ≤ 8) then 4
  else if ¬ (0 ≤ x.tm ∧ x.tm ≤ 345686399999) then 1
  else if ¬ (1 ≤ x.wt ∧ x.wt ≤ 2) then 1 else 0
theorem rp1_ok {x : Rp} (h : rp1 x = 0) : (keyB x.id = true ∧ keyB x.jd = true ∧ keyB x.who = true) ∧ (1 ≤ x.fault ∧ x.fault ≤ 8) ∧ (0 ≤ x.tm ∧ x.tm ≤ 345686399999) ∧ (1 ≤ x.wt ∧ x.wt ≤ 2) := by
  unfold rp1 at h
  split at h
  · cases h
  · split at h
    · cases h
    · split at h
      · cases h
      · split at h
        · cases h
        · rename_i a b c d
          simp only [not_or, Bool.not_eq_false] at a
          exact ⟨a, Decidable.not_not.1 b, Decidable.not_not.1 c, Decidable.not_not.1 d⟩
def prevRp (l : List Rp) (k : Nat) : Option Rp := if k = 0 then none else l[k - 1]?
def badRp (o : Option Rp) (x : Rp) : Bool := match o with | some y => decide (0 ≤ rpCf y x) | none => false
/-- one after the other: an error alone, the order; then an Id twice -/
def rpGo : List ByteArray → Bool → Option Rp → List Rp → Int
  | _, tw, _, [] => if tw then 6 else 0
  | seen, tw, o, x :: r => if rp1 x ≠ 0 then rp1 x else if badRp o x = true then 7 else rpGo (x.id :: seen) (tw || seenB x.id seen) (some x) r
def rpErr (l : List Rp) : Int := if 500 < l.length then 2 else rpGo [] false none l
theorem rpGo_at {l : List Rp} {k : Nat} {x : Rp} (seen : List ByteArray) (tw : Bool) (h : l[k]? = some x) : rpGo seen tw (prevRp l k) (l.drop k) = if rp1 x ≠ 0 then rp1 x else if badRp (prevRp l k) x = true then 7 else rpGo (x.id :: seen) (tw || seenB x.id seen) (prevRp l (k + 1)) (l.drop (k + 1)) := by
  rw [drop_at h]
  have e : prevRp l (k + 1) = some x := by unfold prevRp; rw [if_neg (by omega)]; exact h
  rw [e]; rfl
def rpSo : Option Rp → List Rp → Int
  | _, [] => 0
  | o, x :: r => if rp1 x ≠ 0 then rp1 x else if badRp o x = true then 7 else rpSo (some x) r
theorem rpSo_at {l : List Rp} {k : Nat} {x : Rp} (h : l[k]? = some x) : rpSo (prevRp l k) (l.drop k) = if rp1 x ≠ 0 then rp1 x else if badRp (prevRp l k) x = true then 7 else rpSo (prevRp l (k + 1)) (l.drop (k + 1)) := by
  rw [drop_at h]
  have e : prevRp l (k + 1) = some x := by unfold prevRp; rw [if_neg (by omega)]; exact h
  rw [e]; rfl
open Classical in
theorem rpGo_ref : ∀ (l : List Rp) (seen : List ByteArray) (tw : Bool) (o : Option Rp), rpGo seen tw o l = if rpSo o l ≠ 0 then rpSo o l else if tw = true ∨ ¬ ((l.map Rp.id).Nodup ∧ ∀ x ∈ l, x.id ∉ seen) then 6 else 0
  | [], seen, tw, o => by
    unfold rpGo rpSo
    cases tw <;> simp
  | x :: l, seen, tw, o => by
    unfold rpGo rpSo
    by_cases hk : rp1 x ≠ 0
    · rw [if_pos hk, if_pos hk, if_pos hk]
    · rw [if_neg hk, if_neg hk]
      by_cases ht : badRp o x = true
      · rw [if_pos ht, if_pos ht]; simp
      · rw [if_neg ht, if_neg ht, rpGo_ref l (x.id :: seen) (tw || seenB x.id seen) (some x)]
        by_cases hg : rpSo (some x) l ≠ 0
        · rw [if_pos hg, if_pos hg]
        · rw [if_neg hg, if_neg hg]
          have hs : seenB x.id seen = true ↔ x.id ∈ seen := by
            unfold seenB
            rw [List.any_eq_true]
            constructor
            · rintro ⟨t, h1, h2⟩
              have := of_decide_eq_true h2
              subst this; exact h1
            · intro h; exact ⟨_, h, by simp⟩
          have hiff : (((tw || seenB x.id seen) = true) ∨ ¬ ((l.map Rp.id).Nodup ∧ ∀ y ∈ l, y.id ∉ x.id :: seen)) ↔ (tw = true ∨ ¬ (((x :: l).map Rp.id).Nodup ∧ ∀ y ∈ x :: l, y.id ∉ seen)) := by
            rw [Bool.or_eq_true, hs]
            simp only [List.map_cons, List.nodup_cons, List.mem_map, List.mem_cons, not_or, forall_eq_or_imp]
            constructor
            · rintro ((h | h) | h)
              · exact .inl h
              · exact .inr fun hc => hc.2.1 h
              · refine .inr fun hc => h ⟨hc.1.2, fun y hy => ⟨fun e => hc.1.1 ⟨y, hy, e⟩, hc.2.2 y hy⟩⟩
            · rintro (h | h)
              · exact .inl (.inl h)
              · by_cases hx : x.id ∈ seen
                · exact .inl (.inr hx)
                · refine .inr fun hc => h ⟨⟨?_, hc.1⟩, hx, fun y hy => (hc.2 y hy).2⟩
                  rintro ⟨y, hy, e⟩
                  exact (hc.2 y hy).1 e
          by_cases hc : ((tw || seenB x.id seen) = true) ∨ ¬ ((l.map Rp.id).Nodup ∧ ∀ y ∈ l, y.id ∉ x.id :: seen)
          · rw [if_pos hc, if_pos (hiff.1 hc)]
          · rw [if_neg hc, if_neg (fun h => hc (hiff.2 h))]
theorem rpErr_ref (l : List Rp) : rpErr l = if 500 < l.length then 2 else if rpSo none l ≠ 0 then rpSo none l else if (l.map Rp.id).Nodup then 0 else 6 := by
  unfold rpErr
  rw [rpGo_ref]
  split
  · rfl
  · split
    · rfl
    · by_cases hn : (l.map Rp.id).Nodup <;> simp [hn]
theorem rpSo_ok : ∀ {l : List Rp} {o : Option Rp}, rpSo o l = 0 → ∀ x ∈ l, rp1 x = 0
  | [], _, _, x, h => by cases h
  | y :: r, o, h, x, hx => by
    unfold rpSo at h
    split at h
    · rename_i h1; exact absurd h h1
    · rename_i h1
      split at h
      · cases h
      · rcases List.mem_cons.1 hx with rfl | hx
        · exact Decidable.not_not.1 h1
        · exact rpSo_ok h x hx
theorem rpErr_ok {l : List Rp} (h : rpErr l = 0) : l.length ≤ 500 ∧ (∀ x ∈ l, rp1 x = 0) ∧ (l.map Rp.id).Nodup := by
  rw [rpErr_ref] at h
  split at h
  · cases h
  · split at h
    · rename_i h1; exact absurd h h1
    · rename_i h0 h1
      split at h
      · rename_i h2; exact ⟨by omega, rpSo_ok (Decidable.not_not.1 h1), h2⟩
      · cases h
def PrevR (w : World) (b off : Nat) (l : List Rp) (k : Nat) : Prop := (k = 0 ∧ prevRp l k = none) ∨ (1 ≤ k ∧ ∃ y, prevRp l k = some y ∧ w.cell? ⟨b, off + (k - 1) * 7, none⟩ = some (.string y.id) ∧ w.cell? ⟨b, off + (k - 1) * 7 + 1, none⟩ = some (.string y.jd) ∧ w.cell? ⟨b, off + (k - 1) * 7 + 2, none⟩ = some (.string y.who) ∧ w.cell? ⟨b, off + (k - 1) * 7 + 3, none⟩ = some (.int .i64 y.fault) ∧ w.cell? ⟨b, off + (k - 1) * 7 + 4, none⟩ = some (.int .i64 y.tm) ∧ w.cell? ⟨b, off + (k - 1) * 7 + 5, none⟩ = some (.int .i64 y.wt) ∧ w.cell? ⟨b, off + (k - 1) * 7 + 6, none⟩ = some (.bool y.nt))
theorem prevR_of {w : World} {b off n : Nat} {l : List Rp} (h : RRp w (some ⟨b, off, none⟩) n l) {k : Nat} (hk : k < n) : PrevR w b off l k := by
  rcases Nat.eq_zero_or_pos k with h0 | hp
  · exact .inl ⟨h0, by unfold prevRp; rw [if_pos h0]⟩
  · obtain ⟨b', off', y, hA, _, hy, c⟩ := RRp_at7 h (k := k - 1) (by omega)
    injection hA with hA
    injection hA with e1 e2
    subst e1 e2
    exact .inr ⟨hp, y, by unfold prevRp; rw [if_neg (by omega)]; exact hy, c⟩
theorem isFaultR_c (n : Int) (w : World) : Calls Tryz.prog 251 #[.int .i64 n] w fun e w' => e = .returned (.bool (decide (1 ≤ n ∧ n ≤ 8))) ∧ w = w' := by
  go_enter Tryz.func251, Tryz.ntmps251
  go_wp2_with fail
  refine (within_c _ _ _ _).mono ?_; rintro e w' ⟨rfl, rfl⟩
  go_wp2
  go_ret
  exact ⟨by simp [Bool.decide_and], rfl⟩
set_option maxRecDepth 100000 in
theorem mb_lookupQ {w : World} {b n : Nat} {D : DataW Unit} (h : MB w b n D) (s : ByteArray) (hs : s.size ≤ maxLen) : ∃ v : Bool, (∀ q, (Instr.lookup 250 (.map (some b)) (.string s) false).run Tryz.prog (w.drewN q) = .ok (.bool v) (w.drewN q)) ∧ D.atKey (.string s.data.toList) (.lit (.bool false)) = .lit (.bool v) := by
  obtain ⟨v, _, hv⟩ := mb_lookup h s hs
  refine ⟨v, fun q => ?_, hv⟩
  obtain ⟨v2, h2, hv2⟩ := mb_lookup (w := w.drewN q) (b := b) (n := n) (D := D) (h.kept (row := none) (grown_of_below (below_drewN (Below.refl _ _) q)) (by simp)) s hs
  have e : v2 = v := by
    rw [hv2] at hv
    injection hv with hv
    injection hv with hv
  rw [e] at h2
  exact h2
set_option maxHeartbeats 6400000 in
set_option maxRecDepth 100000 in
theorem checkReports_c (A : Option Addr) (n c : Nat) (l : List Rp) (w : World) (h : RRp w A n l) :
    Calls Tryz.prog 146 #[.slice A n c] w fun e w' => e = .returned (.int .i64 (rpErr l)) ∧ Below w.heap.size w w' := by
  have hR := Lib.hid (fun W B => h.below (w' := W) B)
  have hbd := h.bd
  have hl := Lib.hid h.len
  have hE := Lib.hid (show rpErr l = if 500 < n then 2 else rpGo [] false none l by unfold rpErr; rw [h.len])
  have hGa := Lib.hid (fun seen tw k x (h : l[k]? = some x) => rpGo_at seen tw h)
  have hG0 := Lib.hid (fun seen tw o => show rpGo seen tw o [] = if tw then 6 else 0 from rfl)
  have hPk := Lib.hid (fun (W : World) b off k (h : RRp W (some ⟨b, off, none⟩) n l) (hk : k < n) => prevR_of h hk)
  have hPut := Lib.hid (fun D seen (h : SeenM D seen) s => h.put s)
  generalize rpErr l = E at *
  generalize rpGo = SG at *
  clear h
  by_cases hbig : 500 < n
  · obtain rfl : E = 2 := by rw [hE.out, if_pos hbig]
    clear hE
    go_enter Tryz.func146, Tryz.ntmps146
    go_wp2
    go_ret
    exact ⟨rfl, Below.refl _ _⟩
  have hE2 := Lib.hid (show SG [] false none l = E by rw [hE.out, if_neg hbig])
  clear hE
  have hmm := @run_makeMap Tryz.prog
  have hm0 := mb_new w
  have hB0 := below_new w (.map #[] 0)
  have hS0 := Lib.hid SeenM.nil
  go_enter Tryz.func146, Tryz.ntmps146
  go_wp2
  go_loopw [4, 13] (fun tw i wr => ∃ (k q : Nat) (t : Bool) (seen : List ByteArray) (D : DataW Unit), k ≤ n ∧ i = .int .i64 k ∧ tw = .bool t ∧ q ≤ k ∧ MB wr w.heap.size q D ∧ Hid (SeenM D seen) ∧ Below w.heap.size w wr ∧ Hid (SG seen t (prevRp l k) (l.drop k) = E)) (fun _ i _ => n - (intOf i).toNat)
  case atStart => exact ⟨0, 0, false, [], .map [], Nat.zero_le _, rfl, rfl, Nat.le_refl _, hm0, hS0, hB0, hE2⟩
  case round =>
    clear hm0 hB0 hS0
    rename World => wr
    obtain ⟨k, q, t, seen, D, hk, rfl, rfl, hq, hm, hSM, hB, hF⟩ := hrel
    by_cases hlt : k < n
    · obtain ⟨b, off, x, rfl, hbl, hx, c0, c1, c2, c3, c4, c5, c6⟩ := RRp_at7 (hR.out _ hB) hlt
      have hP := hPk.out _ _ _ _ (hR.out _ hB) hlt
      have hS := Lib.hid ((hGa.out seen t k x hx).symm.trans hF.out)
      have hsml := Lib.hid (fun h => key_small (s := x.id) h)
      have hmw := hB.size
      clear hx hF
      obtain ⟨id, jd, who, fault, tm, wt, nt⟩ := x
      dsimp only at *
      have hr1 := Lib.hid (show rp1 ⟨id, jd, who, fault, tm, wt, nt⟩ = if keyB id = false ∨ keyB jd = false ∨ keyB who = false then 5 else if ¬ (1 ≤ fault ∧ fault ≤ 8) then 4 else if ¬ (0 ≤ tm ∧ tm ≤ 345686399999) then 1 else if ¬ (1 ≤ wt ∧ wt ≤ 2) then 1 else 0 from rfl)
      have hk1 := Lib.hid (fun W => isKey_c id W)
      have hk2 := Lib.hid (fun W => isKey_c jd W)
      have hk3 := Lib.hid (fun W => isKey_c who W)
      have hn0 := heap_alloc_new wr (.cells #[.string id, .string jd, .string who, .int .i64 fault, .int .i64 tm, .int .i64 wt, .bool nt] 96)
      have hBx := below_new wr (.cells #[.string id, .string jd, .string who, .int .i64 fault, .int .i64 tm, .int .i64 wt, .bool nt] 96)
      have hBn := below_next hB (below_new wr (.cells #[.string id, .string jd, .string who, .int .i64 fault, .int .i64 tm, .int .i64 wt, .bool nt] 96))
      have hm0 := hm.alloc (.cells #[.string id, .string jd, .string who, .int .i64 fault, .int .i64 tm, .int .i64 wt, .bool nt] 96)
      generalize hg1 : rp1 ⟨id, jd, who, fault, tm, wt, nt⟩ = e1 at *
      clear hg1
      generalize keyB id = kb1 at *
      generalize keyB jd = kb2 at *
      generalize keyB who = kb3 at *
      have hbad := Lib.hid (fun (v : Int) (h : v ≠ 0) (he : e1 = v) => show v = E by rw [← hS.out, if_pos (by rw [he]; exact h), he])
      go_wp2_with fail
      refine (hk1.out _).mono ?_; rintro e w1 ⟨rfl, B1⟩
      have hn1 := blk_below hn0 B1
      have hB1 := below_next hBn B1
      have hB1x := below_next hBx B1
      have hm1 : MB w1 w.heap.size q D := hm0.kept (row := none) (grown_of_below B1) (by simp)
      clear hn0 B1 hBn c0 c1 c2 c3 c4 c5 c6 hk1
      have x0 := (blk_facts hn1).1 0
      have x1 := (blk_facts hn1).1 1
      have x2 := (blk_facts hn1).1 2
      have x3 := (blk_facts hn1).1 3
      have x4 := (blk_facts hn1).1 4
      have x5 := (blk_facts hn1).1 5
      have x6 := (blk_facts hn1).1 6
      cases kb1
      · have hr := Lib.hid (hbad.out 5 (by decide) (by rw [hr1.out, if_pos (.inl rfl)]))
        clear hbad hr1 hS hP
        go_wp2
        go_ret
        exact ⟨ret_i hr.out, hB1⟩
      go_wp2_with fail
      refine (hk2.out _).mono ?_; rintro e w2 ⟨rfl, B2⟩
      have hn2 := blk_below hn1 B2
      have hB2 := below_next hB1 B2
      have hB2x := below_next hB1x B2
      have hm2 : MB w2 w.heap.size q D := hm1.kept (row := none) (grown_of_below B2) (by simp)
      clear hn1 B2 hB1 x0 x1 x2 x3 x4 x5 x6 hk2
      have x0 := (blk_facts hn2).1 0
      have x1 := (blk_facts hn2).1 1
      have x2 := (blk_facts hn2).1 2
      have x3 := (blk_facts hn2).1 3
      have x4 := (blk_facts hn2).1 4
      have x5 := (blk_facts hn2).1 5
      have x6 := (blk_facts hn2).1 6
      cases kb2
      · have hr := Lib.hid (hbad.out 5 (by decide) (by rw [hr1.out, if_pos (.inr (.inl rfl))]))
        clear hbad hr1 hS hP
        go_wp2
        go_ret
        exact ⟨ret_i hr.out, hB2⟩
      go_wp2_with fail
      refine (hk3.out _).mono ?_; rintro e w3 ⟨rfl, B3⟩
      have hn3 := blk_below hn2 B3
      have hB3 := below_next hB2 B3
      have hB3x := below_next hB2x B3
      have hm3 : MB w3 w.heap.size q D := hm2.kept (row := none) (grown_of_below B3) (by simp)
      clear hn2 B3 hB2 x0 x1 x2 x3 x4 x5 x6 hk3
      have x0 := (blk_facts hn3).1 0
      have x1 := (blk_facts hn3).1 1
      have x2 := (blk_facts hn3).1 2
      have x3 := (blk_facts hn3).1 3
      have x4 := (blk_facts hn3).1 4
      have x5 := (blk_facts hn3).1 5
      have x6 := (blk_facts hn3).1 6
      cases kb3
      · have hr := Lib.hid (hbad.out 5 (by decide) (by rw [hr1.out, if_pos (.inr (.inr rfl))]))
        clear hbad hr1 hS hP
        go_wp2
        go_ret
        exact ⟨ret_i hr.out, hB3⟩
      have hr2 := Lib.hid (hr1.out.trans (if_neg (by simp)))
      have hsz := hsml.out (by first | rfl | trivial)
      clear hr1 hsml
      by_cases hf : 1 ≤ fault ∧ fault ≤ 8
      rotate_left
      · have hr := Lib.hid (hbad.out 4 (by decide) (by rw [hr2.out, if_pos hf]))
        have hd : decide (1 ≤ fault ∧ fault ≤ 8) = false := decide_eq_false hf
        clear hbad hr2 hS hP hf
        go_wp2_with (go_at_call 251; refine (isFaultR_c _ _).mono ?_; rintro e w' ⟨rfl, rfl⟩; rw [hd])
        go_ret
        exact ⟨ret_i hr.out, hB3⟩
      have hd1 : decide (1 ≤ fault ∧ fault ≤ 8) = true := decide_eq_true hf
      have hr3 := Lib.hid (hr2.out.trans (if_neg (by simpa using hf)))
      clear hr2 hf
      by_cases hf : 0 ≤ tm ∧ tm ≤ 345686399999
      rotate_left
      · have hr := Lib.hid (hbad.out 1 (by decide) (by rw [hr3.out, if_pos hf]))
        have hd : decide (0 ≤ tm ∧ tm ≤ 345686399999) = false := decide_eq_false hf
        clear hbad hr3 hS hP hf
        go_wp2_with (first | (go_at_call 251; refine (isFaultR_c _ _).mono ?_; rintro e w' ⟨rfl, rfl⟩; rw [hd1]) | (go_at_call 150; refine (isMoment_c _ _).mono ?_; rintro e w' ⟨rfl, rfl⟩; rw [hd]))
        go_ret
        exact ⟨ret_i hr.out, hB3⟩
      have hd2 : decide (0 ≤ tm ∧ tm ≤ 345686399999) = true := decide_eq_true hf
      have hr4 := Lib.hid (hr3.out.trans (if_neg (by simpa using hf)))
      clear hr3 hf
      by_cases hf : 1 ≤ wt ∧ wt ≤ 2
      rotate_left
      · have hr := Lib.hid (hbad.out 1 (by decide) (by rw [hr4.out, if_pos hf]))
        have hd : decide (1 ≤ wt ∧ wt ≤ 2) = false := decide_eq_false hf
        clear hbad hr4 hS hP hf
        go_wp2_with (first | (go_at_call 251; refine (isFaultR_c _ _).mono ?_; rintro e w' ⟨rfl, rfl⟩; rw [hd1]) | (go_at_call 150; refine (isMoment_c _ _).mono ?_; rintro e w' ⟨rfl, rfl⟩; rw [hd2]) | (go_at_call 128; refine (within_c _ _ _ _).mono ?_; rintro e w' ⟨rfl, rfl⟩; rw [hd]))
        go_ret
        exact ⟨ret_i hr.out, hB3⟩
      have hd3 : decide (1 ≤ wt ∧ wt ≤ 2) = true := decide_eq_true hf
      obtain rfl : e1 = 0 := hr4.out.trans (if_neg (by simpa using hf))
      clear hr4 hf hbad
      have hS1 := Lib.hid ((if_neg (by decide)).symm.trans hS.out)
      clear hS
      go_wp2_with (first | (go_at_call 251; refine (isFaultR_c _ _).mono ?_; rintro e w' ⟨rfl, rfl⟩; rw [hd1]) | (go_at_call 150; refine (isMoment_c _ _).mono ?_; rintro e w' ⟨rfl, rfl⟩; rw [hd2]) | (go_at_call 128; refine (within_c _ _ _ _).mono ?_; rintro e w' ⟨rfl, rfl⟩; rw [hd3]))
      rcases hP with ⟨h0, hn0⟩ | ⟨h0, y, hy, d0, d1, d2, d3, d4, d5, d6⟩
      · rw [hn0] at hS1
        have hS2 := Lib.hid ((if_neg (show ¬ (false = true) by decide)).symm.trans hS1.out)
        have e8 : decide (0 < k) = false := decide_eq_false (by omega)
        have e9 : decide ((0 : Int) < (k : Int)) = false := decide_eq_false (by omega)
        clear hn0 h0 hS1
        obtain ⟨v, hrun, hat⟩ := mb_lookupQ hm3 id (by unfold maxLen; omega)
        rw [hSM.out.2 id] at hat
        have hv2 : seenB id seen = v := by injection hat with e; injection e
        rw [hv2] at hS2
        have hrun0 := hrun 0
        rw [World.drewN_zero] at hrun0
        have hSM2 := Lib.hid (hPut.out D seen hSM.out id)
        clear hat hv2 hSM
        cases t
        · go_quiet (fail)
          go_wp2_with (at_mapUpdate; refine wpList_mapUpdate_own _ rfl _ _ _ 250 rfl 9 4 (string_keyed Tryz.underlying9) Tryz.underlying250 _ _ q _ rfl hm3 (by unfold maxLen; omega) _ _ _ rfl rfl (keyOf_string_mk Tryz.underlying9 (by unfold maxLen; omega)) _ [] (plainElem_bool Tryz.underlying4 true) ?_; intro w9 hown9 hg9)
          have hB9 := (below_drewN hB3 _).trans (grown_below hg9 (Nat.le_refl _) hB3.size)
          clear hrun hrun0
          go_roundw
          case rel => exact ⟨k + 1, q + 1, v, id :: seen, _, by omega, by go_num, rfl, by omega, hown9, hSM2, hB9, Lib.hid (by rw [← hS2.out, Bool.false_or])⟩
          case measure => simp [intOf]; omega
        · go_quiet (fail)
          go_wp2_with (at_mapUpdate; refine wpList_mapUpdate_own _ rfl _ _ _ 250 rfl 9 4 (string_keyed Tryz.underlying9) Tryz.underlying250 _ _ q _ rfl hm3 (by unfold maxLen; omega) _ _ _ rfl rfl (keyOf_string_mk Tryz.underlying9 (by unfold maxLen; omega)) _ [] (plainElem_bool Tryz.underlying4 true) ?_; intro w9 hown9 hg9)
          have hB9 := (below_drewN hB3 _).trans (grown_below hg9 (Nat.le_refl _) hB3.size)
          clear hrun hrun0
          go_roundw
          case rel => exact ⟨k + 1, q + 1, true, id :: seen, _, by omega, by go_num, rfl, by omega, hown9, hSM2, hB9, Lib.hid (by rw [← hS2.out, Bool.true_or])⟩
          case measure => simp [intOf]; omega


      · rw [hy] at hS1
        have hCy := Lib.hid (fun W => rpCompare_c y ⟨id, jd, who, fault, tm, wt, nt⟩ W)
        have hbv := Lib.hid (show badRp (some y) ⟨id, jd, who, fault, tm, wt, nt⟩ = decide (0 ≤ rpCf y ⟨id, jd, who, fault, tm, wt, nt⟩) from rfl)
        generalize badRp (some y) ⟨id, jd, who, fault, tm, wt, nt⟩ = bv at *
        obtain ⟨id2, jd2, who2, fault2, tm2, wt2, nt2⟩ := y
        dsimp only [rpE] at *
        generalize rpCf ⟨id2, jd2, who2, fault2, tm2, wt2, nt2⟩ ⟨id, jd, who, fault, tm, wt, nt⟩ = V at *
        have e8 : decide (0 < k) = true := decide_eq_true (by omega)
        have e9 : decide ((0 : Int) < (k : Int)) = true := decide_eq_true (by omega)
        have u1 : IntKind.i64.wrap ((k : Int) - 1) = (k : Int) - 1 := IntWalk.i64_in _ (by omega)
        have u2 : 0 ≤ (k : Int) - 1 := by omega
        have u3 : ((k : Int) - 1).toNat = k - 1 := by omega
        have u4 : (k : Int) - 1 < n := by omega
        have u5 : (1 : Int) ≤ (k : Int) := by omega
        have u6 : (k : Int) - 1 < 9223372036854775808 := by omega
        have p0 := (hB3x.cell (p := ⟨b, off + (k - 1) * 7, none⟩) hbl).trans d0
        have p1 := (hB3x.cell (p := ⟨b, off + (k - 1) * 7 + 1, none⟩) hbl).trans d1
        have p2 := (hB3x.cell (p := ⟨b, off + (k - 1) * 7 + 2, none⟩) hbl).trans d2
        have p3 := (hB3x.cell (p := ⟨b, off + (k - 1) * 7 + 3, none⟩) hbl).trans d3
        have p4 := (hB3x.cell (p := ⟨b, off + (k - 1) * 7 + 4, none⟩) hbl).trans d4
        have p5 := (hB3x.cell (p := ⟨b, off + (k - 1) * 7 + 5, none⟩) hbl).trans d5
        have p6 := (hB3x.cell (p := ⟨b, off + (k - 1) * 7 + 6, none⟩) hbl).trans d6
        have hbl6 : b < w3.heap.size := Nat.lt_of_lt_of_le hbl hB3x.size
        have lb6 := lt_of_heap hn3
        clear hy h0 d0 d1 d2 d3 d4 d5 d6
        generalize wr.heap.size = b7 at *
        go_region_held3 (fun w' => w'.cell? ⟨b, off + (k - 1) * 7, none⟩ = some (.string id2) ∧ w'.cell? ⟨b, off + (k - 1) * 7 + 1, none⟩ = some (.string jd2) ∧ w'.cell? ⟨b, off + (k - 1) * 7 + 2, none⟩ = some (.string who2) ∧ w'.cell? ⟨b, off + (k - 1) * 7 + 3, none⟩ = some (.int .i64 fault2) ∧ w'.cell? ⟨b, off + (k - 1) * 7 + 4, none⟩ = some (.int .i64 tm2) ∧ w'.cell? ⟨b, off + (k - 1) * 7 + 5, none⟩ = some (.int .i64 wt2) ∧ w'.cell? ⟨b, off + (k - 1) * 7 + 6, none⟩ = some (.bool nt2) ∧ w'.cell? ⟨b7, 0, none⟩ = some (.string id) ∧ w'.cell? ⟨b7, 1, none⟩ = some (.string jd) ∧ w'.cell? ⟨b7, 2, none⟩ = some (.string who) ∧ w'.cell? ⟨b7, 3, none⟩ = some (.int .i64 fault) ∧ w'.cell? ⟨b7, 4, none⟩ = some (.int .i64 tm) ∧ w'.cell? ⟨b7, 5, none⟩ = some (.int .i64 wt) ∧ w'.cell? ⟨b7, 6, none⟩ = some (.bool nt))
          (first | go_keep | with_reducible exact ⟨g0, g1, g2, g3, g4, g5, g6, g7, g8, g9, g10, g11, g12, g13⟩ | with_reducible exact ⟨p0, p1, p2, p3, p4, p5, p6, x0, x1, x2, x3, x4, x5, x6⟩)
          (first
            | (go_at_call 149; refine (hCy.out _).mono ?_; rintro e w8 ⟨rfl, B8, _⟩; have g0 := (B8.cell (p := ⟨b, off + (k - 1) * 7, none⟩) hbl6).trans p0; have g1 := (B8.cell (p := ⟨b, off + (k - 1) * 7 + 1, none⟩) hbl6).trans p1; have g2 := (B8.cell (p := ⟨b, off + (k - 1) * 7 + 2, none⟩) hbl6).trans p2; have g3 := (B8.cell (p := ⟨b, off + (k - 1) * 7 + 3, none⟩) hbl6).trans p3; have g4 := (B8.cell (p := ⟨b, off + (k - 1) * 7 + 4, none⟩) hbl6).trans p4; have g5 := (B8.cell (p := ⟨b, off + (k - 1) * 7 + 5, none⟩) hbl6).trans p5; have g6 := (B8.cell (p := ⟨b, off + (k - 1) * 7 + 6, none⟩) hbl6).trans p6; have g7 := (B8.cell (p := ⟨b7, 0, none⟩) lb6).trans x0; have g8 := (B8.cell (p := ⟨b7, 1, none⟩) lb6).trans x1; have g9 := (B8.cell (p := ⟨b7, 2, none⟩) lb6).trans x2; have g10 := (B8.cell (p := ⟨b7, 3, none⟩) lb6).trans x3; have g11 := (B8.cell (p := ⟨b7, 4, none⟩) lb6).trans x4; have g12 := (B8.cell (p := ⟨b7, 5, none⟩) lb6).trans x5; have g13 := (B8.cell (p := ⟨b7, 6, none⟩) lb6).trans x6))
        have hB8 := below_next (below_drewN hB3 1) B8
        have hb8 := (B8.block b7 lb6).trans hn3
        have hm8 : MB w8 w.heap.size q D := hm3.drew.kept (row := none) (grown_of_below B8) (by simp)
        have y0 := (blk_facts hb8).1 0
        clear g0 g1 g2 g3 g4 g5 g6 g7 g8 g9 g10 g11 g12 g13 p0 p1 p2 p3 p4 p5 p6 x0 x1 x2 x3 x4 x5 x6 e8 e9 B8 hB3
        by_cases hv : 0 ≤ V
        · have hr := Lib.hid (show 7 = E by rw [← hS1.out, if_pos (by rw [hbv.out]; exact decide_eq_true hv)])
          clear hS1 hbv
          go_wp2
          go_ret
          exact ⟨ret_i hr.out, hB8⟩
        · have hS2 := Lib.hid ((if_neg (by rw [hbv.out]; simpa using hv)).symm.trans hS1.out)
          clear hS1 hbv
          obtain ⟨v, hrun, hat⟩ := mb_lookupQ hm8 id (by unfold maxLen; omega)
          rw [hSM.out.2 id] at hat
          have hv2 : seenB id seen = v := by injection hat with e; injection e
          rw [hv2] at hS2
          have hrun0 := hrun 0
          rw [World.drewN_zero] at hrun0
          have hSM2 := Lib.hid (hPut.out D seen hSM.out id)
          clear hat hv2 hSM
          cases t
          · go_wp2_with (at_mapUpdate; refine wpList_mapUpdate_own _ rfl _ _ _ 250 rfl 9 4 (string_keyed Tryz.underlying9) Tryz.underlying250 _ _ q _ rfl hm8 (by unfold maxLen; omega) _ _ _ rfl rfl (keyOf_string_mk Tryz.underlying9 (by unfold maxLen; omega)) _ [] (plainElem_bool Tryz.underlying4 true) ?_; intro w9 hown9 hg9)
            have hB9 := hB8.trans (grown_below hg9 (Nat.le_refl _) hB8.size)
            clear hrun hrun0
            go_roundw
            case rel => exact ⟨k + 1, q + 1, v, id :: seen, _, by omega, by go_num, rfl, by omega, hown9, hSM2, hB9, Lib.hid (by rw [← hS2.out, Bool.false_or])⟩
            case measure => simp [intOf]; omega
          · go_wp2_with (at_mapUpdate; refine wpList_mapUpdate_own _ rfl _ _ _ 250 rfl 9 4 (string_keyed Tryz.underlying9) Tryz.underlying250 _ _ q _ rfl hm8 (by unfold maxLen; omega) _ _ _ rfl rfl (keyOf_string_mk Tryz.underlying9 (by unfold maxLen; omega)) _ [] (plainElem_bool Tryz.underlying4 true) ?_; intro w9 hown9 hg9)
            have hB9 := hB8.trans (grown_below hg9 (Nat.le_refl _) hB8.size)
            clear hrun hrun0
            go_roundw
            case rel => exact ⟨k + 1, q + 1, true, id :: seen, _, by omega, by go_num, rfl, by omega, hown9, hSM2, hB9, Lib.hid (by rw [← hS2.out, Bool.true_or])⟩
            case measure => simp [intOf]; omega


    · obtain rfl : k = n := by omega
      have hR := Lib.hid (show (if t then 6 else 0) = E by rw [← hF.out, drop_end (by rw [hl.out]; exact Nat.le_refl _), hG0.out])
      clear hF hm
      cases t
      · go_wp2
        go_ret
        exact ⟨ret_i hR.out, hB⟩
      · go_wp2
        go_ret
        exact ⟨ret_i hR.out, hB⟩
set_option maxHeartbeats 6400000 in
set_option maxRecDepth 100000 in
theorem reportsFault_c (A : Option Addr) (n c : Nat) (l : List Rp) (w : World) (h : RRp w A n l) :
    Calls Tryz.prog 145 #[.slice A n c] w fun e w' => e = .returned (.int .i64 (rpErr l)) ∧ Below w.heap.size w w' := by
  have hR := Lib.hid (fun W B => h.below (w' := W) B)
  have hbd := h.bd
  have hl := Lib.hid h.len
  have hE := Lib.hid (show rpErr l = if 500 < n then 2 else if rpSo none l ≠ 0 then rpSo none l else if (l.map Rp.id).Nodup then 0 else 6 by rw [rpErr_ref, h.len])
  have hGa := Lib.hid (fun k x (h : l[k]? = some x) => rpSo_at h)
  have hG0 := Lib.hid (fun o => show rpSo o [] = 0 from rfl)
  have hPk := Lib.hid (fun (W : World) b off k (h : RRp W (some ⟨b, off, none⟩) n l) (hk : k < n) => prevR_of h hk)
  have hTw := Lib.hid (fun A n c l W h hn => twice_c A n c l W h hn)
  generalize rpErr l = E0 at *
  generalize hEe : rpSo none l = E at *
  generalize rpSo = SG at *
  clear h
  by_cases hbig : 500 < n
  · obtain rfl : E0 = 2 := by rw [hE.out, if_pos hbig]
    clear hE
    go_enter Tryz.func145, Tryz.ntmps145
    go_wp2
    go_ret
    exact ⟨rfl, Below.refl _ _⟩
  have hE2 := Lib.hid hEe
  have hE3 := Lib.hid (show E0 = if E ≠ 0 then E else if (l.map Rp.id).Nodup then 0 else 6 by rw [hE.out, if_neg hbig])
  clear hE hEe
  go_enter Tryz.func145, Tryz.ntmps145
  go_wp2
  go_loopw [3, 11] (fun out i wr => ∃ k : Nat, k ≤ n ∧ i = .int .i64 k ∧ wr.ownsRow w.heap.size 9 1 out k ((l.take k).map fun x => Value.string x.id) ∧ Below w.heap.size w wr ∧ Hid (SG (prevRp l k) (l.drop k) = E)) (fun _ i _ => n - (intOf i).toNat)
  case atStart => exact ⟨0, Nat.zero_le _, rfl, World.ownsRow_nil _ _ _ _, Below.refl _ _, hE2⟩
  case round =>
    rename World => wr
    obtain ⟨k, hk, rfl, hown, hB, hF⟩ := hrel
    by_cases hlt : k < n
    · obtain ⟨b, off, x, rfl, hbl, hx, c0, c1, c2, c3, c4, c5, c6⟩ := RRp_at7 (hR.out _ hB) hlt
      have hP := hPk.out _ _ _ _ (hR.out _ hB) hlt
      have hS := Lib.hid ((hGa.out k x hx).symm.trans hF.out)
      have hsml := Lib.hid (fun h => key_small (s := x.id) h)
      have htk := Lib.hid (show (l.take (k + 1)).map (fun x => Value.string x.id) = (l.take k).map (fun x => Value.string x.id) ++ [Value.string x.id] by
        have h1 : l.take (k + 1) = l.take k ++ [x] := by rw [List.take_add_one, hx]; rfl
        rw [h1, List.map_append]; rfl)
      have hmw := hB.size
      clear hx hF
      obtain ⟨id, jd, who, fault, tm, wt, nt⟩ := x
      dsimp only at *
      have hr1 := Lib.hid (show rp1 ⟨id, jd, who, fault, tm, wt, nt⟩ = if keyB id = false ∨ keyB jd = false ∨ keyB who = false then 5 else if ¬ (1 ≤ fault ∧ fault ≤ 8) then 4 else if ¬ (0 ≤ tm ∧ tm ≤ 345686399999) then 1 else if ¬ (1 ≤ wt ∧ wt ≤ 2) then 1 else 0 from rfl)
      have hk1 := Lib.hid (fun W => key_c id W)
      have hk2 := Lib.hid (fun W => key_c jd W)
      have hk3 := Lib.hid (fun W => key_c who W)
      have hn0 := heap_alloc_new wr (.cells #[.string id, .string jd, .string who, .int .i64 fault, .int .i64 tm, .int .i64 wt, .bool nt] 96)
      have hBx := below_new wr (.cells #[.string id, .string jd, .string who, .int .i64 fault, .int .i64 tm, .int .i64 wt, .bool nt] 96)
      have hBn := below_next hB (below_new wr (.cells #[.string id, .string jd, .string who, .int .i64 fault, .int .i64 tm, .int .i64 wt, .bool nt] 96))
      have how0 := hown.alloc (.cells #[.string id, .string jd, .string who, .int .i64 fault, .int .i64 tm, .int .i64 wt, .bool nt] 96)
      generalize hg1 : rp1 ⟨id, jd, who, fault, tm, wt, nt⟩ = e1 at *
      clear hg1
      generalize keyB id = kb1 at *
      generalize keyB jd = kb2 at *
      generalize keyB who = kb3 at *
      have hbad := Lib.hid (fun (v : Int) (h : v ≠ 0) (he : e1 = v) => show v = E by rw [← hS.out, if_pos (by rw [he]; exact h), he])
      go_wp2_with fail
      refine (hk1.out _).mono ?_; rintro e w1 ⟨rfl, B1⟩
      have hn1 := blk_below hn0 B1
      have hB1 := below_next hBn B1
      have hB1x := below_next hBx B1
      have how1 := own_below how0 B1
      clear hn0 B1 hBn c0 c1 c2 c3 c4 c5 c6 hk1
      have x0 := (blk_facts hn1).1 0
      have x1 := (blk_facts hn1).1 1
      have x2 := (blk_facts hn1).1 2
      have x3 := (blk_facts hn1).1 3
      have x4 := (blk_facts hn1).1 4
      have x5 := (blk_facts hn1).1 5
      have x6 := (blk_facts hn1).1 6
      cases kb1
      · have hr := Lib.hid (hbad.out 5 (by decide) (by rw [hr1.out, if_pos (.inl rfl)]))
        clear hbad hr1 hS hP
        go_wp2
        go_ret
        exact ⟨ret_i (by rw [hE3.out, ← hr.out]; rfl), hB1⟩
      go_wp2_with fail
      refine (hk2.out _).mono ?_; rintro e w2 ⟨rfl, B2⟩
      have hn2 := blk_below hn1 B2
      have hB2 := below_next hB1 B2
      have hB2x := below_next hB1x B2
      have how2 := own_below how1 B2
      clear hn1 B2 hB1 x0 x1 x2 x3 x4 x5 x6 hk2
      have x0 := (blk_facts hn2).1 0
      have x1 := (blk_facts hn2).1 1
      have x2 := (blk_facts hn2).1 2
      have x3 := (blk_facts hn2).1 3
      have x4 := (blk_facts hn2).1 4
      have x5 := (blk_facts hn2).1 5
      have x6 := (blk_facts hn2).1 6
      cases kb2
      · have hr := Lib.hid (hbad.out 5 (by decide) (by rw [hr1.out, if_pos (.inr (.inl rfl))]))
        clear hbad hr1 hS hP
        go_wp2
        go_ret
        exact ⟨ret_i (by rw [hE3.out, ← hr.out]; rfl), hB2⟩
      go_wp2_with fail
      refine (hk3.out _).mono ?_; rintro e w3 ⟨rfl, B3⟩
      have hn3 := blk_below hn2 B3
      have hB3 := below_next hB2 B3
      have hB3x := below_next hB2x B3
      have how3 := own_below how2 B3
      clear hn2 B3 hB2 x0 x1 x2 x3 x4 x5 x6 hk3
      have x0 := (blk_facts hn3).1 0
      have x1 := (blk_facts hn3).1 1
      have x2 := (blk_facts hn3).1 2
      have x3 := (blk_facts hn3).1 3
      have x4 := (blk_facts hn3).1 4
      have x5 := (blk_facts hn3).1 5
      have x6 := (blk_facts hn3).1 6
      cases kb3
      · have hr := Lib.hid (hbad.out 5 (by decide) (by rw [hr1.out, if_pos (.inr (.inr rfl))]))
        clear hbad hr1 hS hP
        go_wp2
        go_ret
        exact ⟨ret_i (by rw [hE3.out, ← hr.out]; rfl), hB3⟩
      have hr2 := Lib.hid (hr1.out.trans (if_neg (by simp)))
      have hsz := hsml.out (by first | rfl | trivial)
      clear hr1 hsml
      by_cases hf : 1 ≤ fault ∧ fault ≤ 8
      rotate_left
      · have hr := Lib.hid (hbad.out 4 (by decide) (by rw [hr2.out, if_pos hf]))
        have hd : decide (1 ≤ fault ∧ fault ≤ 8) = false := decide_eq_false hf
        clear hbad hr2 hS hP hf
        go_wp2_with (go_at_call 115; refine (in_c _ _ _ _).mono ?_; rintro e w' ⟨rfl, rfl⟩; rw [hd])
        go_ret
        exact ⟨ret_i (by rw [hE3.out, ← hr.out]; rfl), hB3⟩
      have hd1 : decide (1 ≤ fault ∧ fault ≤ 8) = true := decide_eq_true hf
      have hr3 := Lib.hid (hr2.out.trans (if_neg (by simpa using hf)))
      clear hr2 hf
      by_cases hf : 0 ≤ tm ∧ tm ≤ 345686399999
      rotate_left
      · have hr := Lib.hid (hbad.out 1 (by decide) (by rw [hr3.out, if_pos hf]))
        have hd : (if 0 ≤ tm ∧ tm ≤ 345686399999 then (0 : Int) else 1) = 1 := if_neg hf
        clear hbad hr3 hS hP hf
        go_wp2_with (first | (go_at_call 115; refine (in_c _ _ _ _).mono ?_; rintro e w' ⟨rfl, rfl⟩; rw [hd1]) | (go_at_call 176; refine (momentFault_c _ _).mono ?_; rintro e w' ⟨rfl, rfl⟩; rw [hd]))
        go_ret
        exact ⟨ret_i (by rw [hE3.out, ← hr.out]; rfl), hB3⟩
      have hd2 : (if 0 ≤ tm ∧ tm ≤ 345686399999 then (0 : Int) else 1) = 0 := if_pos hf
      have hr4 := Lib.hid (hr3.out.trans (if_neg (by simpa using hf)))
      clear hr3 hf
      by_cases hf : 1 ≤ wt ∧ wt ≤ 2
      rotate_left
      · have hr := Lib.hid (hbad.out 1 (by decide) (by rw [hr4.out, if_pos hf]))
        have hd : decide (1 ≤ wt ∧ wt ≤ 2) = false := decide_eq_false hf
        clear hbad hr4 hS hP hf
        go_wp2_with (first | (go_at_call 115; refine (in_c _ _ _ _).mono ?_; rintro e w' ⟨rfl, rfl⟩; rw [hd1]) | (go_at_call 176; refine (momentFault_c _ _).mono ?_; rintro e w' ⟨rfl, rfl⟩; rw [hd2]) | (go_at_call 115; refine (in_c _ _ _ _).mono ?_; rintro e w' ⟨rfl, rfl⟩; rw [hd]))
        go_ret
        exact ⟨ret_i (by rw [hE3.out, ← hr.out]; rfl), hB3⟩
      have hd3 : decide (1 ≤ wt ∧ wt ≤ 2) = true := decide_eq_true hf
      obtain rfl : e1 = 0 := hr4.out.trans (if_neg (by simpa using hf))
      clear hr4 hf hbad
      have hS1 := Lib.hid ((if_neg (by decide)).symm.trans hS.out)
      clear hS
      go_wp2_with (first | (go_at_call 115; refine (in_c _ _ _ _).mono ?_; rintro e w' ⟨rfl, rfl⟩; rw [hd1]) | (go_at_call 176; refine (momentFault_c _ _).mono ?_; rintro e w' ⟨rfl, rfl⟩; rw [hd2]) | (go_at_call 115; refine (in_c _ _ _ _).mono ?_; rintro e w' ⟨rfl, rfl⟩; rw [hd3]))
      rcases hP with ⟨h0, hn0⟩ | ⟨h0, y, hy, d0, d1, d2, d3, d4, d5, d6⟩
      · rw [hn0] at hS1
        have hS2 := Lib.hid ((if_neg (show ¬ (false = true) by decide)).symm.trans hS1.out)
        have e8 : decide (0 < k) = false := decide_eq_false (by omega)
        have e9 : decide ((0 : Int) < (k : Int)) = false := decide_eq_false (by omega)
        clear hn0 h0 hS1
        have hB3q := hB3.size
        have how3q := fun q => own_below how3 (below_drewN (Below.refl _ _) q)
        go_quiet (fail)
        go_wp2_with (at_builtin; refine wpList_app rfl (.tmp 62) (.tmp 65) 97 rfl Tryz.underlying97 info_strS rfl (by omega) (by omega) (how3q _) rfl rfl (by first | rfl | (simp; done)) rfl (by simp [Value.oneCell']) (by omega) hB3q ?_; intro v9 w9 hown9 hg9)
        have H := Lib.hid (And.intro (show w9.ownsRow w.heap.size 9 1 v9 (k + 1) ((l.take (k + 1)).map fun x => Value.string x.id) by rw [htk.out]; exact hown9) (below_own (below_drewN hB3 _) (how3q _) hg9 hB3q (Nat.le_refl _)))
        clear hown9 hg9
        go_roundw
        case rel => exact ⟨k + 1, by omega, by go_num, H.out.1, H.out.2, hS2⟩
        case measure => simp [intOf]; omega


      · rw [hy] at hS1
        have hCy := Lib.hid (fun W => byReport_c y ⟨id, jd, who, fault, tm, wt, nt⟩ W)
        have hbv := Lib.hid (show badRp (some y) ⟨id, jd, who, fault, tm, wt, nt⟩ = decide (0 ≤ rpCf y ⟨id, jd, who, fault, tm, wt, nt⟩) from rfl)
        generalize badRp (some y) ⟨id, jd, who, fault, tm, wt, nt⟩ = bv at *
        obtain ⟨id2, jd2, who2, fault2, tm2, wt2, nt2⟩ := y
        dsimp only [rpE] at *
        generalize rpCf ⟨id2, jd2, who2, fault2, tm2, wt2, nt2⟩ ⟨id, jd, who, fault, tm, wt, nt⟩ = V at *
        have e8 : decide (0 < k) = true := decide_eq_true (by omega)
        have e9 : decide ((0 : Int) < (k : Int)) = true := decide_eq_true (by omega)
        have u1 : IntKind.i64.wrap ((k : Int) - 1) = (k : Int) - 1 := IntWalk.i64_in _ (by omega)
        have u2 : 0 ≤ (k : Int) - 1 := by omega
        have u3 : ((k : Int) - 1).toNat = k - 1 := by omega
        have u4 : (k : Int) - 1 < n := by omega
        have u5 : (1 : Int) ≤ (k : Int) := by omega
        have u6 : (k : Int) - 1 < 9223372036854775808 := by omega
        have p0 := (hB3x.cell (p := ⟨b, off + (k - 1) * 7, none⟩) hbl).trans d0
        have p1 := (hB3x.cell (p := ⟨b, off + (k - 1) * 7 + 1, none⟩) hbl).trans d1
        have p2 := (hB3x.cell (p := ⟨b, off + (k - 1) * 7 + 2, none⟩) hbl).trans d2
        have p3 := (hB3x.cell (p := ⟨b, off + (k - 1) * 7 + 3, none⟩) hbl).trans d3
        have p4 := (hB3x.cell (p := ⟨b, off + (k - 1) * 7 + 4, none⟩) hbl).trans d4
        have p5 := (hB3x.cell (p := ⟨b, off + (k - 1) * 7 + 5, none⟩) hbl).trans d5
        have p6 := (hB3x.cell (p := ⟨b, off + (k - 1) * 7 + 6, none⟩) hbl).trans d6
        have hbl6 : b < w3.heap.size := Nat.lt_of_lt_of_le hbl hB3x.size
        have lb6 := lt_of_heap hn3
        clear hy h0 d0 d1 d2 d3 d4 d5 d6
        generalize wr.heap.size = b7 at *
        go_region_held3 (fun w' => w'.cell? ⟨b, off + (k - 1) * 7, none⟩ = some (.string id2) ∧ w'.cell? ⟨b, off + (k - 1) * 7 + 1, none⟩ = some (.string jd2) ∧ w'.cell? ⟨b, off + (k - 1) * 7 + 2, none⟩ = some (.string who2) ∧ w'.cell? ⟨b, off + (k - 1) * 7 + 3, none⟩ = some (.int .i64 fault2) ∧ w'.cell? ⟨b, off + (k - 1) * 7 + 4, none⟩ = some (.int .i64 tm2) ∧ w'.cell? ⟨b, off + (k - 1) * 7 + 5, none⟩ = some (.int .i64 wt2) ∧ w'.cell? ⟨b, off + (k - 1) * 7 + 6, none⟩ = some (.bool nt2) ∧ w'.cell? ⟨b7, 0, none⟩ = some (.string id) ∧ w'.cell? ⟨b7, 1, none⟩ = some (.string jd) ∧ w'.cell? ⟨b7, 2, none⟩ = some (.string who) ∧ w'.cell? ⟨b7, 3, none⟩ = some (.int .i64 fault) ∧ w'.cell? ⟨b7, 4, none⟩ = some (.int .i64 tm) ∧ w'.cell? ⟨b7, 5, none⟩ = some (.int .i64 wt) ∧ w'.cell? ⟨b7, 6, none⟩ = some (.bool nt))
          (first | go_keep | with_reducible exact ⟨g0, g1, g2, g3, g4, g5, g6, g7, g8, g9, g10, g11, g12, g13⟩ | with_reducible exact ⟨p0, p1, p2, p3, p4, p5, p6, x0, x1, x2, x3, x4, x5, x6⟩)
          (first
            | (go_at_call 250; refine (hCy.out _).mono ?_; rintro e w8 ⟨rfl, B8, _⟩; have g0 := (B8.cell (p := ⟨b, off + (k - 1) * 7, none⟩) hbl6).trans p0; have g1 := (B8.cell (p := ⟨b, off + (k - 1) * 7 + 1, none⟩) hbl6).trans p1; have g2 := (B8.cell (p := ⟨b, off + (k - 1) * 7 + 2, none⟩) hbl6).trans p2; have g3 := (B8.cell (p := ⟨b, off + (k - 1) * 7 + 3, none⟩) hbl6).trans p3; have g4 := (B8.cell (p := ⟨b, off + (k - 1) * 7 + 4, none⟩) hbl6).trans p4; have g5 := (B8.cell (p := ⟨b, off + (k - 1) * 7 + 5, none⟩) hbl6).trans p5; have g6 := (B8.cell (p := ⟨b, off + (k - 1) * 7 + 6, none⟩) hbl6).trans p6; have g7 := (B8.cell (p := ⟨b7, 0, none⟩) lb6).trans x0; have g8 := (B8.cell (p := ⟨b7, 1, none⟩) lb6).trans x1; have g9 := (B8.cell (p := ⟨b7, 2, none⟩) lb6).trans x2; have g10 := (B8.cell (p := ⟨b7, 3, none⟩) lb6).trans x3; have g11 := (B8.cell (p := ⟨b7, 4, none⟩) lb6).trans x4; have g12 := (B8.cell (p := ⟨b7, 5, none⟩) lb6).trans x5; have g13 := (B8.cell (p := ⟨b7, 6, none⟩) lb6).trans x6))
        have hB8 := below_next (below_drewN hB3 1) B8
        have hb8 := (B8.block b7 lb6).trans hn3
        have how8 := own_below how3.drew B8
        have y0 := (blk_facts hb8).1 0
        clear g0 g1 g2 g3 g4 g5 g6 g7 g8 g9 g10 g11 g12 g13 p0 p1 p2 p3 p4 p5 p6 x0 x1 x2 x3 x4 x5 x6 e8 e9 B8 hB3
        by_cases hv : 0 ≤ V
        · have hr := Lib.hid (show 7 = E by rw [← hS1.out, if_pos (by rw [hbv.out]; exact decide_eq_true hv)])
          clear hS1 hbv
          go_wp2
          go_ret
          exact ⟨ret_i (by rw [hE3.out, ← hr.out]; rfl), hB8⟩
        · have hS2 := Lib.hid ((if_neg (by rw [hbv.out]; simpa using hv)).symm.trans hS1.out)
          clear hS1 hbv
          go_wp2_with (at_builtin; refine wpList_app rfl (.tmp 62) (.tmp 65) 97 rfl Tryz.underlying97 info_strS rfl (by omega) (by omega) how8 rfl rfl (by first | rfl | (simp; done)) rfl (by simp [Value.oneCell']) (by omega) hB8.size ?_; intro v9 w9 hown9 hg9)
          have H := Lib.hid (And.intro (show w9.ownsRow w.heap.size 9 1 v9 (k + 1) ((l.take (k + 1)).map fun x => Value.string x.id) by rw [htk.out]; exact hown9) (below_own hB8 how8 hg9 hB8.size (Nat.le_refl _)))
          clear hown9 hg9
          go_roundw
          case rel => exact ⟨k + 1, by omega, by go_num, H.out.1, H.out.2, hS2⟩
          case measure => simp [intOf]; omega


    · obtain rfl : k = n := by omega
      have hR0 := Lib.hid (show E = 0 by rw [← hF.out, drop_end (by rw [hl.out]; exact Nat.le_refl _), hG0.out])
      obtain ⟨A3, c3, rfl⟩ := own_shape hown
      have hfull : l.take k = l := List.take_of_length_le (by rw [hl.out]; exact Nat.le_refl _)
      rw [hfull] at hown
      have hrs : RS 9 wr A3 k (l.map Rp.id) := R1.of_own (by rw [List.map_map]; exact hown) (by omega)
      clear hfull hF
      go_wp2_with fail
      refine (hTw.out A3 k c3 (l.map Rp.id) wr hrs (by omega)).mono ?_; rintro e w5 ⟨rfl, B5⟩
      have hB5 := below_next hB B5
      by_cases hn : (l.map Rp.id).Nodup
      · have hd : (!decide (l.map Rp.id).Nodup) = false := by simp [hn]
        rw [hd]
        have hn' := Lib.hid hn
        clear hn hd
        go_wp2
        go_ret
        exact ⟨ret_i (by rw [hE3.out, hR0.out, if_neg (by decide), if_pos hn'.out]), hB5⟩
      · have hd : (!decide (l.map Rp.id).Nodup) = true := by simp [hn]
        rw [hd]
        have hn' := Lib.hid hn
        clear hn hd
        go_wp2
        go_ret
        exact ⟨ret_i (by rw [hE3.out, hR0.out, if_neg (by decide), if_neg hn'.out]), hB5⟩
end Go.Proofs.YtklggnglaeagpaaGreatDoor
