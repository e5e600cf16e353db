import Derived.Test.YtklggnglaeagpaaGreatDoorSigD
import Derived.Test.YtklggnglaeagpaaGreatDoorSortH
import Derived.Test.YtklggnglaeagpaaGreatDoorRankM
import Derived.Test.YtklggnglaeagpaaGreatDoorRows2
import Derived.Test.YtklggnglaeagpaaGreatDoorRegAp
import Derived.Test.YtklggnglaeagpaaGreatDoorMovedM
import Derived.Test.YtklggnglaeagpaaGreatDoorVerdM
import Derived.BigRegion
import Derived.BigGuardPart
import Derived.Deep.QuietTactic
import Derived.BigQuiet
/- slices.SortFunc of pairs by their names; the two comparisons. Printed by wip/mkprs.py. -/
namespace Go.Proofs.YtklggnglaeagpaaGreatDoor
open Go.RowKit Go.Shelf Go.Lib Go.Sort
set_option linter.unusedVariables false

def prCf (x y : Pr) : Int := cmpB x.name y.name
instance prInhS : Inhabited Pr := ⟨⟨⟨#[]⟩, ⟨#[]⟩⟩⟩
theorem info_prS : (Tryz.prog.info? 172).map (fun i => (i.zero, i.size, i.bytes)) = some (some (.agg #[.string ⟨#[]⟩, .string ⟨#[]⟩]), 2, 32) := by kernel_rfl
theorem prDf_iff (x y : Pr) : ltOf prCf x y = true ↔ prCf x y < 0 := by
  have e : ltOf prCf x y = decide (prCf x y < 0) := rfl
  rw [e, decide_eq_true_iff]
theorem prDf_no (x y : Pr) : ltOf prCf x y = false ↔ ¬ prCf x y < 0 := by
  rw [← prDf_iff, Bool.not_eq_true]
theorem prDfSWO : SWO (ltOf prCf) := by
  refine ⟨fun x => ?_, fun x y z => ?_, fun x y z => ?_⟩
  · rw [prDf_no]
    have h := (@cmpB_zero x.name x.name).2 rfl
    unfold prCf
    omega
  · rw [prDf_iff, prDf_iff, prDf_iff]
    exact fun h1 h2 => cmpB_trans h1 h2
  · rw [prDf_no, prDf_no, prDf_no]
    unfold prCf
    intro h1 h2 h3
    by_cases e1 : x.name = y.name
    · rw [e1] at h3
      exact h2 h3
    · by_cases e2 : y.name = z.name
      · rw [← e2] at h3
        exact h1 h3
      · have a1 : cmpB x.name y.name ≠ 0 := fun h => e1 (cmpB_zero.1 h)
        have a2 : cmpB y.name z.name ≠ 0 := fun h => e2 (cmpB_zero.1 h)
        have b1 : cmpB y.name x.name < 0 := cmpB_neg.2 (by omega)
        have b2 : cmpB z.name y.name < 0 := cmpB_neg.2 (by omega)
        have b3 := cmpB_neg.1 (cmpB_trans b2 b1)
        omega
theorem prMoved_c (x y : Pr) (W : World) : Calls Tryz.prog 214 (#[.agg (prE x).toArray, .agg (prE y).toArray] ++ #[]) W fun e w' => e = .returned (.int .i64 (prCf x y)) ∧ Below W.heap.size W w' ∧ W.drawn ≤ w'.drawn := by
  have hS := Lib.hid (fun W => show Calls Tryz.prog 170 #[.string x.name, .string y.name] W fun e w' => e = .returned (.int .i64 (prCf x y)) ∧ W = w' from (Tryz.strings_Compare x.name y.name W).mono fun _ _ ⟨h1, h2⟩ => ⟨h1, h2.symm⟩)
  generalize prCf x y = u at *
  obtain ⟨a, b⟩ := x
  obtain ⟨a', b'⟩ := y
  dsimp only [prE] at *
  have hb0 := heap_alloc_new W (.cells #[.string a, .string b] 172)
  have hb1 := blk_alloc hb0 (.cells #[.string a', .string b'] 172)
  have hb2 := heap_alloc_new (W.alloc (.cells #[.string a, .string b] 172)) (.cells #[.string a', .string b'] 172)
  rw [alloc_sizeS] at hb2
  have hBB := below_box (below_box (Below.refl ((W.alloc (.cells #[.string a, .string b] 172)).alloc (.cells #[.string a', .string b'] 172)).heap.size _))
  have hD : ((W.alloc (.cells #[.string a, .string b] 172)).alloc (.cells #[.string a', .string b'] 172)).drawn = W.drawn := rfl
  have z0 := (blk_facts hb1).1 0
  have y0 := (blk_facts hb2).1 0
  go_enter Tryz.func214, Tryz.ntmps214
  go_wp2_with (go_at_call 170; refine (hS.out _).mono ?_; rintro e w' ⟨rfl, rfl⟩)
  go_ret
  exact ⟨rfl, hBB, by rw [hD]; exact Nat.le_refl _⟩
theorem prMovedOf_c (x y : Pr) (W : World) : Calls Tryz.prog 216 (#[.agg (prE x).toArray, .agg (prE y).toArray] ++ #[]) W fun e w' => e = .returned (.int .i64 (prCf x y)) ∧ Below W.heap.size W w' ∧ W.drawn ≤ w'.drawn := by
  have hS := Lib.hid (fun W => show Calls Tryz.prog 170 #[.string x.name, .string y.name] W fun e w' => e = .returned (.int .i64 (prCf x y)) ∧ W = w' from (Tryz.strings_Compare x.name y.name W).mono fun _ _ ⟨h1, h2⟩ => ⟨h1, h2.symm⟩)
  generalize prCf x y = u at *
  obtain ⟨a, b⟩ := x
  obtain ⟨a', b'⟩ := y
  dsimp only [prE] at *
  have hb0 := heap_alloc_new W (.cells #[.string a, .string b] 172)
  have hb1 := blk_alloc hb0 (.cells #[.string a', .string b'] 172)
  have hb2 := heap_alloc_new (W.alloc (.cells #[.string a, .string b] 172)) (.cells #[.string a', .string b'] 172)
  rw [alloc_sizeS] at hb2
  have hBB := below_box (below_box (Below.refl ((W.alloc (.cells #[.string a, .string b] 172)).alloc (.cells #[.string a', .string b'] 172)).heap.size _))
  have hD : ((W.alloc (.cells #[.string a, .string b] 172)).alloc (.cells #[.string a', .string b'] 172)).drawn = W.drawn := rfl
  have z0 := (blk_facts hb1).1 0
  have y0 := (blk_facts hb2).1 0
  go_enter Tryz.func216, Tryz.ntmps216
  go_wp2_with (go_at_call 170; refine (hS.out _).mono ?_; rintro e w' ⟨rfl, rfl⟩)
  go_ret
  exact ⟨rfl, hBB, by rw [hD]; exact Nat.le_refl _⟩
/-- sorted as they are -/
def PrSorted (l l' : List Pr) : Prop := l'.Perm l ∧ l'.Pairwise fun x y => ltOf prCf y x = false
theorem prInsqS0_c (p : Option Addr) (cap : Nat) (fv : Value) (w : World) :
    Calls Tryz.prog 363 #[.slice p 0 cap, .int .i64 0, .int .i64 0, fv] w fun e w' => e = .returned (.tuple #[]) ∧ w' = w := by
  go_enter Tryz.func363, Tryz.ntmps363
  go_wp2
  refine wp_loop_rounds 1 ?_
  rw [rounds_succ]
  go_wp2
  go_end0
  exact ⟨rfl, rfl⟩
set_option maxHeartbeats 1600000 in
set_option maxRecDepth 100000 in
theorem prFuncS0_c (p : Option Addr) (cap : Nat) (fv : Value) (w : World) :
    Calls Tryz.prog 213 #[.slice p 0 cap, fv] w fun e w' => e = .returned (.tuple #[]) ∧ w' = w := by
  have hS : ∀ lim : Int, Calls Tryz.prog 284 #[.slice p 0 cap, .int .i64 0, .int .i64 0, .int .i64 lim, fv] w fun e w' => e = .returned (.tuple #[]) ∧ w' = w := by
    intro lim
    have hI := Lib.hid (prInsqS0_c p cap fv w)
    go_enter Tryz.func284, Tryz.ntmps284
    go_wp2
    refine wp_loop_rounds 1 ?_
    rw [rounds_succ]
    go_wp2_with fail
    refine hI.out.mono ?_; rintro e w' ⟨rfl, rfl⟩
    go_wp2
    (try simp only [Exit.inBlock, Exit.then]); refine bodyPost_ret (results_none rfl _ _ _) rfl ?_
    exact ⟨rfl, rfl⟩
  have hBi := Lib.hid (fun W => Tryz.bits_Len 0 W (by omega) (by omega))
  go_enter Tryz.func213, Tryz.ntmps213
  go_wp2_with fail
  refine (hBi.out _).mono ?_; rintro e w' ⟨rfl, rfl⟩
  go_wp2_with fail
  refine (hS _).mono ?_; rintro e w' ⟨rfl, rfl⟩
  go_wp2
  go_end0
  exact ⟨rfl, rfl⟩
theorem sortFPr_c (F : Nat) (eg : ∀ args w, (callFunc F args).run Tryz.prog w = .ok (.enter F args) w) (hF : ∀ (x y : Pr) (W : World), Calls Tryz.prog F #[.agg (prE x).toArray, .agg (prE y).toArray] W fun e w' => e = .returned (.int .i64 (prCf x y)) ∧ Below W.heap.size W w' ∧ W.drawn ≤ w'.drawn) (l : List Pr) (w : World) (base n : Nat) (u : Value) (hown : w.ownsRow base 172 2 u n (l.flatMap prE)) (hn : n ≤ 1000) :
    Calls Tryz.prog 213 #[u, .func (.func F) #[] #[]] w fun e w' => e = .returned (.tuple #[]) ∧ ∃ l', w'.ownsRow base 172 2 u n (l'.flatMap prE) ∧ PrSorted l l' ∧ w.grownBy w' u.ownBlock := by
  obtain ⟨A, c, rfl⟩ := own_shape hown
  have hlen := own_len prE_len (by decide) hown
  rcases Nat.eq_zero_or_pos n with h0 | hp
  · subst h0
    have hl : l = [] := List.eq_nil_of_length_eq_zero hlen
    subst hl
    refine (prFuncS0_c A c _ w).mono ?_
    rintro e w' ⟨rfl, rfl⟩
    exact ⟨rfl, [], hown, ⟨List.Perm.refl _, List.Pairwise.nil⟩, grown_refl _ _⟩
  · obtain ⟨gb, rfl, hgb⟩ := own_someN hown hp
    have hH := holdsK_own prE 2 prE_len (by omega) hown
    have hsz : l.toArray.size = n := by simpa using hlen
    have hC : CmpLays Tryz.prog F #[] prE 2 prCf gb 0 l.toArray.size w := fun m os dk hdk x y => (hF x y _).mono fun _ _ ⟨he, hB, hD⟩ => ⟨he, grow_of hB hD⟩
    have h := AnyQ.slices_SortFunc Tryz.laysQP 2 Tryz.isAgg172 Tryz.sizeOf172 prE prE_len (fun x v hv => by simp [prE] at hv; rcases hv with rfl | rfl <;> rfl) prCf prDfSWO F #[] gb 0 c l.toArray w eg hC hH (hown.lt gb rfl).2 (by rw [hsz]; omega)
    rw [hsz] at h
    refine h.mono ?_
    rintro e w' ⟨rfl, d', m, os, hP, hS, rfl⟩
    obtain ⟨p1, p2, p3⟩ := hP
    have hz : d'.toList.length = n := by rw [Array.length_toList, p1, hsz]
    obtain ⟨h1, h2⟩ := own_sortedK prE 2 prE_len (by omega) hown (l' := d'.toList) hz m os
    rw [Array.toArray_toList] at h1 h2
    refine ⟨rfl, d'.toList, h1, ⟨?_, ?_⟩, h2⟩
    · have e1 : d'.extract 0 n = d' := by rw [← hsz, ← p1]; exact Array.extract_size
      have e2 : l.toArray.extract 0 n = l.toArray := by rw [← hsz]; exact Array.extract_size
      rw [e1, e2] at p3
      exact p3
    · rw [List.pairwise_iff_getElem]
      intro i j hi hj hij
      have hj' : j < d'.size := by simpa using hj
      have h9 := hS i j (Nat.zero_le _) hij (by rw [p1, hsz] at hj'; exact hj')
      rw [getElem!_pos d' i (by omega), getElem!_pos d' j hj'] at h9
      exact h9
theorem sorted_uniqP : ∀ {a b : List Pr}, a.Perm b → (a.Pairwise fun x y => prCf x y < 0) → (b.Pairwise fun x y => ltOf prCf y x = false) → a = b
  | [], b, h, _, _ => h.nil_eq
  | x :: a, [], h, _, _ => absurd h.length_eq (by simp)
  | x :: a, y :: b, h, h1, h2 => by
    rw [List.pairwise_cons] at h1 h2
    have e : x = y := by
      rcases List.mem_cons.1 (h.subset (List.mem_cons_self ..)) with e | hm
      · exact e
      · have h3 := h2.1 x hm
        rcases List.mem_cons.1 (h.symm.subset (List.mem_cons_self ..)) with e | hm2
        · exact e.symm
        · exact absurd (h1.1 y hm2) ((prDf_no x y).1 h3)
    subst e
    rw [sorted_uniqP ((List.perm_cons x).1 h) h1.2 h2.2]
/-- of names that differ, sorted is strictly sorted -/
theorem prStrict {l : List Pr} (hn : (l.map Pr.name).Nodup) (hs : l.Pairwise fun x y => ltOf prCf y x = false) : l.Pairwise fun x y => prCf x y < 0 := by
  rw [List.Nodup, List.pairwise_map] at hn
  refine (hn.and hs).imp fun {x y} ⟨h1, h2⟩ => ?_
  have h3 := (prDf_no y x).1 h2
  unfold prCf at *
  have h4 : cmpB x.name y.name ≠ 0 := fun h => h1 (cmpB_zero.1 h)
  have h5 : ¬ 0 < cmpB x.name y.name := fun h => h3 (cmpB_neg.2 h)
  omega

end Go.Proofs.YtklggnglaeagpaaGreatDoor

/- Ranks that moved: two ways to tell them, sorted they are the same. Plain. -/
namespace Go.Proofs.YtklggnglaeagpaaGreatDoor
open Go.RowKit Go.Lib Go.Sort
set_option linter.unusedVariables false

def wasF (v : List Rk) (s : ByteArray) : Option Int := v.foldl (fun f x => if x.who = s then some x.rank else f) none
theorem wasF_keep (s : ByteArray) : ∀ (v : List Rk) (f : Option Int), (∀ y ∈ v, y.who ≠ s) → v.foldl (fun f x => if x.who = s then some x.rank else f) f = f
  | [], _, _ => rfl
  | y :: r, f, h => by
    rw [List.foldl_cons, if_neg (h y (by simp))]
    exact wasF_keep s r f fun z hz => h z (by simp [hz])
theorem wasF_memF {v : List Rk} (hn : (v.map Rk.who).Nodup) {x : Rk} (hx : x ∈ v) (f : Option Int) : v.foldl (fun f y => if y.who = x.who then some y.rank else f) f = some x.rank := by
  induction v generalizing f with
  | nil => cases hx
  | cons y r ih =>
    rw [List.map_cons, List.nodup_cons] at hn
    rw [List.foldl_cons]
    rcases List.mem_cons.1 hx with rfl | hx
    · rw [if_pos rfl]
      exact wasF_keep _ r _ fun z hz he => hn.1 (he ▸ List.mem_map_of_mem hz)
    · exact ih hn.2 hx _
theorem wasF_mem {v : List Rk} (hn : (v.map Rk.who).Nodup) {x : Rk} (hx : x ∈ v) : wasF v x.who = some x.rank := wasF_memF hn hx none
theorem wasF_of {v : List Rk} (hn : (v.map Rk.who).Nodup) {s : ByteArray} {r : Int} (h : wasF v s = some r) : ∃ x ∈ v, x.who = s ∧ x.rank = r := by
  by_cases he : ∃ x ∈ v, x.who = s
  · obtain ⟨x, hx, rfl⟩ := he
    rw [wasF_mem hn hx] at h
    exact ⟨x, hx, rfl, Option.some.inj h⟩
  · have h2 : wasF v s = none := wasF_keep s v none fun y hy e => he ⟨y, hy, e⟩
    rw [h2] at h; cases h
def lastK (l : List Rk) : Int := l.foldl (fun v x => max v (x.rank + 1)) 1
theorem lastF_ge : ∀ (l : List Rk) (v : Int), v ≤ l.foldl (fun v x => max v (x.rank + 1)) v ∧ ∀ x ∈ l, x.rank < l.foldl (fun v x => max v (x.rank + 1)) v
  | [], v => ⟨Int.le_refl _, fun x hx => by cases hx⟩
  | y :: r, v => by
    obtain ⟨h1, h2⟩ := lastF_ge r (max v (y.rank + 1))
    rw [List.foldl_cons]
    refine ⟨by omega, fun x hx => ?_⟩
    rcases List.mem_cons.1 hx with rfl | hx
    · omega
    · exact h2 x hx
theorem lastF_le : ∀ (l : List Rk) (v : Int), v ≤ 301 → (∀ x ∈ l, x.rank ≤ 300) → l.foldl (fun v x => max v (x.rank + 1)) v ≤ 301
  | [], v, h, _ => h
  | y :: r, v, h, hx => by
    have := hx y (List.mem_cons_self ..)
    rw [List.foldl_cons]
    exact lastF_le r _ (by omega) fun z hz => hx z (List.mem_cons_of_mem _ hz)
theorem lastF_at {l : List Rk} {k : Nat} {x : Rk} (v : Int) (h : l[k]? = some x) : (l.drop k).foldl (fun v x => max v (x.rank + 1)) v = (l.drop (k + 1)).foldl (fun v x => max v (x.rank + 1)) (max v (x.rank + 1)) := by rw [drop_at h, List.foldl_cons]
def plcK (t r : Int) : Int := if r = 0 then t else r
def mvOne (t : Int) (o : Option Int) (x : Rk) : List Pr := match o with
  | some r => if r ≠ x.rank then [⟨x.who, itoaS (plcK t r - plcK t x.rank)⟩] else []
  | none => []
def mvP (t : Int) (la l : List Rk) : List Pr := l.flatMap fun x => mvOne t (wasF la x.who) x
def mvTwo (t : Int) (x y : Rk) : List Pr := if x.who = y.who ∧ plcK t x.rank - plcK t y.rank ≠ 0 then [⟨x.who, itoaS (plcK t x.rank - plcK t y.rank)⟩] else []
def mvIn (t : Int) (x : Rk) (l : List Rk) : List Pr := l.flatMap (mvTwo t x)
def mvR (t : Int) (l lb : List Rk) : List Pr := l.flatMap fun x => mvIn t x lb
theorem mvP_at {t : Int} {la l : List Rk} {k : Nat} {x : Rk} (h : l[k]? = some x) : mvP t la (l.drop k) = mvOne t (wasF la x.who) x ++ mvP t la (l.drop (k + 1)) := by unfold mvP; rw [drop_at h, List.flatMap_cons]
theorem mvIn_at {t : Int} {x y : Rk} {l : List Rk} {k : Nat} (h : l[k]? = some y) : mvIn t x (l.drop k) = mvTwo t x y ++ mvIn t x (l.drop (k + 1)) := by unfold mvIn; rw [drop_at h, List.flatMap_cons]
theorem mvR_at {t : Int} {l lb : List Rk} {k : Nat} {x : Rk} (h : l[k]? = some x) : mvR t (l.drop k) lb = mvIn t x lb ++ mvR t (l.drop (k + 1)) lb := by unfold mvR; rw [drop_at h, List.flatMap_cons]
theorem plc_ne {t a b : Int} (ha : 0 ≤ a ∧ a < t) (hb : 0 ≤ b ∧ b < t) : plcK t a - plcK t b ≠ 0 ↔ a ≠ b := by
  unfold plcK
  split <;> split <;> omega
theorem mvP_mem {t : Int} {la lb : List Rk} (hn : (la.map Rk.who).Nodup) (p : Pr) : p ∈ mvP t la lb ↔ ∃ x ∈ la, ∃ y ∈ lb, x.who = y.who ∧ x.rank ≠ y.rank ∧ p = ⟨x.who, itoaS (plcK t x.rank - plcK t y.rank)⟩ := by
  unfold mvP
  rw [List.mem_flatMap]
  constructor
  · rintro ⟨y, hy, hp⟩
    unfold mvOne at hp
    split at hp
    · rename_i r hr
      obtain ⟨x, hx, e1, rfl⟩ := wasF_of hn hr
      split at hp
      · rename_i hne
        refine ⟨x, hx, y, hy, e1, hne, ?_⟩
        rw [List.mem_singleton.1 hp, e1]
      · cases hp
    · cases hp
  · rintro ⟨x, hx, y, hy, e1, hne, rfl⟩
    refine ⟨y, hy, ?_⟩
    rw [← e1, wasF_mem hn hx]
    unfold mvOne
    dsimp only
    rw [if_pos hne, e1]
    exact List.mem_singleton.2 rfl
theorem mvR_mem {t : Int} {la lb : List Rk} (ha : ∀ x ∈ la, 0 ≤ x.rank ∧ x.rank < t) (hb : ∀ x ∈ lb, 0 ≤ x.rank ∧ x.rank < t) (p : Pr) : p ∈ mvR t la lb ↔ ∃ x ∈ la, ∃ y ∈ lb, x.who = y.who ∧ x.rank ≠ y.rank ∧ p = ⟨x.who, itoaS (plcK t x.rank - plcK t y.rank)⟩ := by
  unfold mvR mvIn
  simp only [List.mem_flatMap]
  constructor
  · rintro ⟨x, hx, y, hy, hp⟩
    unfold mvTwo at hp
    split at hp
    · rename_i h
      exact ⟨x, hx, y, hy, h.1, (plc_ne (ha x hx) (hb y hy)).1 h.2, List.mem_singleton.1 hp⟩
    · cases hp
  · rintro ⟨x, hx, y, hy, e1, hne, rfl⟩
    refine ⟨x, hx, y, hy, ?_⟩
    unfold mvTwo
    rw [if_pos ⟨e1, (plc_ne (ha x hx) (hb y hy)).2 hne⟩]
    exact List.mem_singleton.2 rfl
theorem mvP_names {t : Int} {la : List Rk} : ∀ (lb : List Rk), ((mvP t la lb).map Pr.name).Sublist (lb.map Rk.who)
  | [] => List.Sublist.refl _
  | y :: r => by
    have ih := mvP_names (t := t) (la := la) r
    have e : mvP t la (y :: r) = mvOne t (wasF la y.who) y ++ mvP t la r := rfl
    rw [e, List.map_append, List.map_cons]
    have h1 : ((mvOne t (wasF la y.who) y).map Pr.name).Sublist [y.who] := by
      unfold mvOne
      split
      · split
        · exact List.Sublist.refl _
        · exact List.nil_sublist _
      · exact List.nil_sublist _
    exact List.Sublist.append h1 ih
theorem mvIn_none {t : Int} {x : Rk} : ∀ (lb : List Rk), (∀ y ∈ lb, y.who ≠ x.who) → mvIn t x lb = []
  | [], _ => rfl
  | y :: r, h => by
    have e : mvIn t x (y :: r) = mvTwo t x y ++ mvIn t x r := rfl
    rw [e, mvIn_none r fun z hz => h z (List.mem_cons_of_mem _ hz)]
    unfold mvTwo
    rw [if_neg fun h9 => h y (List.mem_cons_self ..) h9.1.symm]; rfl
theorem mvIn_names {t : Int} {x : Rk} : ∀ (lb : List Rk), (lb.map Rk.who).Nodup → ((mvIn t x lb).map Pr.name).Sublist [x.who]
  | [], _ => List.nil_sublist _
  | y :: r, h => by
    rw [List.map_cons, List.nodup_cons] at h
    have e : mvIn t x (y :: r) = mvTwo t x y ++ mvIn t x r := rfl
    rw [e]
    by_cases hw : x.who = y.who
    · rw [mvIn_none r fun z hz e9 => h.1 (by rw [← hw, ← e9]; exact List.mem_map_of_mem hz), List.append_nil]
      unfold mvTwo
      split
      · exact List.Sublist.refl _
      · exact List.nil_sublist _
    · have e2 : mvTwo t x y = [] := by unfold mvTwo; rw [if_neg fun h9 => hw h9.1]
      rw [e2, List.nil_append]
      exact mvIn_names r h.2
theorem mvR_names {t : Int} {lb : List Rk} (hn : (lb.map Rk.who).Nodup) : ∀ (la : List Rk), ((mvR t la lb).map Pr.name).Sublist (la.map Rk.who)
  | [] => List.Sublist.refl _
  | x :: r => by
    have ih := mvR_names (t := t) hn r
    have e : mvR t (x :: r) lb = mvIn t x lb ++ mvR t r lb := rfl
    rw [e, List.map_append, List.map_cons]
    exact List.Sublist.append (mvIn_names lb hn) ih
theorem nodup_names {l : List Pr} (h : (l.map Pr.name).Nodup) : l.Nodup := by
  rw [List.Nodup, List.pairwise_map] at h
  exact h.imp fun {x y} hxy e => hxy (by rw [e])
theorem mv_same {t : Int} {la lb : List Rk} (hna : (la.map Rk.who).Nodup) (hnb : (lb.map Rk.who).Nodup) (ha : ∀ x ∈ la, 0 ≤ x.rank ∧ x.rank < t) (hb : ∀ x ∈ lb, 0 ≤ x.rank ∧ x.rank < t) {o1 o2 : List Pr} (h1 : PrSorted (mvP t la lb) o1) (h2 : PrSorted (mvR t la lb) o2) : o1 = o2 := by
  have n1 : ((mvP t la lb).map Pr.name).Nodup := (mvP_names lb).nodup hnb
  have n2 : ((mvR t la lb).map Pr.name).Nodup := (mvR_names hnb la).nodup hna
  have hp : (mvP t la lb).Perm (mvR t la lb) := (List.perm_ext_iff_of_nodup (nodup_names n1) (nodup_names n2)).2 fun p => (mvP_mem hna p).trans (mvR_mem ha hb p).symm
  have n3 : (o1.map Pr.name).Nodup := (h1.1.map Pr.name).nodup_iff.2 n1
  exact sorted_uniqP ((h1.1.trans hp).trans h2.1.symm) (prStrict n3 h1.2) h2.2
theorem mvP_len {t : Int} {la : List Rk} : ∀ lb : List Rk, (mvP t la lb).length ≤ lb.length := fun lb => by
  have := (mvP_names (t := t) (la := la) lb).length_le
  rw [List.length_map, List.length_map] at this; exact this
theorem mvR_len {t : Int} {lb : List Rk} (hn : (lb.map Rk.who).Nodup) (la : List Rk) : (mvR t la lb).length ≤ la.length := by
  have := (mvR_names (t := t) hn la).length_le
  rw [List.length_map, List.length_map] at this; exact this
end Go.Proofs.YtklggnglaeagpaaGreatDoor

/- A drawn region with one append (RegAp's ApSt): an operation that lays memory and is none of the four. -/
namespace Go.Proofs.YtklggnglaeagpaaGreatDoor
open Go.RowKit
set_option linter.unusedVariables false

theorem getD_monoT {listed : Array Bool} {i j : Nat} (h : listed.getD j false = true) : (listed.setIfInBounds i true).getD j false = true := by
  by_cases e : i = j
  · subst e
    rw [getD_set_self']
    rw [if_pos (getD_size h)]
  · rw [getD_set_other _ e]; exact h
theorem ApSt.turn {base : Nat} {e : TypeId} {sz n : Nat} {xl y : List Value} {wS : World} {U B A S : Nat} {p : Addr} {listed : Array Bool} {xs : Nat → Value} {w' w1 : World} {i : Nat} {v : Value} (h : ApSt base e sz n xl y wS U B A S p listed xs w') (hA0 : listed.getD A false = false) (hB : Below w'.heap.size w' w1) (iU : i ≠ U) (iB : i ≠ B) (iA : i ≠ A) (iS : i ≠ S) : ApSt base e sz n xl y wS U B A S p (listed.setIfInBounds i true) (updV xs i v) w1 := by
  have e1 : ∀ j, i ≠ j → (listed.setIfInBounds i true).getD j false = listed.getD j false := fun j hj => getD_set_other _ hj
  have e2 : ∀ j, i ≠ j → updV xs i v j = xs j := fun j hj => by unfold updV; rw [if_neg (fun e => hj e.symm)]
  obtain ⟨a1, a2, a3, a4⟩ := h.pre hA0
  refine ⟨fun _ => ⟨by rw [e1 S iS]; exact a1, below_next a2 hB, fun hu => ?_, fun hb => ?_⟩, fun ha => (by rw [e1 A iA, hA0] at ha; (cases ha)), fun q h1 h2 h3 => ?_, fun q cs t fz h1 h2 h3 => blk_below (h.typ q cs t fz h1 h2 h3) hB⟩
  · rw [e1 U iU] at hu
    rw [e2 U iU]
    exact own_below (a3 hu) hB
  · rw [e1 B iB] at hb
    rw [e2 B iB]
    obtain ⟨z, q1, q2⟩ := a4 hb
    exact ⟨z, q1, blk_below q2 hB⟩
  · rw [← h.low q h1 h2 h3]
    exact hB.block q (Nat.lt_of_lt_of_le h2 a2.size)
end Go.Proofs.YtklggnglaeagpaaGreatDoor

/- judge.Moved of any ranks. Printed by wip/mkmv.py. -/
namespace Go.Proofs.YtklggnglaeagpaaGreatDoor
open Go.RowKit
open Go.Maps (Keyed string_keyed)
open Go.MapKept Go.ChangeMaps
open Go.WideMaps (keyOf_string_mk)
set_option linter.unusedVariables false

def WasD (D : DataW Unit) (v : List Rk) : Prop := Go.Maps.IsMap D ∧ ∀ (s : ByteArray) (z : DataW Unit), D.atKey (.string s.data.toList) z = match wasF v s with | some r => .lit (.int .i64 r) | none => z
theorem WasD.nil : WasD (.map []) [] := ⟨Go.Maps.isMap_empty, fun s z => by rw [atKey_nil]; rfl⟩
theorem WasD.snoc {D : DataW Unit} {v : List Rk} (h : WasD D v) (x : Rk) : WasD (D.put (.string x.who.data.toList) (.lit (.int .i64 x.rank))) (v ++ [x]) := by
  refine ⟨h.1.put _ _, fun t z => ?_⟩
  have e : wasF (v ++ [x]) t = if x.who = t then some x.rank else wasF v t := by unfold wasF; rw [List.foldl_append]; rfl
  rw [e]
  by_cases e2 : x.who = t
  · subst e2
    rw [Go.Maps.atKey_put_same h.1 (by trivial), if_pos rfl]
  · rw [Go.Maps.atKey_put_other (by intro e3; injection e3 with e3; exact e2 (bytes_inj e3).symm), h.2 t z, if_neg e2]
theorem wasD_has {D : DataW Unit} {v : List Rk} (h : WasD D v) (s : ByteArray) : Go.Maps.has D (.string s.data.toList) = (wasF v s).isSome := by
  cases hw : wasF v s with
  | none =>
    have h8 : ∀ z, D.atKey (.string s.data.toList) z = z := fun z => by have h9 := h.2 s z; rw [hw] at h9; exact h9
    have h7 := Go.Maps.has_false_of_atKey h8
    rw [h7, Option.isSome_none]
  | some r =>
    have h8 : ∀ z, D.atKey (.string s.data.toList) z = .lit (.int .i64 r) := fun z => by have h9 := h.2 s z; rw [hw] at h9; exact h9
    have h7 := Go.Maps.has_true_of_atKey h8
    rw [h7, Option.isSome_some]
set_option maxRecDepth 100000 in
theorem mi_lookD {w : World} {b n : Nat} {D : DataW Unit} {v : List Rk} (h : MI w b n D) (hW : WasD D v) (s : ByteArray) (hs : s.size ≤ maxLen) : (Instr.lookup 191 (.map (some b)) (.string s) true).run Tryz.prog w = .ok (.tuple #[.int .i64 ((wasF v s).getD 0), .bool (wasF v s).isSome]) w := by
  obtain ⟨u, ps, hrun, hv⟩ := h.look_ok (string_keyed Tryz.underlying9) Tryz.underlying191 (Tryz.zeroValue3 w) (plainElem_int Tryz.underlying3 (by decide)) (keyOf_string_mk Tryz.underlying9 hs)
  obtain ⟨c, rfl, hc, hwc⟩ := plainElem_int_inv Tryz.underlying3 hv
  rw [wasD_has hW s] at hrun
  have hat : D.atKey (.string s.data.toList) (.lit (.int .i64 0)) = .lit (.int .i64 c) := congrArg Prod.fst hc
  rw [hW.2 s] at hat
  have e : c = (wasF v s).getD 0 := by
    cases hw : wasF v s with
    | none =>
      rw [hw] at hat
      injection hat with h1
      injection h1 with _ h1
      rw [← h1, Option.getD_none]
    | some r =>
      rw [hw] at hat
      injection hat with h1
      injection h1 with _ h1
      rw [← h1, Option.getD_some]
  rw [← e]
  exact hrun
theorem wasF_valF {s : ByteArray} : ∀ (v : List Rk) (f : Option Int) (r : Int), v.foldl (fun f x => if x.who = s then some x.rank else f) f = some r → f = some r ∨ ∃ y ∈ v, y.rank = r
  | [], f, r, h => .inl h
  | y :: v, f, r, h => by
    rw [List.foldl_cons] at h
    rcases wasF_valF v _ r h with h | ⟨z, hz, e⟩
    · split at h
      · exact .inr ⟨y, List.mem_cons_self .., Option.some.inj h⟩
      · exact .inl h
    · exact .inr ⟨z, List.mem_cons_of_mem _ hz, e⟩
theorem wasF_val (v : List Rk) (f : Option Int) (r : Int) {s : ByteArray} (h : wasF v s = some r) : ∃ y ∈ v, y.rank = r := by
  rcases wasF_valF v none r h with h | h
  · cases h
  · exact h
theorem plcM_c (r T : Int) (b9 : Nat) (W : World) (h9 : W.heap[b9]? = some (.cells #[.int .i64 T] 3 (0, 0))) : Calls Tryz.prog 212 (#[.int .i64 r] ++ #[.pointer (some ⟨b9, 0, none⟩)]) W fun e w' => e = .returned (.int .i64 (plcK T r)) ∧ w' = W := by
  have z := (blk_facts h9).1 0
  by_cases h0 : r = 0
  · subst h0
    rw [show plcK T 0 = T from if_pos rfl]
    go_enter Tryz.func212, Tryz.ntmps212
    go_wp2
    go_ret
    exact ⟨rfl, rfl⟩
  · rw [show plcK T r = r from if_neg h0]
    have e1 : (r == 0) = false := beq_eq_false_iff_ne.2 h0
    go_enter Tryz.func212, Tryz.ntmps212
    go_wp2
    go_ret
    exact ⟨rfl, rfl⟩
theorem own_neP {w : World} {base size n b : Nat} {e t : TypeId} {v : Value} {xs : List Value} {cs : Array Value} {fz : Nat × Nat} (h : w.ownsRow base e size v n xs) (hb : w.heap[b]? = some (.cells cs t fz)) (hne : e ≠ t) : v.ownBlock ≠ some b := by
  intro hv
  rcases h.2 with ⟨rfl, _⟩ | ⟨g, cap, cur, rfl, h1, h2, h3⟩
  · simp [Value.ownBlock] at hv
  · simp only [Value.ownBlock, Option.some.injEq] at hv
    subst hv
    rw [hb] at h2
    injection h2 with h2
    injection h2 with _ h2
    exact hne h2.symm
theorem MV.own {w wx w' : World} {b9 bm q n : Nat} {D : DataW Unit} {v : Int} {u : Value} {xs : List Value} (h : MV w b9 bm q D v wx) (ho : wx.ownsRow w.heap.size 172 2 u n xs) (hg : wx.grownBy w' u.ownBlock) : MV w b9 bm q D v w' := by
  refine ⟨h.m.kept hg ?_, blk_grown h.h9 hg (fun e => own_neP ho h.h9 (by decide) e.symm), h.l1, h.l2, below_own h.bel ho hg h.bel.size (Nat.le_refl _)⟩
  intro e
  obtain ⟨es, clock, hb, _⟩ := h.m
  rcases ho.2 with ⟨rfl, _⟩ | ⟨g, cap, cur, rfl, h1, h2, h3⟩
  · simp [Value.ownBlock] at e
  · simp only [Value.ownBlock, Option.some.injEq] at e
    subst e
    rw [hb] at h2
    injection h2 with h2
    cases h2
theorem lt_of_heapM {w : World} {b n : Nat} {D : DataW Unit} (h : MI w b n D) : b < w.heap.size := by
  obtain ⟨es, clock, hb, _⟩ := h
  exact lt_of_heap hb
theorem plc_bd {T r : Int} (hT : 1 ≤ T ∧ T ≤ 301) (hr : 0 ≤ r ∧ r ≤ 300) : 0 ≤ plcK T r ∧ plcK T r ≤ 301 := by
  unfold plcK; split <;> omega
def RetMv (la lb : List Rk) (w : World) (e : Ending) (w' : World) : Prop := Below w.heap.size w w' ∧ ((rkErr la ≠ 0 ∧ e = .returned (.tuple #[.slice none 0 0, .int .i64 (rkErr la)])) ∨ (rkErr la = 0 ∧ rkErr lb ≠ 0 ∧ e = .returned (.tuple #[.slice none 0 0, .int .i64 (rkErr lb)])) ∨ (rkErr la = 0 ∧ rkErr lb = 0 ∧ ∃ A' n' c' out, e = .returned (.tuple #[.slice A' n' c', .int .i64 0]) ∧ RPr w' A' n' out ∧ PrSorted (mvP (lastK (la ++ lb)) la lb) out))
theorem prMoved_enters : ∀ args w, (callFunc 214 args).run Tryz.prog w = .ok (.enter 214 args) w := enters_of Tryz.func214 (by kernel_rfl) rfl
set_option maxHeartbeats 12800000 in
set_option maxRecDepth 100000 in
theorem movedA_c (A B : Option Addr) (n c m d : Nat) (la lb : List Rk) (w : World) (hA : RRk w A n la) (hB : RRk w B m lb) (hAn : A = none → c = 0) (hBn : B = none → d = 0) (hT : Tb w) :
    Calls Tryz.prog 100 #[.slice A n c, .slice B m d] w (RetMv la lb w) := by
  have hC1 := Lib.hid (fun W h => checkRankedA_c A n c la W h)
  have hC2 := Lib.hid (fun W h => checkRankedA_c B m d lb W h)
  have hR1 := Lib.hid (fun W h => hA.below (w' := W) h)
  have hR2 := Lib.hid (fun W h => hB.below (w' := W) h)
  have hz := heap_alloc_new w (.cells #[.slice A n c, .slice B m d] 34 (0, 0))
  have hB0 := below_new w (.cells #[.slice A n c, .slice B m d] 34)
  have z0 := (blk_facts hz).1 0
  have z1 := (blk_facts hz).1 1
  unfold RetMv
  by_cases ha : rkErr la = 0
  rotate_left
  · have hd : (rkErr la != 0) = true := by simpa using ha
    have hg := Lib.hid ha
    generalize rkErr la = EA at *
    generalize rkErr lb = EB at *
    clear ha
    go_enter Tryz.func100, Tryz.ntmps100
    go_wp2
    refine wp_loop_rounds 3 ?_
    rw [rounds_succ]
    go_wp2_with fail
    refine (hC1.out _ (hR1.out _ hB0)).mono ?_; rintro e w1 ⟨rfl, B1⟩
    have hB1 := below_next hB0 B1
    clear z0 z1 hz hB0 B1 hC1 hC2 hR1 hR2
    go_wp2
    go_ret2
    exact ⟨hB1, .inl ⟨hg.out, rfl⟩⟩
  by_cases hb : rkErr lb = 0
  rotate_left
  · have hd : (rkErr lb != 0) = true := by simpa using hb
    have hg := Lib.hid hb
    have hga := Lib.hid ha
    rw [ha] at hC1
    generalize rkErr la = EA at *
    generalize rkErr lb = EB at *
    clear ha hb
    go_enter Tryz.func100, Tryz.ntmps100
    go_wp2
    refine wp_loop_rounds 3 ?_
    rw [rounds_succ]
    go_wp2_with fail
    refine (hC1.out _ (hR1.out _ hB0)).mono ?_; rintro e w1 ⟨rfl, B1⟩
    have hB1 := below_next hB0 B1
    have hz1 := blk_below hz B1
    clear z0 z1 hz hB0 B1 hC1
    have z1 := (blk_facts hz1).1 1
    go_wp2_with fail
    rw [rounds_succ]
    go_wp2_with fail
    refine (hC2.out _ (hR2.out _ hB1)).mono ?_; rintro e w2 ⟨rfl, B2⟩
    have hB2 := below_next hB1 B2
    clear z1 hz1 hB1 B2 hC2
    go_wp2
    go_ret2
    exact ⟨hB2, .inr (.inl ⟨hga.out, hg.out, rfl⟩)⟩
  obtain ⟨hn, hok1, hnd1⟩ := rkErr_all ha
  obtain ⟨hm, hok2, hnd2⟩ := rkErr_all hb
  rw [hA.len] at hn
  rw [hB.len] at hm
  have hga := Lib.hid ha
  have hgb := Lib.hid hb
  rw [ha] at hC1
  rw [hb] at hC2
  have hCC := Lib.hid (fun z W hz h1 h2 => concatK_c A B n c m d z la lb W hz h1 h2 hAn hBn (by omega) (by omega))
  have hlenA := Lib.hid hA.len
  have hlenB := Lib.hid hB.len
  have hbd1 := Lib.hid (fun x (hx : x ∈ la) => show 0 ≤ x.rank ∧ x.rank ≤ 300 from (rk1_all (hok1 x hx)).2.1)
  have hbd2 := Lib.hid (fun x (hx : x ∈ lb) => show 0 ≤ x.rank ∧ x.rank ≤ 300 from (rk1_all (hok2 x hx)).2.1)
  have hky1 := Lib.hid (fun x (hx : x ∈ la) => (key_small (rk1_all (hok1 x hx)).1).2)
  have hky2 := Lib.hid (fun x (hx : x ∈ lb) => (key_small (rk1_all (hok2 x hx)).1).2)
  have htk := Lib.hid (fun k (x : Rk) (hx : la[k]? = some x) => show la.take (k + 1) = la.take k ++ [x] by rw [List.take_add_one, hx]; rfl)
  have htA := Lib.hid (show la.take n = la from List.take_of_length_le (by rw [hA.len]; exact Nat.le_refl _))
  have hll := Lib.hid (show (la ++ lb).length = n + m by rw [List.length_append, hA.len, hB.len])
  have hbd3 := Lib.hid (fun x (hx : x ∈ la ++ lb) => show 0 ≤ x.rank ∧ x.rank ≤ 300 by
    rcases List.mem_append.1 hx with h | h
    · exact hbd1.out x h
    · exact hbd2.out x h)
  have hTl := Lib.hid (show (la ++ lb).foldl (fun v x => max v (x.rank + 1)) 1 = lastK (la ++ lb) from rfl)
  have hTb1 : 1 ≤ lastK (la ++ lb) ∧ lastK (la ++ lb) ≤ 301 := ⟨(lastF_ge _ 1).1, lastF_le _ 1 (by omega) fun x hx => (hbd3.out x hx).2⟩
  generalize lastK (la ++ lb) = TL at *
  have hTb := Lib.hid (fun W (h : Below w.heap.size w W) => hT.below h)
  clear hok1 hok2 hnd1 hnd2 hA hB hAn hBn ha hb hT
  have hmm := @run_makeMap Tryz.prog
  go_enter Tryz.func100, Tryz.ntmps100
  go_wp2
  refine wp_loop_rounds 3 ?_
  rw [rounds_succ]
  go_wp2_with fail
  refine (hC1.out _ (hR1.out _ hB0)).mono ?_; rintro e w1 ⟨rfl, B1⟩
  have hB1 := below_next hB0 B1
  have hz1 := blk_below hz B1
  clear z0 z1 hz hB0 B1 hC1
  have z1 := (blk_facts hz1).1 1
  go_wp2_with fail
  rw [rounds_succ]
  go_wp2_with fail
  refine (hC2.out _ (hR2.out _ hB1)).mono ?_; rintro e w2 ⟨rfl, B2⟩
  have hB2 := below_next hB1 B2
  clear z1 hz1 hB1 B2 hC2
  go_wp2_with fail
  rw [rounds_succ]
  have M0 : MV w w2.heap.size (w2.heap.size + 1) 0 (.map []) 1 ((w2.alloc (.cells #[.int .i64 1] 3)).alloc (.map #[] 0)) := by
    have h1 := mi_new (w2.alloc (.cells #[.int .i64 1] 3))
    rw [alloc_size] at h1
    exact ⟨h1, blk_alloc (heap_alloc_new w2 (.cells #[.int .i64 1] 3)) _, hB2.size, Nat.lt_succ_self _, (hB2.alloc hB2.size _).alloc (by have := hB2.size; simp; omega) _⟩
  go_wp2_with fail
  generalize (w2.alloc (.cells #[.int .i64 1] 3)).alloc (.map #[] 0) = w3 at *
  generalize w2.heap.size = b9 at *
  generalize hbm : b9 + 1 = bm at *
  clear hbm hB2
  go_loopw [38] (fun i wr => ∃ (k q : Nat) (D : DataW Unit), k ≤ n ∧ i = .int .i64 k ∧ q ≤ k ∧ MV w b9 bm q D 1 wr ∧ Hid (WasD D (la.take k))) (fun i _ => n - (intOf i).toNat)
  case atStart => exact ⟨0, 0, .map [], Nat.zero_le _, rfl, Nat.le_refl _, M0, Lib.hid WasD.nil⟩
  case round =>
    clear M0
    obtain ⟨k, q, D, hk, rfl, hq, K, hW⟩ := hrel
    by_cases hlt : k < n
    · obtain ⟨b, off, x, rfl, hbl, hx, c0, c1, c2, c3⟩ := RRk.at4 (hR1.out _ K.bel) hlt
      have hxm := List.mem_of_getElem? hx
      have hb1 := hbd1.out x hxm
      have hsz := hky1.out x hxm
      have hW2 : Hid (WasD (D.put (.string x.who.data.toList) (.lit (.int .i64 x.rank))) (la.take (k + 1))) := Lib.hid (by rw [htk.out k x hx]; exact hW.out.snoc x)
      obtain ⟨who, rank, time, fault⟩ := x
      dsimp only at *
      have K5 := K.below (below_new wr (.cells #[.string who, .int .i64 rank, .int .i64 time, .int .i64 fault] 48))
      have z0 := (blk_facts (heap_alloc_new wr (.cells #[.string who, .int .i64 rank, .int .i64 time, .int .i64 fault] 48))).1 0
      have z1 := (blk_facts (heap_alloc_new wr (.cells #[.string who, .int .i64 rank, .int .i64 time, .int .i64 fault] 48))).1 1
      have hm1 := K5.m
      clear hx hxm hW K
      go_wp2_with (at_mapUpdate; refine wpList_mapUpdate_own _ rfl _ _ _ 191 rfl 9 3 (string_keyed Tryz.underlying9) Tryz.underlying191 _ _ q _ rfl hm1 (by unfold maxLen; omega) _ _ _ rfl rfl (keyOf_string_mk Tryz.underlying9 (by unfold maxLen; omega)) _ [] (plainElem_int Tryz.underlying3 (by simp [Lit.wf, IntKind.min, IntKind.max, IntKind.signed, IntKind.bits]; omega)) ?_; intro w5 hown5 hg5)
      have K6 := K5.put hown5 hg5
      clear hm1 hown5 hg5 K5 c0 c1 c2 c3 z0 z1
      go_roundw
      case rel => exact ⟨k + 1, q + 1, _, by omega, by go_num, by omega, K6, hW2⟩
      case measure => simp [intOf]; omega
    · obtain rfl : k = n := by omega
      rw [htA.out] at hW
      have hz5 := heap_alloc_new wr (.cells #[.slice A k c, .slice B m d] 34 (0, 0))
      have K5 := K.below (below_new wr (.cells #[.slice A k c, .slice B m d] 34))
      clear K htA
      go_wp2_with fail
      refine (hCC.out _ _ hz5 (hR1.out _ K5.bel) (hR2.out _ K5.bel)).mono ?_; rintro e w6 ⟨A6, c6, rfl, hown, B6⟩
      have K6 := K5.below B6
      have hR6 : RRk w6 A6 (k + m) (la ++ lb) := RN.of_own rkE_len hown hll.out (by omega)
      clear hown B6 hz5 K5 hCC
      have hTl0 := Lib.hid (show ((la ++ lb).drop 0).foldl (fun v x => max v (x.rank + 1)) 1 = TL by rw [List.drop_zero]; exact hTl.out)
      go_wp2_with fail
      go_loopw [53] (fun i wx => ∃ (j : Nat) (v : Int), j ≤ k + m ∧ i = .int .i64 j ∧ 0 ≤ v ∧ v ≤ 301 ∧ MV w b9 bm q D v wx ∧ RRk wx A6 (k + m) (la ++ lb) ∧ Hid (((la ++ lb).drop j).foldl (fun v x => max v (x.rank + 1)) v = TL)) (fun i _ => (k + m) - (intOf i).toNat)
      case atStart => exact ⟨0, 1, Nat.zero_le _, rfl, by omega, by omega, K6, hR6, hTl0⟩
      case round =>
        clear K6 hR6 hTl0
        rename World => wx
        obtain ⟨j, v, hj, rfl, v0, v1, K, hR, hF⟩ := hrel
        by_cases hlt2 : j < k + m
        · obtain ⟨b, off, x, rfl, hbl, hx, c0, c1, c2, c3⟩ := RRk.at4 hR hlt2
          obtain ⟨hb1, hb2⟩ := hbd3.out x (List.mem_of_getElem? hx)
          have hF2 := Lib.hid (show ((la ++ lb).drop (j + 1)).foldl (fun v x => max v (x.rank + 1)) (max v (x.rank + 1)) = TL by rw [← lastF_at v hx]; exact hF.out)
          obtain ⟨who, rank, time, fault⟩ := x
          dsimp only at *
          have K5 := K.below (below_new wx (.cells #[.string who, .int .i64 rank, .int .i64 time, .int .i64 fault] 48))
          have hR5 := hR.below (below_new wx (.cells #[.string who, .int .i64 rank, .int .i64 time, .int .i64 fault] 48))
          have z1 := (blk_facts (heap_alloc_new wx (.cells #[.string who, .int .i64 rank, .int .i64 time, .int .i64 fault] 48))).1 1
          have z9 := (blk_facts K5.h9).1 0
          have f9 := (blk_facts K5.h9).2 0
          have e1 : IntKind.i64.wrap (rank + 1) = rank + 1 := IntWalk.i64_in _ (by omega)
          have K7 := K5.set9 (max v (rank + 1))
          have hR7 := rk_keep9 (v' := max v (rank + 1)) hR5 K5.h9
          clear hx K hR hR5 hF
          go_wp2
          go_roundw
          case rel => exact ⟨j + 1, max v (rank + 1), by omega, by go_num, by omega, by omega, K7, hR7, hF2⟩
          case measure => simp [intOf]; omega
        · obtain rfl : j = k + m := by omega
          obtain rfl : v = TL := by
            have h9 := hF.out
            rw [drop_end (by rw [hll.out]; exact Nat.le_refl _)] at h9
            exact h9
          have hM0 := Lib.hid (show [] ++ mvP v la (lb.drop 0) = mvP v la lb from rfl)
          obtain ⟨MP, hMP⟩ : ∃ MP, mvP v la lb = MP := ⟨_, rfl⟩
          rw [hMP] at hM0
          have hMP' := Lib.hid hMP
          have hAt := Lib.hid (fun (j : Nat) (x : Rk) (h : lb[j]? = some x) => mvP_at (t := v) (la := la) h)
          clear hR hF hMP hTl
          have hz9 := K.bel.size
          go_wp2_with fail
          go_loopw [16, 66] (fun u i wy => ∃ (j : Nat) (acc : List Pr), j ≤ m ∧ i = .int .i64 j ∧ wy.ownsRow w.heap.size 172 2 u acc.length (acc.flatMap prE) ∧ acc.length ≤ j ∧ MV w b9 bm q D v wy ∧ Hid (acc ++ mvP v la (lb.drop j) = MP)) (fun _ i _ => m - (intOf i).toNat)
          case atStart => exact ⟨0, [], Nat.zero_le _, rfl, World.ownsRow_nil _ _ _ _, Nat.le_refl _, K, hM0⟩
          case round =>
            clear K hM0 hz9
            rename World => wy
            obtain ⟨j, acc, hj, rfl, ho, hal, K, hM⟩ := hrel
            obtain ⟨AU, cU, rfl⟩ := own_shape ho
            by_cases hlt3 : j < m
            · obtain ⟨b, off, x, rfl, hbl, hx, c0, c1, c2, c3⟩ := RRk.at4 (hR2.out _ K.bel) hlt3
              have hxm := List.mem_of_getElem? hx
              have hsz := hky2.out x hxm
              have hrb := hbd2.out x hxm
              have hMa := Lib.hid (hAt.out j x hx)
              obtain ⟨who, rank, time, fault⟩ := x
              dsimp only at *
              have hbx := heap_alloc_new wy (.cells #[.string who, .int .i64 rank, .int .i64 time, .int .i64 fault] 48)
              have K5 := K.below (below_new wy (.cells #[.string who, .int .i64 rank, .int .i64 time, .int .i64 fault] 48))
              have ho5 := own_below ho (below_new wy (.cells #[.string who, .int .i64 rank, .int .i64 time, .int .i64 fault] 48))
              have z0 := (blk_facts hbx).1 0
              have z1 := (blk_facts hbx).1 1
              have hrun := mi_lookD K5.m hW.out who (by unfold maxLen; omega)
              have hwb : ∀ r, wasF la who = some r → 0 ≤ r ∧ r ≤ 300 := fun r h9 => by
                have h8 : wasF la who = some r := h9
                by_cases he : ∃ y ∈ la, y.who = who
                · have h7 := wasF_val la none r h8
                  obtain ⟨y, hy, e⟩ := h7
                  rw [← e]; exact hbd1.out y hy
                · have h2 : wasF la who = none := wasF_keep who la none fun y hy e => he ⟨y, hy, e⟩
                  rw [h2] at h8; cases h8
              generalize wasF la who = WF at *
              have K5w := K
              clear hx hxm K ho
              have skip : ∀ _ : mvOne v WF ⟨who, rank, time, fault⟩ = [], Hid (acc ++ mvP v la (lb.drop (j + 1)) = MP) := fun e => Lib.hid (by rw [← hM.out, hMa.out, e]; rfl)
              have hb7m : wy.heap.size ≠ bm := by have := lt_of_heapM K5w.m; omega
              clear K5w
              rcases WF with _ | r
              · have hM2 := skip rfl
                clear hM hMa skip hwb
                dsimp only [Option.getD_none, Option.isSome_none] at hrun
                go_wp2
                go_roundw
                case rel => exact ⟨j + 1, acc, by omega, by go_num, ho5, by omega, K5, hM2⟩
                case measure => simp [intOf]; omega
              · dsimp only [Option.getD_some, Option.isSome_some] at hrun
                by_cases hne : r = rank
                · subst hne
                  have hM2 := skip (by unfold mvOne; dsimp only; rw [if_neg (by simp)])
                  have e0 : (r != r) = false := by simp
                  clear hM hMa skip hwb
                  go_wp2
                  go_roundw
                  case rel => exact ⟨j + 1, acc, by omega, by go_num, ho5, by omega, K5, hM2⟩
                  case measure => simp [intOf]; omega
                · have e0 : (r != rank) = true := by simpa using hne
                  have hM2 := Lib.hid (show (acc ++ [⟨who, itoaS (plcK v r - plcK v rank)⟩]) ++ mvP v la (lb.drop (j + 1)) = MP by
                    rw [← hM.out, hMa.out, List.append_assoc]
                    congr 2
                    unfold mvOne
                    dsimp only
                    rw [if_pos hne])
                  have hr2 := hwb r rfl
                  have p1 := plc_bd hTb1 hr2
                  have p2 := plc_bd hTb1 hrb
                  have k9 : IntKind.i64.wrap (plcK v r - plcK v rank) = plcK v r - plcK v rank := IntWalk.i64_in _ (by omega)
                  clear hM hMa skip hwb
                  go_wp2_with fail
                  clear c0 c1 c2 c3 z0 z1 hrun
                  generalize wy.alloc (.cells #[.string who, .int .i64 rank, .int .i64 time, .int .i64 fault] 48) = wA at *
                  generalize wy.heap.size = b7 at *
                  have K9 := K5.below (below_drewN (Below.refl _ _) 1)
                  have ho9 := own_below ho5 (below_drewN (Below.refl wA.heap.size wA) 1)
                  have hP1 := Lib.hid (fun W h9 => plcM_c r v b9 W h9)
                  have hP2 := Lib.hid (fun W h9 => plcM_c rank v b9 W h9)
                  have hit := Lib.hid (fun W h => itoa_c (plcK v r - plcK v rank) W h (by omega) (by omega))
                  generalize itoaS (plcK v r - plcK v rank) = IT at *
                  generalize plcK v r = P1 at *
                  generalize plcK v rank = P2 at *
                  have hbx9 : wA.drew.heap[b7]? = some (.cells #[.string who, .int .i64 rank, .int .i64 time, .int .i64 fault] 48 (0, 0)) := hbx
                  have h99 := K9.h9
                  have hl2 := K9.l2
                  have hn7 : b7 ≠ bm := hb7m
                  have hn9 : b9 ≠ bm := by omega
                  have hz9' := K9.bel.size
                  clear hbx p1 p2 hr2 hne hsz
                  obtain ⟨i0, hi0, hz0, hz1, hz2⟩ := info_parts info_prS
                  refine wp_region_inv (by kernel_rfl) (fun listed a w' => ∃ xs : Nat → Value, a = { tmps := #[.slice A k c, .slice (some ⟨b, off, none⟩) m d, undef, undef, .slice none 0 0, .int .i64 0, undef, .slice (some ⟨b, off, none⟩) m d, .int .i64 0, .pointer (some ⟨b9, 0, none⟩), .map (some bm), undef, u12, undef, u14, .func (Fn.func 212) #[] #[.pointer (some ⟨b9, 0, none⟩)], xs 15, undef, .pointer (some ⟨b7, 0, none⟩), .int .i64 r, .bool true, .slice A k c, .slice (some ⟨b, off, none⟩) m d, .slice (some ⟨w.heap.size, 0, none⟩) 2 2, .int .i64 2, .int .i64 2, .bool false, .pointer (some ⟨w.heap.size, 1, none⟩), .slice (some ⟨b, off, none⟩) m d, .slice (some ⟨b, off, none⟩) m d, .int .i64 0, .int .i64 0, .bool false, undef, .int .i64 2, .map (some bm), .slice A k c, .int .i64 ↑k, .int .i64 ↑k, .bool false, u40, u41, u42, u43, u44, u45, u46, u47, .slice A k c, .slice (some ⟨b, off, none⟩) m d, .slice (some ⟨wr.heap.size, 0, none⟩) 2 2, .slice A6 (k + m) c6, .int .i64 (↑k + ↑m), .int .i64 ↑(k + m), .bool false, u55, u56, u57, u58, u59, u60, u61, u62, .func (Fn.func 212) #[] #[.pointer (some ⟨b9, 0, none⟩)], .slice (some ⟨b, off, none⟩) m d, .int .i64 ↑m, .int .i64 ↑j, .bool true, .pointer (some ⟨b, off + j * 4, none⟩), .agg #[.string who, .int .i64 rank, .int .i64 time, .int .i64 fault], .tuple #[.int .i64 r, .bool true], .map (some bm), .pointer (some ⟨b7, 0, none⟩), .string who, .tuple #[.int .i64 r, .bool true], .int .i64 r, .bool true, .bool true, .bool true, .int .i64 r, .pointer (some ⟨b7, 1, none⟩), .int .i64 rank, .bool true, .bool true, xs 0, xs 1, xs 2, xs 3, xs 4, xs 5, xs 6, xs 7, xs 8, xs 9, xs 10, xs 11, xs 12, xs 13, xs 14, u99, undef, undef, undef], defers := [] } ∧ (∀ j, listed.getD j false = true → CV [some (.slice AU acc.length cU), some (.pointer (some ⟨b7, 0, none⟩)), some (.string who), some (.func (Fn.func 212) #[] #[.pointer (some ⟨b9, 0, none⟩)]), some (.int .i64 r), some (.int .i64 P1), some (.func (Fn.func 212) #[] #[.pointer (some ⟨b9, 0, none⟩)]), some (.pointer (some ⟨b7, 1, none⟩)), some (.int .i64 rank), some (.int .i64 P2), some (.int .i64 (P1 - P2)), some (.string IT), some (.agg #[.string who, .string IT]), none, none, none] j w' (xs j)) ∧ ApSt (w.heap.size) 172 2 (acc.length) (acc.flatMap prE) ([.string who, .string IT]) (wA.drew) 0 13 14 1000 ⟨bm, 0, none⟩ listed xs w' ∧ (listed.getD 12 false = true → listed.getD 11 false = true) ∧ (listed.getD 13 false = true → listed.getD 12 false = true) ∧ (listed.getD 15 false = true → listed.getD 14 false = true ∧ xs 15 = xs 14) ∧ (listed.getD 15 false = false → xs 15 = .slice AU acc.length cU)) ?h0 (AllOps.of ?hs) ?he
                  case h0 => exact ⟨fun j => match j with | 0 => u84 | 1 => u85 | 2 => u86 | 3 => u87 | 4 => u88 | 5 => u89 | 6 => u90 | 7 => u91 | 8 => u92 | 9 => u93 | 10 => u94 | 11 => u95 | 12 => u96 | 13 => u97 | 14 => u98 | 15 => .slice AU acc.length cU | _ => undef, rfl, (fun j hj => by rw [rep_falseA] at hj; cases hj), ApSt.start, fun h => (by rw [rep_falseA] at h; (cases h)), fun h => (by rw [rep_falseA] at h; (cases h)), fun h => (by rw [rep_falseA] at h; (cases h)), fun _ => rfl⟩
                  case hs =>
                    refine ⟨?_, ?_, ?_, ?_, ?_, ?_, ?_, ?_, ?_, ?_, ?_, ?_, ?_, ?_, ?_, ?_, trivial⟩
                    · intro listed a w' hs hI h0 hd K2 hK
                      obtain ⟨xs, rfl, hC, hW, hP0, hP1_, hX, hY⟩ := hI
                      have hK2 := Lib.hid hK
                      have hC2 := Lib.hid hC
                      have hZ0 : listed.getD 15 false = false := by
                        cases h5 : listed.getD 15 false with
                        | false => rfl
                        | true => exact absurd (hW.mid (hX h5).1).1.1 (by rw [getD_tf h0]; decide)
                      have eZ := hY hZ0
                      have B9 := hW.below h0
                      have hU9 := Lib.hid (hW.row h0 (Below.refl _ _) (v := .slice AU acc.length cU) (own_below ho9 B9) (by decide) (by decide) (by decide))
                      clear hd hK hC h0
                      go_simp
                      exact hK2.out _ _ ⟨updV xs 0 (.slice AU acc.length cU), by simp [updV, eZ], cond_set hC2.out (fun _ _ h => h) (CV.of rfl rfl), hU9.out, fun h5 => getD_monoT (hP0 (by rw [getD_set_other _ (by decide)] at h5; exact h5)), fun h5 => getD_monoT (hP1_ (by rw [getD_set_other _ (by decide)] at h5; exact h5)), fun h5 => (by rw [getD_set_other _ (by decide)] at h5 ⊢; exact hX h5), fun h5 => (by rw [getD_set_other _ (by decide)] at h5; unfold updV; rw [if_neg (by decide)]; exact hY h5)⟩
                    · intro listed a w' hs hI h0 hd K2 hK
                      obtain ⟨xs, rfl, hC, hW, hP0, hP1_, hX, hY⟩ := hI
                      have hK2 := Lib.hid hK
                      have hC2 := Lib.hid hC
                      clear hd hK hC h0
                      go_simp
                      exact hK2.out _ _ ⟨updV xs 1 (.pointer (some ⟨b7, 0, none⟩)), by simp [updV], cond_set hC2.out (fun _ _ h => h) (CV.of rfl rfl), hW.keep (by decide) (by decide) (by decide) (by decide), fun h5 => getD_monoT (hP0 (by rw [getD_set_other _ (by decide)] at h5; exact h5)), fun h5 => getD_monoT (hP1_ (by rw [getD_set_other _ (by decide)] at h5; exact h5)), fun h5 => (by rw [getD_set_other _ (by decide)] at h5 ⊢; exact hX h5), fun h5 => (by rw [getD_set_other _ (by decide)] at h5; unfold updV; rw [if_neg (by decide)]; exact hY h5)⟩
                    · intro listed a w' hs hI h0 hd K2 hK
                      obtain ⟨xs, rfl, hC, hW, hP0, hP1_, hX, hY⟩ := hI
                      have e1 : xs 1 = .pointer (some ⟨b7, 0, none⟩) := (hC 1 (hd ⟨1, .data⟩ (by simp) rfl)) _ rfl
                      have hK2 := Lib.hid hK
                      have hC2 := Lib.hid hC
                      have q9 := hW.blkTyp hbx9 (by decide) hn7
                      have c9 := (blk_facts q9).1 0
                      clear hd hK hC h0
                      go_simp
                      exact hK2.out _ _ ⟨updV xs 2 (.string who), by simp [updV, e1], cond_set hC2.out (fun _ _ h => h) (CV.of rfl rfl), hW.keep (by decide) (by decide) (by decide) (by decide), fun h5 => getD_monoT (hP0 (by rw [getD_set_other _ (by decide)] at h5; exact h5)), fun h5 => getD_monoT (hP1_ (by rw [getD_set_other _ (by decide)] at h5; exact h5)), fun h5 => (by rw [getD_set_other _ (by decide)] at h5 ⊢; exact hX h5), fun h5 => (by rw [getD_set_other _ (by decide)] at h5; unfold updV; rw [if_neg (by decide)]; exact hY h5)⟩
                    · intro listed a w' hs hI h0 hd K2 hK
                      obtain ⟨xs, rfl, hC, hW, hP0, hP1_, hX, hY⟩ := hI
                      have hK2 := Lib.hid hK
                      have hC2 := Lib.hid hC
                      clear hd hK hC h0
                      go_simp
                      exact hK2.out _ _ ⟨updV xs 3 (.func (Fn.func 212) #[] #[.pointer (some ⟨b9, 0, none⟩)]), by simp [updV], cond_set hC2.out (fun _ _ h => h) (CV.of rfl rfl), hW.keep (by decide) (by decide) (by decide) (by decide), fun h5 => getD_monoT (hP0 (by rw [getD_set_other _ (by decide)] at h5; exact h5)), fun h5 => getD_monoT (hP1_ (by rw [getD_set_other _ (by decide)] at h5; exact h5)), fun h5 => (by rw [getD_set_other _ (by decide)] at h5 ⊢; exact hX h5), fun h5 => (by rw [getD_set_other _ (by decide)] at h5; unfold updV; rw [if_neg (by decide)]; exact hY h5)⟩
                    · intro listed a w' hs hI h0 hd K2 hK
                      obtain ⟨xs, rfl, hC, hW, hP0, hP1_, hX, hY⟩ := hI
                      have hK2 := Lib.hid hK
                      have hC2 := Lib.hid hC
                      clear hd hK hC h0
                      go_simp
                      exact hK2.out _ _ ⟨updV xs 4 (.int .i64 r), by simp [updV], cond_set hC2.out (fun _ _ h => h) (CV.of rfl rfl), hW.keep (by decide) (by decide) (by decide) (by decide), fun h5 => getD_monoT (hP0 (by rw [getD_set_other _ (by decide)] at h5; exact h5)), fun h5 => getD_monoT (hP1_ (by rw [getD_set_other _ (by decide)] at h5; exact h5)), fun h5 => (by rw [getD_set_other _ (by decide)] at h5 ⊢; exact hX h5), fun h5 => (by rw [getD_set_other _ (by decide)] at h5; unfold updV; rw [if_neg (by decide)]; exact hY h5)⟩
                    · intro listed a w' hs hI h0 hd K2 hK
                      obtain ⟨xs, rfl, hC, hW, hP0, hP1_, hX, hY⟩ := hI
                      have e3 : xs 3 = .func (Fn.func 212) #[] #[.pointer (some ⟨b9, 0, none⟩)] := (hC 3 (hd ⟨3, .data⟩ (by simp) rfl)) _ rfl
                      have e4 : xs 4 = .int .i64 r := (hC 4 (hd ⟨4, .data⟩ (by simp) rfl)) _ rfl
                      have hK2 := Lib.hid hK
                      have hC2 := Lib.hid hC
                      have q9 := hW.blkTyp h99 (by decide) hn9
                      clear hd hK hC h0
                      go_simp
                      refine (hP1.out _ q9).mono ?_; rintro e w1 ⟨rfl, rfl⟩
                      exact hK2.out _ _ ⟨updV xs 5 (.int .i64 P1), by simp [updV, e3, e4], cond_set hC2.out (fun _ _ h => h) (CV.of rfl rfl), hW.keep (by decide) (by decide) (by decide) (by decide), fun h5 => getD_monoT (hP0 (by rw [getD_set_other _ (by decide)] at h5; exact h5)), fun h5 => getD_monoT (hP1_ (by rw [getD_set_other _ (by decide)] at h5; exact h5)), fun h5 => (by rw [getD_set_other _ (by decide)] at h5 ⊢; exact hX h5), fun h5 => (by rw [getD_set_other _ (by decide)] at h5; unfold updV; rw [if_neg (by decide)]; exact hY h5)⟩
                    · intro listed a w' hs hI h0 hd K2 hK
                      obtain ⟨xs, rfl, hC, hW, hP0, hP1_, hX, hY⟩ := hI
                      have hK2 := Lib.hid hK
                      have hC2 := Lib.hid hC
                      clear hd hK hC h0
                      go_simp
                      exact hK2.out _ _ ⟨updV xs 6 (.func (Fn.func 212) #[] #[.pointer (some ⟨b9, 0, none⟩)]), by simp [updV], cond_set hC2.out (fun _ _ h => h) (CV.of rfl rfl), hW.keep (by decide) (by decide) (by decide) (by decide), fun h5 => getD_monoT (hP0 (by rw [getD_set_other _ (by decide)] at h5; exact h5)), fun h5 => getD_monoT (hP1_ (by rw [getD_set_other _ (by decide)] at h5; exact h5)), fun h5 => (by rw [getD_set_other _ (by decide)] at h5 ⊢; exact hX h5), fun h5 => (by rw [getD_set_other _ (by decide)] at h5; unfold updV; rw [if_neg (by decide)]; exact hY h5)⟩
                    · intro listed a w' hs hI h0 hd K2 hK
                      obtain ⟨xs, rfl, hC, hW, hP0, hP1_, hX, hY⟩ := hI
                      have hK2 := Lib.hid hK
                      have hC2 := Lib.hid hC
                      clear hd hK hC h0
                      go_simp
                      exact hK2.out _ _ ⟨updV xs 7 (.pointer (some ⟨b7, 1, none⟩)), by simp [updV], cond_set hC2.out (fun _ _ h => h) (CV.of rfl rfl), hW.keep (by decide) (by decide) (by decide) (by decide), fun h5 => getD_monoT (hP0 (by rw [getD_set_other _ (by decide)] at h5; exact h5)), fun h5 => getD_monoT (hP1_ (by rw [getD_set_other _ (by decide)] at h5; exact h5)), fun h5 => (by rw [getD_set_other _ (by decide)] at h5 ⊢; exact hX h5), fun h5 => (by rw [getD_set_other _ (by decide)] at h5; unfold updV; rw [if_neg (by decide)]; exact hY h5)⟩
                    · intro listed a w' hs hI h0 hd K2 hK
                      obtain ⟨xs, rfl, hC, hW, hP0, hP1_, hX, hY⟩ := hI
                      have e7 : xs 7 = .pointer (some ⟨b7, 1, none⟩) := (hC 7 (hd ⟨7, .data⟩ (by simp) rfl)) _ rfl
                      have hK2 := Lib.hid hK
                      have hC2 := Lib.hid hC
                      have q9 := hW.blkTyp hbx9 (by decide) hn7
                      have c9 := (blk_facts q9).1 1
                      clear hd hK hC h0
                      go_simp
                      exact hK2.out _ _ ⟨updV xs 8 (.int .i64 rank), by simp [updV, e7], cond_set hC2.out (fun _ _ h => h) (CV.of rfl rfl), hW.keep (by decide) (by decide) (by decide) (by decide), fun h5 => getD_monoT (hP0 (by rw [getD_set_other _ (by decide)] at h5; exact h5)), fun h5 => getD_monoT (hP1_ (by rw [getD_set_other _ (by decide)] at h5; exact h5)), fun h5 => (by rw [getD_set_other _ (by decide)] at h5 ⊢; exact hX h5), fun h5 => (by rw [getD_set_other _ (by decide)] at h5; unfold updV; rw [if_neg (by decide)]; exact hY h5)⟩
                    · intro listed a w' hs hI h0 hd K2 hK
                      obtain ⟨xs, rfl, hC, hW, hP0, hP1_, hX, hY⟩ := hI
                      have e6 : xs 6 = .func (Fn.func 212) #[] #[.pointer (some ⟨b9, 0, none⟩)] := (hC 6 (hd ⟨6, .data⟩ (by simp) rfl)) _ rfl
                      have e8 : xs 8 = .int .i64 rank := (hC 8 (hd ⟨8, .data⟩ (by simp) rfl)) _ rfl
                      have hK2 := Lib.hid hK
                      have hC2 := Lib.hid hC
                      have q9 := hW.blkTyp h99 (by decide) hn9
                      clear hd hK hC h0
                      go_simp
                      refine (hP2.out _ q9).mono ?_; rintro e w1 ⟨rfl, rfl⟩
                      exact hK2.out _ _ ⟨updV xs 9 (.int .i64 P2), by simp [updV, e6, e8], cond_set hC2.out (fun _ _ h => h) (CV.of rfl rfl), hW.keep (by decide) (by decide) (by decide) (by decide), fun h5 => getD_monoT (hP0 (by rw [getD_set_other _ (by decide)] at h5; exact h5)), fun h5 => getD_monoT (hP1_ (by rw [getD_set_other _ (by decide)] at h5; exact h5)), fun h5 => (by rw [getD_set_other _ (by decide)] at h5 ⊢; exact hX h5), fun h5 => (by rw [getD_set_other _ (by decide)] at h5; unfold updV; rw [if_neg (by decide)]; exact hY h5)⟩
                    · intro listed a w' hs hI h0 hd K2 hK
                      obtain ⟨xs, rfl, hC, hW, hP0, hP1_, hX, hY⟩ := hI
                      have e5 : xs 5 = .int .i64 P1 := (hC 5 (hd ⟨5, .data⟩ (by simp) rfl)) _ rfl
                      have e9 : xs 9 = .int .i64 P2 := (hC 9 (hd ⟨9, .data⟩ (by simp) rfl)) _ rfl
                      have hK2 := Lib.hid hK
                      have hC2 := Lib.hid hC
                      clear hd hK hC h0
                      go_simp
                      exact hK2.out _ _ ⟨updV xs 10 (.int .i64 (P1 - P2)), by simp [updV, e5, e9], cond_set hC2.out (fun _ _ h => h) (CV.of rfl rfl), hW.keep (by decide) (by decide) (by decide) (by decide), fun h5 => getD_monoT (hP0 (by rw [getD_set_other _ (by decide)] at h5; exact h5)), fun h5 => getD_monoT (hP1_ (by rw [getD_set_other _ (by decide)] at h5; exact h5)), fun h5 => (by rw [getD_set_other _ (by decide)] at h5 ⊢; exact hX h5), fun h5 => (by rw [getD_set_other _ (by decide)] at h5; unfold updV; rw [if_neg (by decide)]; exact hY h5)⟩
                    · intro listed a w' hs hI h0 hd K2 hK
                      obtain ⟨xs, rfl, hC, hW, hP0, hP1_, hX, hY⟩ := hI
                      have e10 : xs 10 = .int .i64 (P1 - P2) := (hC 10 (hd ⟨10, .data⟩ (by simp) rfl)) _ rfl
                      have hK2 := Lib.hid hK
                      have hC2 := Lib.hid hC
                      have hA0 : listed.getD 14 false = false := by
                        cases h5 : listed.getD 14 false with
                        | false => rfl
                        | true => exact absurd (hP0 (hP1_ (hW.mid h5).1.2)) (by rw [getD_tf h0]; decide)
                      have hT9 := hTb.out _ (below_next K9.bel (hW.pre hA0).2.1)
                      clear hd hK hC h0
                      go_simp
                      refine (hit.out _ hT9).mono ?_; rintro e w1 ⟨rfl, B1⟩
                      exact hK2.out _ _ ⟨updV xs 11 (.string IT), by simp [updV, e10], cond_set hC2.out (fun _ _ h => h) (CV.of rfl rfl), hW.turn hA0 B1 (by decide) (by decide) (by decide) (by decide), fun h5 => getD_monoT (hP0 (by rw [getD_set_other _ (by decide)] at h5; exact h5)), fun h5 => getD_monoT (hP1_ (by rw [getD_set_other _ (by decide)] at h5; exact h5)), fun h5 => (by rw [getD_set_other _ (by decide)] at h5 ⊢; exact hX h5), fun h5 => (by rw [getD_set_other _ (by decide)] at h5; unfold updV; rw [if_neg (by decide)]; exact hY h5)⟩
                    · intro listed a w' hs hI h0 hd K2 hK
                      obtain ⟨xs, rfl, hC, hW, hP0, hP1_, hX, hY⟩ := hI
                      have e2 : xs 2 = .string who := (hC 2 (hd ⟨2, .data⟩ (by simp) rfl)) _ rfl
                      have e11 : xs 11 = .string IT := (hC 11 (hd ⟨11, .data⟩ (by simp) rfl)) _ rfl
                      have hK2 := Lib.hid hK
                      have hC2 := Lib.hid hC
                      have hQ0 := Lib.hid (show listed.getD 11 false = true from hd ⟨11, .data⟩ (by simp) rfl)
                      clear hd hK hC h0
                      go_simp
                      exact hK2.out _ _ ⟨updV xs 12 (.agg #[.string who, .string IT]), by simp [updV, e2, e11], cond_set hC2.out (fun _ _ h => h) (CV.of rfl rfl), hW.keep (by decide) (by decide) (by decide) (by decide), fun _ => getD_monoT hQ0.out, fun h5 => getD_monoT (hP1_ (by rw [getD_set_other _ (by decide)] at h5; exact h5)), fun h5 => (by rw [getD_set_other _ (by decide)] at h5 ⊢; exact hX h5), fun h5 => (by rw [getD_set_other _ (by decide)] at h5; unfold updV; rw [if_neg (by decide)]; exact hY h5)⟩
                    · intro listed a w' hs hI h0 hd K2 hK
                      obtain ⟨xs, rfl, hC, hW, hP0, hP1_, hX, hY⟩ := hI
                      have e12 : xs 12 = .agg #[.string who, .string IT] := (hC 12 (hd ⟨12, .data⟩ (by simp) rfl)) _ rfl
                      have hK2 := Lib.hid hK
                      have hC2 := Lib.hid hC
                      have hQ1 := Lib.hid (show listed.getD 12 false = true from hd ⟨12, .data⟩ (by simp) rfl)
                      have hL9 := Lib.hid (hW.lay h0 (by decide) (by decide) (by decide))
                      clear hd hK hC h0
                      go_simp
                      exact hK2.out _ _ ⟨updV xs 13 (.slice (some ⟨w'.heap.size, 0, none⟩) 1 1), by simp [updV, e12], cond_set hC2.out (fun _ _ h => h) (CV.free rfl), hL9.out, fun h5 => getD_monoT (hP0 (by rw [getD_set_other _ (by decide)] at h5; exact h5)), fun _ => getD_monoT hQ1.out, fun h5 => (by rw [getD_set_other _ (by decide)] at h5 ⊢; exact hX h5), fun h5 => (by rw [getD_set_other _ (by decide)] at h5; unfold updV; rw [if_neg (by decide)]; exact hY h5)⟩
                    · intro listed a w' hs hI h0 hd K2 hK
                      obtain ⟨xs, rfl, hC, hW, hP0, hP1_, hX, hY⟩ := hI
                      have e0 : xs 0 = .slice AU acc.length cU := (hC 0 (hd ⟨0, .data⟩ (by simp) rfl)) _ rfl
                      have hK2 := Lib.hid hK
                      have hC2 := Lib.hid hC
                      obtain ⟨o9, B9, z9, q9, hz9, hnx⟩ := hW.app h0 (hd ⟨0, .data⟩ (by simp) rfl) (hd ⟨13, .data⟩ (by simp) rfl) (by decide) (by decide) (by decide)
                      rw [e0] at o9 hnx
                      have hnx' := Lib.hid hnx
                      clear hd hK hC hnx
                      refine step_append_lies _ rfl (.tmp 84) (.tmp 97) 167 (by rfl) _ 172 i0 _ 2 32 Tryz.underlying167 hi0 hz0 hz1 hz2 (by rfl) (by omega) _ _ _ (by show xs 0 = _; exact e0) o9 _ 1 1 ([.string who, .string IT]) (by show xs 13 = _; exact q9) rfl (World.news_of_block hz9) (by simp [Value.oneCell']) (by omega) (by unfold maxLen; omega) (by omega) (Nat.le_trans hz9' B9.size) _ rfl ?_
                      intro g cap w2 ho hg hat hlt
                      exact hK2.out _ _ ⟨updV xs 14 (.slice (some ⟨g, 0, none⟩) ((acc.length) + 1) cap), by first | rfl | simp [updV, Act.put], cond_set hC2.out (fun _ _ h => h) (CV.free rfl), hnx'.out g cap w2 ho hg hat, fun h5 => getD_monoT (hP0 (by rw [getD_set_other _ (by decide)] at h5; exact h5)), fun h5 => getD_monoT (hP1_ (by rw [getD_set_other _ (by decide)] at h5; exact h5)), fun h5 => (by rw [getD_set_other _ (by decide)] at h5; have h6 := (hX h5).1; rw [getD_tf h0] at h6; (cases h6)), fun h5 => (by rw [getD_set_other _ (by decide)] at h5; unfold updV; rw [if_neg (by decide)]; exact hY h5)⟩
                    · intro listed a w' hs hI h0 hd K2 hK
                      obtain ⟨xs, rfl, hC, hW, hP0, hP1_, hX, hY⟩ := hI
                      have hK2 := Lib.hid hK
                      have hC2 := Lib.hid hC
                      have hN9 := Lib.hid (getD_now h0)
                      have hA9 := Lib.hid (show listed.getD 14 false = true from hd ⟨14, .data⟩ (by simp) rfl)
                      clear hd hK hC h0
                      go_simp
                      exact hK2.out _ _ ⟨updV xs 15 (xs 14), by simp [updV], cond_set hC2.out (fun _ _ h => h) (CV.free rfl), hW.keep (by decide) (by decide) (by decide) (by decide), fun h5 => getD_monoT (hP0 (by rw [getD_set_other _ (by decide)] at h5; exact h5)), fun h5 => getD_monoT (hP1_ (by rw [getD_set_other _ (by decide)] at h5; exact h5)), fun _ => ⟨by rw [getD_set_other _ (by decide)]; exact hA9.out, rfl⟩, fun h5 => (by rw [hN9.out] at h5; (cases h5))⟩
                  case he =>
                    intro listed a w' hs hI hr
                    obtain ⟨xs, rfl, hC, hW, hP0, hP1_, hX, hY⟩ := hI
                    have hal := all_listed hs hr ⟨rfl, rfl, rfl, rfl, rfl, rfl, rfl, rfl, rfl, rfl, rfl, rfl, rfl, rfl, rfl, rfl, trivial⟩
                    have e0 : xs 0 = .slice AU acc.length cU := (hC 0 (hal 0 (by simp))) _ rfl
                    have e1 : xs 1 = .pointer (some ⟨b7, 0, none⟩) := (hC 1 (hal 1 (by simp))) _ rfl
                    have e2 : xs 2 = .string who := (hC 2 (hal 2 (by simp))) _ rfl
                    have e3 : xs 3 = .func (Fn.func 212) #[] #[.pointer (some ⟨b9, 0, none⟩)] := (hC 3 (hal 3 (by simp))) _ rfl
                    have e4 : xs 4 = .int .i64 r := (hC 4 (hal 4 (by simp))) _ rfl
                    have e5 : xs 5 = .int .i64 P1 := (hC 5 (hal 5 (by simp))) _ rfl
                    have e6 : xs 6 = .func (Fn.func 212) #[] #[.pointer (some ⟨b9, 0, none⟩)] := (hC 6 (hal 6 (by simp))) _ rfl
                    have e7 : xs 7 = .pointer (some ⟨b7, 1, none⟩) := (hC 7 (hal 7 (by simp))) _ rfl
                    have e8 : xs 8 = .int .i64 rank := (hC 8 (hal 8 (by simp))) _ rfl
                    have e9 : xs 9 = .int .i64 P2 := (hC 9 (hal 9 (by simp))) _ rfl
                    have e10 : xs 10 = .int .i64 (P1 - P2) := (hC 10 (hal 10 (by simp))) _ rfl
                    have e11 : xs 11 = .string IT := (hC 11 (hal 11 (by simp))) _ rfl
                    have e12 : xs 12 = .agg #[.string who, .string IT] := (hC 12 (hal 12 (by simp))) _ rfl
                    obtain ⟨w1, g, cap, b1, b2, b3, b4, b5, b6⟩ := hW.done0 (hal 14 (by simp)) (getD_out (by rw [hs]; simp))
                    have hZ := (hX (hal 15 (by simp))).2
                    clear hC hs hr hal hW hP0 hP1_ hX hY
                    rw [e0] at b2 b5 b6
                    rw [hZ, b3]
                    have K1 := (K9.below b1).own b2 b5
                    have hM3 : Hid ((acc ++ [(⟨who, IT⟩ : Pr)]) ++ mvP v la (lb.drop (j + 1)) = MP) := hM2
                    have ho1 : w'.ownsRow w.heap.size 172 2 (.slice (some ⟨g, 0, none⟩) (acc.length + 1) cap) (acc ++ [(⟨who, IT⟩ : Pr)]).length ((acc ++ [(⟨who, IT⟩ : Pr)]).flatMap prE) := by
                      rw [List.length_append, List.flatMap_append]; exact b4
                    clear b1 b2 b4 b5 b6 e0 e1 e2 e3 e4 e5 e6 e7 e8 e9 e10 e11 e12 K9 ho9 hP1 hP2 hit hM2 hi0 hz0 hz1 hz2 h99 hbx9 K5 ho5
                    go_wp2
                    go_roundw
                    case rel => exact ⟨.slice (some ⟨g, 0, none⟩) (acc.length + 1) cap, _, _, _, .int .i64 ((j : Int) + 1), _, _, _, _, _, _, _, _, _, _, _, _, _, _, _, _, _, _, _, _, _, _, _, _, _, _, _, _, _, _, _, _, _, ⟨j + 1, acc ++ [(⟨who, IT⟩ : Pr)], by omega, by go_num, ho1, by simp; omega, K1, hM3⟩, rfl⟩
                    case measure => simp [intOf]; omega
            · obtain rfl : j = m := by omega
              have hMf : acc = MP := by
                have h9 := hM.out
                rw [drop_end (by rw [hlenB.out]; exact Nat.le_refl _)] at h9
                simpa [mvP] using h9
              subst hMf
              have hbel := K.bel
              have hS := Lib.hid (sortFPr_c 214 prMoved_enters (fun x y W => prMoved_c x y W) acc wy w.heap.size acc.length _ ho (by omega))
              go_wp2_with fail
              refine hS.out.mono ?_; rintro e w8 ⟨rfl, out, ho8, hso, hg8⟩
              have hB8 := below_own hbel ho hg8 hbel.size (Nat.le_refl _)
              have hRP : RPr w8 AU acc.length out := RN.of_own prE_len ho8 (own_len prE_len (by decide) ho8) (by omega)
              clear hS ho ho8 hg8 hbel
              go_wp2
              go_ret2
              rw [← hMP'.out] at hso
              exact ⟨hB8, .inr (.inr ⟨hga.out, hgb.out, AU, acc.length, cU, out, rfl, hRP, hso⟩)⟩
end Go.Proofs.YtklggnglaeagpaaGreatDoor

/- tumbref1.MovedOf. Printed by wip/mkmvr.py. -/
namespace Go.Proofs.YtklggnglaeagpaaGreatDoor
open Go.RowKit
set_option linter.unusedVariables false

theorem plcR_c (r T : Int) (b9 : Nat) (W : World) (h9 : W.heap[b9]? = some (.cells #[.int .i64 T] 3 (0, 0))) : Calls Tryz.prog 215 (#[.int .i64 r] ++ #[.pointer (some ⟨b9, 0, none⟩)]) W fun e w' => e = .returned (.int .i64 (plcK T r)) ∧ w' = W := by
  have z := (blk_facts h9).1 0
  by_cases h0 : r = 0
  · subst h0
    rw [show plcK T 0 = T from if_pos rfl]
    go_enter Tryz.func215, Tryz.ntmps215
    go_wp2
    go_ret
    exact ⟨rfl, rfl⟩
  · rw [show plcK T r = r from if_neg h0]
    have e1 : (r == 0) = false := beq_eq_false_iff_ne.2 h0
    go_enter Tryz.func215, Tryz.ntmps215
    go_wp2
    go_ret
    exact ⟨rfl, rfl⟩
structure KV (w : World) (b9 : Nat) (v : Int) (wx : World) : Prop where
  h9 : wx.heap[b9]? = some (.cells #[.int .i64 v] 3 (0, 0))
  l1 : w.heap.size ≤ b9
  bel : Below w.heap.size w wx
theorem KV.below {w wx w' : World} {b9 : Nat} {v : Int} (h : KV w b9 v wx) (B : Below wx.heap.size wx w') : KV w b9 v w' := ⟨blk_below h.h9 B, h.l1, below_next h.bel B⟩
theorem KV.set9 {w wx : World} {b9 : Nat} {v : Int} (h : KV w b9 v wx) (v' : Int) : KV w b9 v' (wx.setCell ⟨b9, 0, none⟩ (.int .i64 v')) := by
  have hg : wx.grownBy (wx.setCell ⟨b9, 0, none⟩ (.int .i64 v')) (some b9) := grown_setCell (grown_refl wx _) (.inl rfl) _
  exact ⟨blk_set h.h9 0 (.int .i64 v'), h.l1, h.bel.trans (grown_below hg h.l1 h.bel.size)⟩
theorem KV.own {w wx w' : World} {b9 n : Nat} {v : Int} {u : Value} {xs : List Value} (h : KV w b9 v wx) (ho : wx.ownsRow w.heap.size 172 2 u n xs) (hg : wx.grownBy w' u.ownBlock) : KV w b9 v w' :=
  ⟨blk_grown h.h9 hg (fun e => own_neP ho h.h9 (by decide) e.symm), h.l1, below_own h.bel ho hg h.bel.size (Nat.le_refl _)⟩
theorem prMovedOf_enters : ∀ args w, (callFunc 216 args).run Tryz.prog w = .ok (.enter 216 args) w := enters_of Tryz.func216 (by kernel_rfl) rfl
set_option maxHeartbeats 12800000 in
set_option maxRecDepth 100000 in
theorem movedOf_c (A B : Option Addr) (n c m d : Nat) (la lb : List Rk) (w : World) (hA : RRk w A n la) (hB : RRk w B m lb) (hAn : A = none → c = 0) (hBn : B = none → d = 0) (hT : Tb w) (ha : rkErr la = 0) (hb : rkErr lb = 0) :
    Calls Tryz.prog 102 #[.slice A n c, .slice B m d] w fun e w' => ∃ A' n' c' out, e = .returned (.slice A' n' c') ∧ RPr w' A' n' out ∧ PrSorted (mvR (lastK (la ++ lb)) la lb) out ∧ Below w.heap.size w w' := by
  have hR1 := Lib.hid (fun W h => hA.below (w' := W) h)
  have hR2 := Lib.hid (fun W h => hB.below (w' := W) h)
  obtain ⟨hn, hok1, hnd1⟩ := rkErr_all ha
  obtain ⟨hm, hok2, hnd2⟩ := rkErr_all hb
  rw [hA.len] at hn
  rw [hB.len] at hm
  have hCC := Lib.hid (fun z W hz h1 h2 => concatK_c A B n c m d z la lb W hz h1 h2 hAn hBn (by omega) (by omega))
  have hlenA := Lib.hid hA.len
  have hlenB := Lib.hid hB.len
  have hbd1 := Lib.hid (fun x (hx : x ∈ la) => show 0 ≤ x.rank ∧ x.rank ≤ 300 from (rk1_all (hok1 x hx)).2.1)
  have hbd2 := Lib.hid (fun x (hx : x ∈ lb) => show 0 ≤ x.rank ∧ x.rank ≤ 300 from (rk1_all (hok2 x hx)).2.1)
  have hll := Lib.hid (show (la ++ lb).length = n + m by rw [List.length_append, hA.len, hB.len])
  have hbd3 := Lib.hid (fun x (hx : x ∈ la ++ lb) => show 0 ≤ x.rank ∧ x.rank ≤ 300 by
    rcases List.mem_append.1 hx with h | h
    · exact hbd1.out x h
    · exact hbd2.out x h)
  have hTl := Lib.hid (show (la ++ lb).foldl (fun v x => max v (x.rank + 1)) 1 = lastK (la ++ lb) from rfl)
  have hTb1 : 1 ≤ lastK (la ++ lb) ∧ lastK (la ++ lb) ≤ 301 := ⟨(lastF_ge _ 1).1, lastF_le _ 1 (by omega) fun x hx => (hbd3.out x hx).2⟩
  generalize lastK (la ++ lb) = TL at *
  have hML := Lib.hid (show (mvR TL la lb).length ≤ 300 by have := mvR_len (t := TL) hnd2 la; have := hA.len; omega)
  have hTb := Lib.hid (fun W (h : Below w.heap.size w W) => hT.below h)
  have hz := heap_alloc_new (w.alloc (.cells #[.int .i64 1] 3)) (.cells #[.slice A n c, .slice B m d] 34 (0, 0))
  rw [alloc_size] at hz
  have h50 := blk_alloc (heap_alloc_new w (.cells #[.int .i64 1] 3)) (.cells #[.slice A n c, .slice B m d] 34 (0, 0))
  have hB2 := (below_new w (.cells #[.int .i64 1] 3)).alloc (below_new w (.cells #[.int .i64 1] 3)).size (.cells #[.slice A n c, .slice B m d] 34 (0, 0))
  have K0 : KV w w.heap.size 1 ((w.alloc (.cells #[.int .i64 1] 3)).alloc (.cells #[.slice A n c, .slice B m d] 34 (0, 0))) := ⟨h50, Nat.le_refl _, hB2⟩
  have hC9 := Lib.hid (hCC.out _ _ hz (hR1.out _ hB2) (hR2.out _ hB2))
  clear hok1 hok2 hnd1 hnd2 hA hB hAn hBn ha hb hT hCC hz h50 hB2
  go_enter Tryz.func102, Tryz.ntmps102
  go_wp2_with fail
  refine hC9.out.mono ?_; rintro e w6 ⟨A6, c6, rfl, hown, B6⟩
  have K6 := K0.below B6
  have hR6 : RRk w6 A6 (n + m) (la ++ lb) := RN.of_own rkE_len hown hll.out (by omega)
  clear hown B6 hC9 K0
  have hTl0 := Lib.hid (show ((la ++ lb).drop 0).foldl (fun v x => max v (x.rank + 1)) 1 = TL by rw [List.drop_zero]; exact hTl.out)
  go_wp2_with fail
  go_loopw [20] (fun i wx => ∃ (j : Nat) (v : Int), j ≤ n + m ∧ i = .int .i64 j ∧ 0 ≤ v ∧ v ≤ 301 ∧ KV w w.heap.size v wx ∧ RRk wx A6 (n + m) (la ++ lb) ∧ Hid (((la ++ lb).drop j).foldl (fun v x => max v (x.rank + 1)) v = TL)) (fun i _ => (n + m) - (intOf i).toNat)
  case atStart => exact ⟨0, 1, Nat.zero_le _, rfl, by omega, by omega, K6, hR6, hTl0⟩
  case round =>
    clear K6 hR6 hTl0
    rename World => wx
    obtain ⟨j, v, hj, rfl, v0, v1, K, hR, hF⟩ := hrel
    by_cases hlt2 : j < n + m
    · obtain ⟨b, off, x, rfl, hbl, hx, c0, c1, c2, c3⟩ := RRk.at4 hR hlt2
      obtain ⟨hb1, hb2⟩ := hbd3.out x (List.mem_of_getElem? hx)
      have hF2 := Lib.hid (show ((la ++ lb).drop (j + 1)).foldl (fun v x => max v (x.rank + 1)) (max v (x.rank + 1)) = TL by rw [← lastF_at v hx]; exact hF.out)
      obtain ⟨who, rank, time, fault⟩ := x
      dsimp only at *
      have K5 := K.below (below_new wx (.cells #[.string who, .int .i64 rank, .int .i64 time, .int .i64 fault] 48))
      have hR5 := hR.below (below_new wx (.cells #[.string who, .int .i64 rank, .int .i64 time, .int .i64 fault] 48))
      have z1 := (blk_facts (heap_alloc_new wx (.cells #[.string who, .int .i64 rank, .int .i64 time, .int .i64 fault] 48))).1 1
      have z9 := (blk_facts K5.h9).1 0
      have f9 := (blk_facts K5.h9).2 0
      have e1 : IntKind.i64.wrap (rank + 1) = rank + 1 := IntWalk.i64_in _ (by omega)
      have K7 := K5.set9 (max v (rank + 1))
      have hR7 := rk_keep9 (v' := max v (rank + 1)) hR5 K5.h9
      clear hx K hR hR5 hF
      go_wp2
      go_roundw
      case rel => exact ⟨j + 1, max v (rank + 1), by omega, by go_num, by omega, by omega, K7, hR7, hF2⟩
      case measure => simp [intOf]; omega
    · obtain rfl : j = n + m := by omega
      obtain rfl : v = TL := by
        have h9 := hF.out
        rw [drop_end (by rw [hll.out]; exact Nat.le_refl _)] at h9
        exact h9
      have hM0 := Lib.hid (show [] ++ mvR v (la.drop 0) lb = mvR v la lb from rfl)
      obtain ⟨MP, hMP⟩ : ∃ MP, mvR v la lb = MP := ⟨_, rfl⟩
      rw [hMP] at hM0 hML
      have hMP' := Lib.hid hMP
      have hAt := Lib.hid (fun (j : Nat) (x : Rk) (h : la[j]? = some x) => mvR_at (t := v) (lb := lb) h)
      have hIn := Lib.hid (fun (x : Rk) (j : Nat) (y : Rk) (h : lb[j]? = some y) => mvIn_at (t := v) (x := x) h)
      clear hR hF hMP hTl
      have hz9 := K.bel.size
      go_wp2_with fail
      go_loopw [9, 33] (fun u i wy => ∃ (k : Nat) (acc : List Pr), k ≤ n ∧ i = .int .i64 k ∧ wy.ownsRow w.heap.size 172 2 u acc.length (acc.flatMap prE) ∧ KV w w.heap.size v wy ∧ Hid (acc ++ mvR v (la.drop k) lb = MP)) (fun _ i _ => n - (intOf i).toNat)
      case atStart => exact ⟨0, [], Nat.zero_le _, rfl, World.ownsRow_nil _ _ _ _, K, hM0⟩
      case round =>
        clear K hM0 hz9
        rename World => wy
        obtain ⟨k, acc, hk, rfl, ho, K, hM⟩ := hrel
        by_cases hlt : k < n
        · obtain ⟨b, off, x, rfl, hbl, hx, c0, c1, c2, c3⟩ := RRk.at4 (hR1.out _ K.bel) hlt
          have hrb := hbd1.out x (List.mem_of_getElem? hx)
          have hMa : Hid (acc ++ (mvIn v x (lb.drop 0) ++ mvR v (la.drop (k + 1)) lb) = MP) := Lib.hid (by rw [← hM.out, hAt.out k x hx, List.drop_zero])
          have hInx := Lib.hid (hIn.out x)
          have hIe := Lib.hid (show mvIn v x [] = [] from rfl)
          have hTw := Lib.hid (fun y : Rk => show mvTwo v x y = if x.who = y.who ∧ plcK v x.rank - plcK v y.rank ≠ 0 then [⟨x.who, itoaS (plcK v x.rank - plcK v y.rank)⟩] else [] from rfl)
          generalize mvIn v x = MI at *
          generalize mvTwo v x = MT at *
          obtain ⟨RST, hRST⟩ : ∃ R, mvR v (la.drop (k + 1)) lb = R := ⟨_, rfl⟩
          rw [hRST] at hMa
          have hRS' := Lib.hid hRST
          clear hRST
          obtain ⟨who, rank, time, fault⟩ := x
          dsimp only at *
          have hbx0 := heap_alloc_new wy (.cells #[.string who, .int .i64 rank, .int .i64 time, .int .i64 fault] 48)
          have K5 := K.below (below_new wy (.cells #[.string who, .int .i64 rank, .int .i64 time, .int .i64 fault] 48))
          have ho5 := own_below ho (below_new wy (.cells #[.string who, .int .i64 rank, .int .i64 time, .int .i64 fault] 48))
          have p1 := plc_bd hTb1 hrb
          have hl5 : w.heap.size < wy.heap.size := lt_of_heap K.h9
          clear hx K ho hM hAt hIn hrb
          go_wp2_with fail
          clear c0 c1 c2 c3
          generalize wy.alloc (.cells #[.string who, .int .i64 rank, .int .i64 time, .int .i64 fault] 48) = wB at *
          generalize wy.heap.size = b11 at *
          go_loopw [9, 39] (fun u i wx => ∃ (j : Nat) (acc : List Pr), j ≤ m ∧ i = .int .i64 j ∧ wx.ownsRow w.heap.size 172 2 u acc.length (acc.flatMap prE) ∧ KV w w.heap.size v wx ∧ wx.heap[b11]? = some (.cells #[.string who, .int .i64 rank, .int .i64 time, .int .i64 fault] 48 (0, 0)) ∧ Hid (acc ++ (MI (lb.drop j) ++ RST) = MP)) (fun _ i _ => m - (intOf i).toNat)
          case atStart => exact ⟨0, acc, Nat.zero_le _, rfl, ho5, K5, hbx0, hMa⟩
          case round =>
            clear K5 ho5 hbx0 hMa
            rename World => wx
            obtain ⟨j, acc, hj, rfl, ho, K, hbx, hM⟩ := hrel
            obtain ⟨AU, cU, rfl⟩ := own_shape ho
            by_cases hltj : j < m
            · obtain ⟨b2, off2, y, rfl, hbl2, hy, d0, d1, d2, d3⟩ := RRk.at4 (hR2.out _ K.bel) hltj
              have hrb2 := hbd2.out y (List.mem_of_getElem? hy)
              have hMa := Lib.hid (hInx.out j y hy)
              have hTwy := Lib.hid (hTw.out y)
              generalize MT y = TY at *
              obtain ⟨who2, rank2, time2, fault2⟩ := y
              dsimp only at *
              have hby := heap_alloc_new wx (.cells #[.string who2, .int .i64 rank2, .int .i64 time2, .int .i64 fault2] 48)
              have K5 := K.below (below_new wx (.cells #[.string who2, .int .i64 rank2, .int .i64 time2, .int .i64 fault2] 48))
              have ho5 := own_below ho (below_new wx (.cells #[.string who2, .int .i64 rank2, .int .i64 time2, .int .i64 fault2] 48))
              have hbx5 := blk_alloc hbx (.cells #[.string who2, .int .i64 rank2, .int .i64 time2, .int .i64 fault2] 48)
              have p2 := plc_bd hTb1 hrb2
              have hal : acc.length ≤ 300 := by
                have h9 := congrArg List.length hM.out
                rw [List.length_append] at h9
                have := hML.out; omega
              have hskip : TY = [] → Hid (acc ++ (MI (lb.drop (j + 1)) ++ RST) = MP) := fun e => Lib.hid (by rw [← hM.out, hMa.out, e]; rfl)
              have hput : ∀ q, TY = [q] → Hid ((acc ++ [q]) ++ (MI (lb.drop (j + 1)) ++ RST) = MP) := fun q e => Lib.hid (by rw [← hM.out, hMa.out, e]; simp)
              clear hy K ho hM hMa hbx hrb2
              go_wp2_with fail
              clear d0 d1 d2 d3
              have x0 := (blk_facts hbx5).1 0
              have x1 := (blk_facts hbx5).1 1
              have y0 := (blk_facts hby).1 0
              have y1 := (blk_facts hby).1 1
              generalize wx.alloc (.cells #[.string who2, .int .i64 rank2, .int .i64 time2, .int .i64 fault2] 48) = wA at *
              generalize wx.heap.size = b13 at *
              have hP1 := Lib.hid (fun q => show Calls Tryz.prog 215 (#[.int .i64 rank] ++ #[.pointer (some ⟨w.heap.size, 0, none⟩)]) (wA.drewN q) fun e w' => e = .returned (.int .i64 (plcK v rank)) ∧ w' = wA.drewN q from plcR_c rank v _ (wA.drewN q) K5.h9)
              have hP2 := Lib.hid (fun q => show Calls Tryz.prog 215 (#[.int .i64 rank2] ++ #[.pointer (some ⟨w.heap.size, 0, none⟩)]) (wA.drewN q) fun e w' => e = .returned (.int .i64 (plcK v rank2)) ∧ w' = wA.drewN q from plcR_c rank2 v _ (wA.drewN q) K5.h9)
              have k9 : IntKind.i64.wrap (plcK v rank - plcK v rank2) = plcK v rank - plcK v rank2 := IntWalk.i64_in _ (by omega)
              have hit := Lib.hid (fun W h => itoa_c (plcK v rank - plcK v rank2) W h (by omega) (by omega))
              generalize itoaS (plcK v rank - plcK v rank2) = IT at *
              generalize plcK v rank = P1 at *
              generalize plcK v rank2 = P2 at *
              go_quiet (first | exact Calls.quiet_of_same (hP1.out _) | exact Calls.quiet_of_same (hP2.out _))
              by_cases hw : who = who2
              rotate_left
              · have hM2 := hskip (by rw [hTwy.out, if_neg (fun h => hw h.1)])
                have e9 : (who.toList == who2.toList) = false := beq_eq_false_iff_ne.2 (fun e => hw (bytes_inj (by rw [← ByteArray.toList_eq, ← ByteArray.toList_eq]; exact e)))
                clear hskip hput hTwy hw
                go_wp2
                go_roundw
                case rel => exact ⟨j + 1, acc, by omega, by go_num, own_below ho5 (below_drewN (Below.refl _ _) _), K5.below (below_drewN (Below.refl _ _) _), hbx5, hM2⟩
                case measure => simp [intOf]; omega
              subst hw
              have e9 : (who.toList == who.toList) = true := beq_self_eq_true _
              by_cases h0 : P1 - P2 = 0
              · have hM2 := hskip (by rw [hTwy.out, if_neg (fun h => h.2 h0)])
                clear hskip hput hTwy hP1 hP2 hit
                rw [h0]
                go_wp2
                go_roundw
                case rel => exact ⟨j + 1, acc, by omega, by go_num, own_below ho5 (below_drewN (Below.refl _ _) _), K5.below (below_drewN (Below.refl _ _) _), hbx5, hM2⟩
                case measure => simp [intOf]; omega
              · have hM2 := hput ⟨who, IT⟩ (by rw [hTwy.out, if_pos ⟨rfl, h0⟩])
                have e8 : (P1 - P2 != 0) = true := by simpa using h0
                clear hskip hput hTwy hP1 hP2 h0
                go_wp2_with fail
                have K9 := K5.below (below_drewN (below_drewN (Below.refl wA.heap.size wA) nq) 1)
                have ho9 := own_below ho5 (below_drewN (below_drewN (Below.refl wA.heap.size wA) nq) 1)
                have hbx9 : ((wA.drewN nq).drew).heap[b11]? = some (.cells #[.string who, .int .i64 rank, .int .i64 time, .int .i64 fault] 48 (0, 0)) := hbx5
                have hn7 : b11 ≠ w.heap.size := by omega
                have hz9' := K9.bel.size
                clear p1 p2 x0 x1 y0 y1 hby
                obtain ⟨i0, hi0, hz0, hz1, hz2⟩ := info_parts info_prS
                refine wp_region_inv (by kernel_rfl) (fun listed a w' => ∃ xs : Nat → Value, a = { tmps := #[.slice (some ⟨b, off, none⟩) n c, .slice (some ⟨b2, off2, none⟩) m d, undef, undef, .slice none 0 0, .pointer (some ⟨w.heap.size, 0, none⟩), undef, u7, .func (Fn.func 215) #[] #[.pointer (some ⟨w.heap.size, 0, none⟩)], xs 8, undef, .pointer (some ⟨b11, 0, none⟩), undef, .pointer (some ⟨b13, 0, none⟩), .int .i64 (P1 - P2), .slice (some ⟨b, off, none⟩) n c, .slice (some ⟨b2, off2, none⟩) m d, .slice (some ⟨w.heap.size + 1, 0, none⟩) 2 2, .slice A6 (n + m) c6, .int .i64 (↑n + ↑m), .int .i64 ↑(n + m), .bool false, u22, u23, u24, u25, u26, u27, u28, u29, .func (Fn.func 215) #[] #[.pointer (some ⟨w.heap.size, 0, none⟩)], .slice (some ⟨b, off, none⟩) n c, .int .i64 ↑n, .int .i64 ↑k, .bool true, .pointer (some ⟨b, off + k * 4, none⟩), .agg #[.string who, .int .i64 rank, .int .i64 time, .int .i64 fault], .slice (some ⟨b2, off2, none⟩) m d, .int .i64 ↑m, .int .i64 ↑j, .bool true, .pointer (some ⟨b2, off2 + j * 4, none⟩), .agg #[.string who, .int .i64 rank2, .int .i64 time2, .int .i64 fault2], .func (Fn.func 215) #[] #[.pointer (some ⟨w.heap.size, 0, none⟩)], .pointer (some ⟨b11, 1, none⟩), .int .i64 rank, .int .i64 P1, .func (Fn.func 215) #[] #[.pointer (some ⟨w.heap.size, 0, none⟩)], .pointer (some ⟨b13, 1, none⟩), .int .i64 rank2, .int .i64 P2, .int .i64 (P1 - P2), .pointer (some ⟨b11, 0, none⟩), .string who, .pointer (some ⟨b13, 0, none⟩), .string who, .bool true, .bool true, .int .i64 (P1 - P2), .bool true, .bool true, xs 0, xs 1, xs 2, xs 3, xs 4, xs 5, xs 6, xs 7, u69, u70, undef, undef, undef], defers := [] } ∧ (∀ j, listed.getD j false = true → CV [some (.slice AU acc.length cU), some (.pointer (some ⟨b11, 0, none⟩)), some (.string who), some (.int .i64 (P1 - P2)), some (.string IT), some (.agg #[.string who, .string IT]), none, none, none] j w' (xs j)) ∧ ApSt (w.heap.size) 172 2 (acc.length) (acc.flatMap prE) ([.string who, .string IT]) ((wA.drewN nq).drew) 0 6 7 1000 ⟨w.heap.size, 0, none⟩ listed xs w' ∧ (listed.getD 5 false = true → listed.getD 4 false = true) ∧ (listed.getD 6 false = true → listed.getD 5 false = true) ∧ (listed.getD 8 false = true → listed.getD 7 false = true ∧ xs 8 = xs 7) ∧ (listed.getD 8 false = false → xs 8 = .slice AU acc.length cU)) ?h0 (AllOps.of ?hs) ?he
                case h0 => exact ⟨fun j => match j with | 0 => u61 | 1 => u62 | 2 => u63 | 3 => u64 | 4 => u65 | 5 => u66 | 6 => u67 | 7 => u68 | 8 => .slice AU acc.length cU | _ => undef, rfl, (fun j hj => by rw [rep_falseA] at hj; cases hj), ApSt.start, fun h => (by rw [rep_falseA] at h; (cases h)), fun h => (by rw [rep_falseA] at h; (cases h)), fun h => (by rw [rep_falseA] at h; (cases h)), fun _ => rfl⟩
                case hs =>
                  refine ⟨?_, ?_, ?_, ?_, ?_, ?_, ?_, ?_, ?_, trivial⟩
                  · intro listed a w' hs hI h0 hd K2 hK
                    obtain ⟨xs, rfl, hC, hW, hP0, hP1, hX, hY⟩ := hI
                    have hK2 := Lib.hid hK
                    have hC2 := Lib.hid hC
                    have hZ0 : listed.getD 8 false = false := by
                      cases h5 : listed.getD 8 false with
                      | false => rfl
                      | true => exact absurd (hW.mid (hX h5).1).1.1 (by rw [getD_tf h0]; decide)
                    have eZ := hY hZ0
                    have B9 := hW.below h0
                    have hU9 := Lib.hid (hW.row h0 (Below.refl _ _) (v := .slice AU acc.length cU) (own_below ho9 B9) (by decide) (by decide) (by decide))
                    clear hd hK hC h0
                    go_simp
                    exact hK2.out _ _ ⟨updV xs 0 (.slice AU acc.length cU), by simp [updV, eZ], cond_set hC2.out (fun _ _ h => h) (CV.of rfl rfl), hU9.out, fun h5 => getD_monoT (hP0 (by rw [getD_set_other _ (by decide)] at h5; exact h5)), fun h5 => getD_monoT (hP1 (by rw [getD_set_other _ (by decide)] at h5; exact h5)), fun h5 => (by rw [getD_set_other _ (by decide)] at h5 ⊢; exact hX h5), fun h5 => (by rw [getD_set_other _ (by decide)] at h5; unfold updV; rw [if_neg (by decide)]; exact hY h5)⟩
                  · intro listed a w' hs hI h0 hd K2 hK
                    obtain ⟨xs, rfl, hC, hW, hP0, hP1, hX, hY⟩ := hI
                    have hK2 := Lib.hid hK
                    have hC2 := Lib.hid hC
                    clear hd hK hC h0
                    go_simp
                    exact hK2.out _ _ ⟨updV xs 1 (.pointer (some ⟨b11, 0, none⟩)), by simp [updV], cond_set hC2.out (fun _ _ h => h) (CV.of rfl rfl), hW.keep (by decide) (by decide) (by decide) (by decide), fun h5 => getD_monoT (hP0 (by rw [getD_set_other _ (by decide)] at h5; exact h5)), fun h5 => getD_monoT (hP1 (by rw [getD_set_other _ (by decide)] at h5; exact h5)), fun h5 => (by rw [getD_set_other _ (by decide)] at h5 ⊢; exact hX h5), fun h5 => (by rw [getD_set_other _ (by decide)] at h5; unfold updV; rw [if_neg (by decide)]; exact hY h5)⟩
                  · intro listed a w' hs hI h0 hd K2 hK
                    obtain ⟨xs, rfl, hC, hW, hP0, hP1, hX, hY⟩ := hI
                    have e1 : xs 1 = .pointer (some ⟨b11, 0, none⟩) := (hC 1 (hd ⟨1, .data⟩ (by simp) rfl)) _ rfl
                    have hK2 := Lib.hid hK
                    have hC2 := Lib.hid hC
                    have q9 := hW.blkTyp hbx9 (by decide) hn7
                    have c9 := (blk_facts q9).1 0
                    clear hd hK hC h0
                    go_simp
                    exact hK2.out _ _ ⟨updV xs 2 (.string who), by simp [updV, e1], cond_set hC2.out (fun _ _ h => h) (CV.of rfl rfl), hW.keep (by decide) (by decide) (by decide) (by decide), fun h5 => getD_monoT (hP0 (by rw [getD_set_other _ (by decide)] at h5; exact h5)), fun h5 => getD_monoT (hP1 (by rw [getD_set_other _ (by decide)] at h5; exact h5)), fun h5 => (by rw [getD_set_other _ (by decide)] at h5 ⊢; exact hX h5), fun h5 => (by rw [getD_set_other _ (by decide)] at h5; unfold updV; rw [if_neg (by decide)]; exact hY h5)⟩
                  · intro listed a w' hs hI h0 hd K2 hK
                    obtain ⟨xs, rfl, hC, hW, hP0, hP1, hX, hY⟩ := hI
                    have hK2 := Lib.hid hK
                    have hC2 := Lib.hid hC
                    clear hd hK hC h0
                    go_simp
                    exact hK2.out _ _ ⟨updV xs 3 (.int .i64 (P1 - P2)), by simp [updV], cond_set hC2.out (fun _ _ h => h) (CV.of rfl rfl), hW.keep (by decide) (by decide) (by decide) (by decide), fun h5 => getD_monoT (hP0 (by rw [getD_set_other _ (by decide)] at h5; exact h5)), fun h5 => getD_monoT (hP1 (by rw [getD_set_other _ (by decide)] at h5; exact h5)), fun h5 => (by rw [getD_set_other _ (by decide)] at h5 ⊢; exact hX h5), fun h5 => (by rw [getD_set_other _ (by decide)] at h5; unfold updV; rw [if_neg (by decide)]; exact hY h5)⟩
                  · intro listed a w' hs hI h0 hd K2 hK
                    obtain ⟨xs, rfl, hC, hW, hP0, hP1, hX, hY⟩ := hI
                    have e3 : xs 3 = .int .i64 (P1 - P2) := (hC 3 (hd ⟨3, .data⟩ (by simp) rfl)) _ rfl
                    have hK2 := Lib.hid hK
                    have hC2 := Lib.hid hC
                    have hA0 : listed.getD 7 false = false := by
                      cases h5 : listed.getD 7 false with
                      | false => rfl
                      | true => exact absurd (hP0 (hP1 (hW.mid h5).1.2)) (by rw [getD_tf h0]; decide)
                    have hT9 := hTb.out _ (below_next K9.bel (hW.pre hA0).2.1)
                    clear hd hK hC h0
                    go_simp
                    refine (hit.out _ hT9).mono ?_; rintro e w1 ⟨rfl, B1⟩
                    exact hK2.out _ _ ⟨updV xs 4 (.string IT), by simp [updV, e3], cond_set hC2.out (fun _ _ h => h) (CV.of rfl rfl), hW.turn hA0 B1 (by decide) (by decide) (by decide) (by decide), fun h5 => getD_monoT (hP0 (by rw [getD_set_other _ (by decide)] at h5; exact h5)), fun h5 => getD_monoT (hP1 (by rw [getD_set_other _ (by decide)] at h5; exact h5)), fun h5 => (by rw [getD_set_other _ (by decide)] at h5 ⊢; exact hX h5), fun h5 => (by rw [getD_set_other _ (by decide)] at h5; unfold updV; rw [if_neg (by decide)]; exact hY h5)⟩
                  · intro listed a w' hs hI h0 hd K2 hK
                    obtain ⟨xs, rfl, hC, hW, hP0, hP1, hX, hY⟩ := hI
                    have e2 : xs 2 = .string who := (hC 2 (hd ⟨2, .data⟩ (by simp) rfl)) _ rfl
                    have e4 : xs 4 = .string IT := (hC 4 (hd ⟨4, .data⟩ (by simp) rfl)) _ rfl
                    have hK2 := Lib.hid hK
                    have hC2 := Lib.hid hC
                    have hQ0 := Lib.hid (show listed.getD 4 false = true from hd ⟨4, .data⟩ (by simp) rfl)
                    clear hd hK hC h0
                    go_simp
                    exact hK2.out _ _ ⟨updV xs 5 (.agg #[.string who, .string IT]), by simp [updV, e2, e4], cond_set hC2.out (fun _ _ h => h) (CV.of rfl rfl), hW.keep (by decide) (by decide) (by decide) (by decide), fun _ => getD_monoT hQ0.out, fun h5 => getD_monoT (hP1 (by rw [getD_set_other _ (by decide)] at h5; exact h5)), fun h5 => (by rw [getD_set_other _ (by decide)] at h5 ⊢; exact hX h5), fun h5 => (by rw [getD_set_other _ (by decide)] at h5; unfold updV; rw [if_neg (by decide)]; exact hY h5)⟩
                  · intro listed a w' hs hI h0 hd K2 hK
                    obtain ⟨xs, rfl, hC, hW, hP0, hP1, hX, hY⟩ := hI
                    have e5 : xs 5 = .agg #[.string who, .string IT] := (hC 5 (hd ⟨5, .data⟩ (by simp) rfl)) _ rfl
                    have hK2 := Lib.hid hK
                    have hC2 := Lib.hid hC
                    have hQ1 := Lib.hid (show listed.getD 5 false = true from hd ⟨5, .data⟩ (by simp) rfl)
                    have hL9 := Lib.hid (hW.lay h0 (by decide) (by decide) (by decide))
                    clear hd hK hC h0
                    go_simp
                    exact hK2.out _ _ ⟨updV xs 6 (.slice (some ⟨w'.heap.size, 0, none⟩) 1 1), by simp [updV, e5], cond_set hC2.out (fun _ _ h => h) (CV.free rfl), hL9.out, fun h5 => getD_monoT (hP0 (by rw [getD_set_other _ (by decide)] at h5; exact h5)), fun _ => getD_monoT hQ1.out, fun h5 => (by rw [getD_set_other _ (by decide)] at h5 ⊢; exact hX h5), fun h5 => (by rw [getD_set_other _ (by decide)] at h5; unfold updV; rw [if_neg (by decide)]; exact hY h5)⟩
                  · intro listed a w' hs hI h0 hd K2 hK
                    obtain ⟨xs, rfl, hC, hW, hP0, hP1, hX, hY⟩ := hI
                    have e0 : xs 0 = .slice AU acc.length cU := (hC 0 (hd ⟨0, .data⟩ (by simp) rfl)) _ rfl
                    have hK2 := Lib.hid hK
                    have hC2 := Lib.hid hC
                    obtain ⟨o9, B9, z9, q9, hz9, hnx⟩ := hW.app h0 (hd ⟨0, .data⟩ (by simp) rfl) (hd ⟨6, .data⟩ (by simp) rfl) (by decide) (by decide) (by decide)
                    rw [e0] at o9 hnx
                    have hnx' := Lib.hid hnx
                    clear hd hK hC hnx
                    refine step_append_lies _ rfl (.tmp 61) (.tmp 67) 167 (by rfl) _ 172 i0 _ 2 32 Tryz.underlying167 hi0 hz0 hz1 hz2 (by rfl) (by omega) _ _ _ (by show xs 0 = _; exact e0) o9 _ 1 1 ([.string who, .string IT]) (by show xs 6 = _; exact q9) rfl (World.news_of_block hz9) (by simp [Value.oneCell']) (by omega) (by unfold maxLen; omega) (by omega) (Nat.le_trans hz9' B9.size) _ rfl ?_
                    intro g cap w2 ho hg hat hlt
                    exact hK2.out _ _ ⟨updV xs 7 (.slice (some ⟨g, 0, none⟩) ((acc.length) + 1) cap), by first | rfl | simp [updV, Act.put], cond_set hC2.out (fun _ _ h => h) (CV.free rfl), hnx'.out g cap w2 ho hg hat, fun h5 => getD_monoT (hP0 (by rw [getD_set_other _ (by decide)] at h5; exact h5)), fun h5 => getD_monoT (hP1 (by rw [getD_set_other _ (by decide)] at h5; exact h5)), fun h5 => (by rw [getD_set_other _ (by decide)] at h5; have h6 := (hX h5).1; rw [getD_tf h0] at h6; (cases h6)), fun h5 => (by rw [getD_set_other _ (by decide)] at h5; unfold updV; rw [if_neg (by decide)]; exact hY h5)⟩
                  · intro listed a w' hs hI h0 hd K2 hK
                    obtain ⟨xs, rfl, hC, hW, hP0, hP1, hX, hY⟩ := hI
                    have hK2 := Lib.hid hK
                    have hC2 := Lib.hid hC
                    have hN9 := Lib.hid (getD_now h0)
                    have hA9 := Lib.hid (show listed.getD 7 false = true from hd ⟨7, .data⟩ (by simp) rfl)
                    clear hd hK hC h0
                    go_simp
                    exact hK2.out _ _ ⟨updV xs 8 (xs 7), by simp [updV], cond_set hC2.out (fun _ _ h => h) (CV.free rfl), hW.keep (by decide) (by decide) (by decide) (by decide), fun h5 => getD_monoT (hP0 (by rw [getD_set_other _ (by decide)] at h5; exact h5)), fun h5 => getD_monoT (hP1 (by rw [getD_set_other _ (by decide)] at h5; exact h5)), fun _ => ⟨by rw [getD_set_other _ (by decide)]; exact hA9.out, rfl⟩, fun h5 => (by rw [hN9.out] at h5; (cases h5))⟩
                case he =>
                  intro listed a w' hs hI hr
                  obtain ⟨xs, rfl, hC, hW, hP0, hP1, hX, hY⟩ := hI
                  have hal := all_listed hs hr ⟨rfl, rfl, rfl, rfl, rfl, rfl, rfl, rfl, rfl, trivial⟩
                  have e0 : xs 0 = .slice AU acc.length cU := (hC 0 (hal 0 (by simp))) _ rfl
                  have e1 : xs 1 = .pointer (some ⟨b11, 0, none⟩) := (hC 1 (hal 1 (by simp))) _ rfl
                  have e2 : xs 2 = .string who := (hC 2 (hal 2 (by simp))) _ rfl
                  have e3 : xs 3 = .int .i64 (P1 - P2) := (hC 3 (hal 3 (by simp))) _ rfl
                  have e4 : xs 4 = .string IT := (hC 4 (hal 4 (by simp))) _ rfl
                  have e5 : xs 5 = .agg #[.string who, .string IT] := (hC 5 (hal 5 (by simp))) _ rfl
                  obtain ⟨w1, g, cap, b1, b2, b3, b4, b5, b6⟩ := hW.done0 (hal 7 (by simp)) (getD_out (by rw [hs]; simp))
                  have hZ := (hX (hal 8 (by simp))).2
                  clear hC hs hr hal hW hP0 hP1 hX hY
                  rw [e0] at b2 b5 b6
                  rw [hZ, b3]
                  have K1 := (K9.below b1).own b2 b5
                  have hb1 : w'.heap[b11]? = some (.cells #[.string who, .int .i64 rank, .int .i64 time, .int .i64 fault] 48 (0, 0)) := blk_grown (blk_below hbx9 b1) b5 (fun e => own_neP b2 (blk_below hbx9 b1) (by decide) e.symm)
                  have ho1 : w'.ownsRow w.heap.size 172 2 (.slice (some ⟨g, 0, none⟩) (acc.length + 1) cap) (acc ++ [(⟨who, IT⟩ : Pr)]).length ((acc ++ [(⟨who, IT⟩ : Pr)]).flatMap prE) := by
                    rw [List.length_append, List.flatMap_append]; exact b4
                  clear b1 b2 b4 b5 b6 e0 e1 e2 e3 e4 e5 K9 ho9 hit hi0 hz0 hz1 hz2 hbx9 K5 ho5 hbx5
                  go_wp2
                  go_roundw
                  case rel => exact ⟨.slice (some ⟨g, 0, none⟩) (acc.length + 1) cap, _, _, .int .i64 ((j : Int) + 1), _, _, _, _, _, _, _, _, _, _, _, _, _, _, _, _, _, _, _, _, _, _, _, _, _, _, _, _, _, _, ⟨j + 1, acc ++ [(⟨who, IT⟩ : Pr)], by omega, by go_num, ho1, K1, hb1, hM2⟩, rfl⟩
                  case measure => simp [intOf]; omega
            · obtain rfl : j = m := by omega
              have hM2 : Hid (acc ++ RST = MP) := Lib.hid (by
                have h9 := hM.out
                rw [drop_end (by rw [hlenB.out]; exact Nat.le_refl _), hIe.out] at h9
                exact h9)
              go_wp2
              go_roundw
              case rel => exact ⟨k + 1, acc, by omega, by go_num, ho, K, Lib.hid (by rw [hRS'.out]; exact hM2.out)⟩
              case measure => simp [intOf]; omega
        · obtain rfl : k = n := by omega
          have hMf : acc = MP := by
            have h9 := hM.out
            rw [drop_end (by rw [hlenA.out]; exact Nat.le_refl _)] at h9
            simpa [mvR] using h9
          subst hMf
          obtain ⟨AU, cU, rfl⟩ := own_shape ho
          have hbel := K.bel
          have hal := hML.out
          have hS := Lib.hid (sortFPr_c 216 prMovedOf_enters (fun x y W => prMovedOf_c x y W) acc wy w.heap.size acc.length _ ho (by omega))
          go_wp2_with fail
          refine hS.out.mono ?_; rintro e w8 ⟨rfl, out, ho8, hso, hg8⟩
          have hB8 := below_own hbel ho hg8 hbel.size (Nat.le_refl _)
          have hRP : RPr w8 AU acc.length out := RN.of_own prE_len ho8 (own_len prE_len (by decide) ho8) (by omega)
          clear hS ho ho8 hg8 hbel
          go_wp2
          go_ret
          rw [← hMP'.out] at hso
          exact ⟨AU, acc.length, cU, out, rfl, hRP, hso, hB8⟩
end Go.Proofs.YtklggnglaeagpaaGreatDoor
