/- The reference's ranks are the program's: plain. -/
import Derived.Test.YtnkhdofcmanipaaGreatDoorTaRkS
import Derived.Test.YtnkhdofcmanipaaGreatDoorTaOrdC
namespace Go.Proofs.YtnkhdofcmanipaaGreatDoor
open Go.RowKit Go.Shelf Go.Lib Go.Sort
set_option linter.unusedVariables false

/-- how many of a list are faster, by their part of time -/
def cntT (d : Int) (L : List Rk) (t : Int) : Nat := (L.filter fun x => decide (x.time / d < t / d)).length
def rkG (d : Int) (L : List Rk) (x : Rk) : Rk := ⟨x.who, 1 + (cntT d L x.time : Int), x.time, x.fault⟩
theorem cntT_perm {d : Int} {L L' : List Rk} (h : L.Perm L') (t : Int) : cntT d L t = cntT d L' t := (h.filter _).length_eq
theorem cntT_mono {d : Int} (L : List Rk) {s t : Int} (h : s / d ≤ t / d) : cntT d L s ≤ cntT d L t := by
  unfold cntT
  induction L with
  | nil => exact Nat.le_refl _
  | cons x r ih =>
    rw [List.filter_cons, List.filter_cons]
    by_cases h1 : x.time / d < s / d
    · rw [if_pos (by simpa using h1), if_pos (by simp; omega), List.length_cons, List.length_cons]; omega
    · rw [if_neg (by simpa using h1)]
      split
      · rw [List.length_cons]; omega
      · exact ih
theorem cntT_lt {d : Int} {L : List Rk} {x : Rk} (hx : x ∈ L) {t : Int} (h : x.time / d < t / d) : cntT d L x.time < cntT d L t := by
  induction L with
  | nil => cases hx
  | cons y r ih =>
    unfold cntT at *
    rw [List.filter_cons, List.filter_cons]
    rcases List.mem_cons.1 hx with rfl | hx
    · rw [if_neg (by simp), if_pos (by simpa using h), List.length_cons]
      have := cntT_mono (d := d) r (Int.le_of_lt h)
      unfold cntT at this
      omega
    · have i1 := ih hx
      by_cases h1 : y.time / d < x.time / d
      · rw [if_pos (by simpa using h1), if_pos (by simp; omega), List.length_cons, List.length_cons]; omega
      · rw [if_neg (by simpa using h1)]
        split
        · rw [List.length_cons]; omega
        · exact i1
theorem cntT_front {d : Int} {Q R : List Rk} {t : Int} (h1 : ∀ y ∈ Q, y.time / d < t / d) (h2 : ∀ y ∈ R, t / d ≤ y.time / d) : cntT d (Q ++ R) t = Q.length := by
  unfold cntT
  rw [List.filter_append, List.filter_eq_self.2 (fun y hy => by simpa using h1 y hy), List.filter_eq_nil_iff.2 (fun y hy => by have := h2 y hy; simp; omega), List.append_nil]
theorem cntT_eq {d : Int} (L : List Rk) {s t : Int} (h : s / d = t / d) : cntT d L s = cntT d L t := by
  unfold cntT; rw [h]
def qT (d : Int) (x : Rk) (i : Int) : Option (Int × Int) → Int
  | some (t, k) => if x.time / d = t then k else i + 1
  | none => i + 1
theorem rnkF_consT (d : Int) (x : Rk) (r : List Rk) (i : Int) (p : Option (Int × Int)) : rnkF d (x :: r) i p = ⟨x.who, qT d x i p, x.time, x.fault⟩ :: rnkF d r (i + 1) (some (x.time / d, qT d x i p)) := by
  cases p <;> rfl
/-- ranks in order are one more than how many are faster -/
theorem rnk_map (d : Int) (L : List Rk) (hs : L.Pairwise fun x y => x.time / d ≤ y.time / d) : ∀ (S Q : List Rk) (p : Option (Int × Int)), L = Q ++ S → (∀ z, Q.getLast? = some z → p = some (z.time / d, 1 + (cntT d L z.time : Int))) → (Q = [] → p = none) → rnkF d S Q.length p = S.map (rkG d L)
  | [], _, _, _, _, _ => rfl
  | x :: r, Q, p, hL, hp, h0 => by
    have hs2 := hs
    rw [hL, List.pairwise_append] at hs2
    obtain ⟨q1, q2, q3⟩ := hs2
    have q4 := (List.pairwise_cons.1 q2).1
    have hq : qT d x (Q.length : Int) p = 1 + (cntT d L x.time : Int) := by
      have hall : (∀ y ∈ Q, y.time / d < x.time / d) → (Q.length : Int) + 1 = 1 + (cntT d L x.time : Int) := fun hlt => by
        have := cntT_front (R := x :: r) hlt (fun y hy => by rcases List.mem_cons.1 hy with rfl | hy; exact Int.le_refl _; exact q4 y hy)
        rw [← hL] at this
        omega
      rcases List.eq_nil_or_concat Q with hQ | ⟨Q', z, hQ⟩
      · rw [h0 hQ]
        exact hall (fun y hy => by rw [hQ] at hy; cases hy)
      · rw [List.concat_eq_append] at hQ
        have hz := hp z (by rw [hQ]; simp)
        rw [hz]
        show (if x.time / d = z.time / d then 1 + (cntT d L z.time : Int) else (Q.length : Int) + 1) = _
        by_cases he : x.time / d = z.time / d
        · rw [if_pos he, cntT_eq L he]
        · rw [if_neg he]
          refine hall (fun y hy => ?_)
          have hzx := q3 z (by rw [hQ]; simp) x (List.mem_cons_self ..)
          rw [hQ] at hy q1
          have hyz : y.time / d ≤ z.time / d := by
            rcases List.mem_append.1 hy with hy | hy
            · exact (List.pairwise_append.1 q1).2.2 y hy z (by simp)
            · rcases List.mem_singleton.1 hy with rfl; exact Int.le_refl _
          omega
    have hstep : rnkF d (x :: r) Q.length p = rkG d L x :: rnkF d r ((Q.length : Int) + 1) (some (x.time / d, 1 + (cntT d L x.time : Int))) := by
      rw [rnkF_consT, hq]; rfl
    have ih := rnk_map d L hs r (Q ++ [x]) (some (x.time / d, 1 + (cntT d L x.time : Int))) (by rw [hL, List.append_assoc]; rfl) (fun z hz => by rw [List.getLast?_append] at hz; simp at hz; rw [hz]) (fun h => by simp at h)
    rw [List.length_append, List.length_singleton, Int.natCast_add] at ih
    rw [hstep, List.map_cons]
    exact congrArg _ ih
theorem insR_mapR {lt lt' : Rk → Rk → Bool} {G : Rk → Rk} (x : Rk) : ∀ {P : List Rk}, (∀ y ∈ P, lt' (G x) (G y) = lt x y) → insR lt' (G x) (P.map G) = (insR lt x P).map G
  | [], _ => rfl
  | y :: r, h => by
    rw [List.map_cons]
    unfold insR
    rw [h y (by simp)]
    cases lt x y with
    | true => rw [if_pos rfl, if_pos rfl, insR_mapR x fun z hz => h z (by simp [hz])]; rfl
    | false => rw [if_neg (by simp), if_neg (by simp)]; rfl
theorem fold_mapR {lt lt' : Rk → Rk → Bool} {G : Rk → Rk} {p : Rk → Prop} (hc : ∀ x y, p x → p y → lt' (G x) (G y) = lt x y) : ∀ (l P : List Rk), (∀ x ∈ l, p x) → (∀ x ∈ P, p x) → (l.map G).foldl (fun P x => insR lt' x P) (P.map G) = (l.foldl (fun P x => insR lt x P) P).map G
  | [], P, _, _ => rfl
  | x :: r, P, hl, hP => by
    have hx := hl x (by simp)
    rw [List.map_cons, List.foldl_cons, List.foldl_cons, insR_mapR x fun y hy => hc x y hx (hP y hy)]
    refine fold_mapR hc r _ (fun z hz => hl z (by simp [hz])) fun z hz => ?_
    rcases insR_mem.1 hz with rfl | hz
    · exact hx
    · exact hP z hz
theorem insL_mapR {lt lt' : Rk → Rk → Bool} {G : Rk → Rk} {l : List Rk} (p : Rk → Prop) (hc : ∀ x y, p x → p y → lt' (G x) (G y) = lt x y) (hl : ∀ x ∈ l, p x) : insL lt' (l.map G) = (insL lt l).map G := by
  rw [insL_fold, insL_fold, List.map_reverse]
  exact congrArg _ (fold_mapR hc l [] hl (fun x hx => by cases hx))
theorem cntR_good (d : Int) (f : ByteArray → Int) (l : List Sd) (t : Int) : cntR d f l t = cntT d (goodL f l) t := by
  unfold cntR cntT goodL
  induction l with
  | nil => rfl
  | cons x r ih =>
    rw [List.filter_cons, List.filter_cons]
    cases hg : isGood f x with
    | false => simpa using ih
    | true =>
      rw [Bool.true_and, if_pos rfl, List.map_cons, List.filter_cons]
      show (if decide (x.time / d < t / d) = true then _ else _ : List Sd).length = (if decide (x.time / d < t / d) = true then _ else _ : List Rk).length
      split
      · rw [List.length_cons, List.length_cons, ih]
      · exact ih
theorem refRank_law (d : Int) (f : ByteArray → Int) (l : List Sd) : refRank d f l = rankL d f l := by
  unfold refRank rankL
  have hG : goodR d f l l = (goodL f l).map (rkG d (goodL f l)) := by
    have e : ∀ l' : List Sd, goodR d f l l' = (goodL f l').map (rkG d (goodL f l)) := fun l' => by
      unfold goodR
      rw [show goodL f l' = (l'.filter (isGood f)).map (rkOf f) from rfl, List.map_map]
      refine List.map_congr_left fun x _ => ?_
      unfold gdR
      rw [cntR_good]
      rfl
    exact e l
  have hI : insL (ltOf rrCf) ((goodL f l).map (rkG d (goodL f l))) = (insL (ltOf (rkCf d)) (goodL f l)).map (rkG d (goodL f l)) := by
    refine insL_mapR (fun x => x ∈ goodL f l) (fun x y hx hy => ?_) (fun x hx => hx)
    have h1 : ltOf rrCf (rkG d (goodL f l) x) (rkG d (goodL f l) y) = decide (Lib.compareInt (1 + (cntT d (goodL f l) x.time : Int)) (1 + (cntT d (goodL f l) y.time : Int)) < 0) := rfl
    have h2 : ltOf (rkCf d) x y = decide (x.time / d - y.time / d < 0) := rfl
    rw [h1, h2]
    refine decide_eq_decide.2 ?_
    have hcc : ∀ a b : Int, Lib.compareInt a b < 0 ↔ a < b := fun a b => by unfold Lib.compareInt; split <;> (try split) <;> simp <;> omega
    rw [hcc]
    constructor
    · intro h
      by_cases h3 : x.time / d < y.time / d
      · omega
      · have := cntT_mono (d := d) (goodL f l) (s := y.time) (t := x.time) (by omega)
        omega
    · intro h
      have := cntT_lt hx (t := y.time) (d := d) (by omega)
      omega
  have hS : (rkSorted d (goodL f l)).Pairwise fun x y => x.time / d ≤ y.time / d := by
    rw [List.pairwise_iff_getElem]
    intro i j hi hj hij
    have h := (insL_spec (rkSWO d) (goodL f l)).2 i j _ _ hij (List.getElem?_eq_getElem hi) (List.getElem?_eq_getElem hj)
    have h2 : decide ((rkSorted d (goodL f l))[j].time / d - (rkSorted d (goodL f l))[i].time / d < 0) = false := h
    have := of_decide_eq_false h2
    omega
  have hM := rnk_map d _ hS (rkSorted d (goodL f l)) [] none rfl (fun z hz => by simp at hz) (fun _ => rfl)
  have hE : ∀ x, rkG d (rkSorted d (goodL f l)) x = rkG d (goodL f l) x := fun x => by
    unfold rkG
    rw [cntT_perm (rk_perm d (goodL f l))]
  rw [hG, hI, show rnkF d (rkSorted d (goodL f l)) 0 none = (rkSorted d (goodL f l)).map (rkG d (rkSorted d (goodL f l))) from hM]
  rw [show (insL (ltOf (rkCf d)) (goodL f l)) = rkSorted d (goodL f l) from rfl]
  rw [List.map_congr_left fun x _ => hE x]
end Go.Proofs.YtnkhdofcmanipaaGreatDoor
