/- A race whose pads all work: plain; the closure put; the facts of h06. -/
import Derived.Test.YtpepdkgkdbnakaaGreatDoorSheetC
import Derived.Test.YtpepdkgkdbnakaaGreatDoorLineAt
import Derived.Test.YtpepdkgkdbnakaaGreatDoorSums9
import Derived.Test.YtpepdkgkdbnakaaGreatDoorSgN
import Derived.BigRegion
import Derived.Deep.RegionHeld3
import Derived.Test.YtpepdkgkdbnakaaGreatDoorReady4
namespace Go.Proofs.YtpepdkgkdbnakaaGreatDoor
set_option linter.unusedVariables false
section
open Go.RowKit Go.Shelf Go.Lib Go.Sort
def dN : ByteArray := ⟨#[100]⟩
def pad60 (i : Nat) (p : Int) : Sg := ⟨dN, (i : Int) + 2, 2, 1000 + 10 * p, 1, 0⟩
def pads60 : Nat → List Int → List Sg
  | _, [] => []
  | i, p :: r => pad60 i p :: pads60 (i + 1) r
def st60 : Sg := ⟨dN, 1, 1, 1000, 0, 0⟩
def sg60 (PT : List Int) : List Sg := st60 :: pads60 0 PT
theorem pads60_snoc (p : Int) : ∀ (l : List Int) (i : Nat), pads60 i (l ++ [p]) = pads60 i l ++ [pad60 (i + l.length) p]
  | [], i => rfl
  | y :: r, i => by
    have ih := pads60_snoc p r (i + 1)
    simp only [List.cons_append, pads60, ih, List.length_cons]
    rw [show i + 1 + r.length = i + (r.length + 1) by omega]
theorem pads60_len : ∀ (l : List Int) (i : Nat), (pads60 i l).length = l.length
  | [], _ => rfl
  | x :: r, i => by simp [pads60, pads60_len r]
theorem sg60_snoc (l : List Int) (p : Int) : sg60 (l ++ [p]) = sg60 l ++ [pad60 l.length p] := by
  unfold sg60
  rw [pads60_snoc, Nat.zero_add]; rfl
theorem sg60_len (l : List Int) : (sg60 l).length = l.length + 1 := by unfold sg60; rw [List.length_cons, pads60_len]
/-- rising, from t on -/
def Rise : Int → List Int → Prop
  | _, [] => True
  | t, x :: r => t < x ∧ Rise x r
theorem Rise.gt : ∀ {l : List Int} {t : Int}, Rise t l → ∀ x ∈ l, t < x
  | [], _, _, x, h => by cases h
  | y :: r, t, hr, x, h => by
    rcases List.mem_cons.1 h with rfl | h
    · exact hr.1
    · exact Int.lt_trans hr.1 (Rise.gt hr.2 x h)
theorem Rise.pw : ∀ {l : List Int} {t : Int}, Rise t l → l.Pairwise (· < ·)
  | [], _, _ => List.Pairwise.nil
  | y :: r, t, hr => List.pairwise_cons.2 ⟨Rise.gt hr.2, Rise.pw hr.2⟩
theorem cmp_dN : cmpB dN dN = 0 := by kernel_rfl
theorem key_dN : keyB dN = true := by kernel_rfl
theorem sg1_pad {i : Nat} {p : Int} (hi : i ≤ 100) (hp : 0 ≤ p ∧ p ≤ 360000) : sg1 (pad60 i p) = 0 := by
  unfold sg1 pad60
  dsimp only
  rw [if_neg (by rw [key_dN]; simp), if_neg (by omega), if_neg (by omega), if_neg (by omega), if_neg (by omega), if_neg (by omega), if_neg (by omega), if_neg (by omega)]
theorem bad_pad {i : Nat} {p : Int} {o : Option Sg} (ho : ∀ y, o = some y → y.dev = dN ∧ y.no < (i : Int) + 2) : badSg o (pad60 i p) = false := by
  cases o with
  | none => rfl
  | some y =>
    obtain ⟨h1, h2⟩ := ho y rfl
    unfold badSg
    show decide (0 ≤ sgCf y (pad60 i p)) = false
    rw [sgCf_val, h1, show (pad60 i p).dev = dN from rfl, cmp_dN, if_neg (by simp)]
    show decide (0 ≤ Lib.compareInt y.no ((i : Int) + 2)) = false
    unfold Lib.compareInt
    rw [if_pos h2]; rfl
theorem sigGo_pads : ∀ (PT : List Int) (i : Nat) (D : DataW Unit) (o : Option Sg), Go.Maps.Tidy D → Go.Maps.size D + PT.length ≤ 40 → (∀ y, o = some y → y.dev = dN ∧ y.no < (i : Int) + 2) → (∀ p ∈ PT, 0 ≤ p ∧ p ≤ 360000) → i + PT.length ≤ 100 → sigGo D o (pads60 i PT) = 0
  | [], _, D, _, _, h, _, _, _ => by
    unfold pads60 sigGo
    rw [if_neg (by simpa using h)]
  | p :: r, i, D, o, hT, hs, ho, hb, hi => by
    simp only [List.length_cons] at hs hi
    unfold pads60 sigGo
    rw [if_neg (by rw [sg1_pad (by omega) (hb p List.mem_cons_self)]; simp), if_neg (by rw [bad_pad ho]; simp)]
    have hk : WideAt.IsKeyLit (.string (pad60 i p).dev.data.toList) := trivial
    refine sigGo_pads r (i + 1) _ _ (hT.put hk _) ?_ (fun y e => ?_) (fun q hq => hb q (List.mem_cons_of_mem _ hq)) (by omega)
    · have := Go.Maps.size_put (k := .string (pad60 i p).dev.data.toList) hT (.lit (.bool true))
      split at this <;> omega
    · injection e with e
      subst e
      exact ⟨rfl, by show (i : Int) + 2 < ((i + 1 : Nat) : Int) + 2; omega⟩
theorem sig60 {PT : List Int} (hb : ∀ p ∈ PT, 0 ≤ p ∧ p ≤ 360000) (hl : PT.length ≤ 18) : sigErr (sg60 PT) = 0 := by
  unfold sigErr
  rw [if_neg (by rw [sg60_len]; omega)]
  unfold sg60 sigGo
  have h1 : sg1 st60 = 0 := by kernel_rfl
  rw [if_neg (by rw [h1]; simp), if_neg (by unfold badSg; simp)]
  refine sigGo_pads PT 0 _ _ (Go.Maps.tidy_empty.put (k := .string st60.dev.data.toList) (show WideAt.IsKeyLit (.string st60.dev.data.toList) from trivial) _) ?_ (fun y e => ?_) hb (by omega)
  · have := Go.Maps.size_put (k := .string st60.dev.data.toList) Go.Maps.tidy_empty (H := Unit) (.lit (.bool true))
    have h0 : Go.Maps.size (.map [] : DataW Unit) = 0 := rfl
    split at this <;> omega
  · injection e with e
    subst e
    exact ⟨rfl, by show (1 : Int) < ((0 : Nat) : Int) + 2; omega⟩
theorem right60 {tm : Int} {d : ByteArray} (h : 0 ≤ tm ∧ tm ≤ 345686399999) : rightV [] d tm = tm := by
  unfold rightV aheadGo; omega
theorem st_pads {PT : List Int} : ∀ i, stGo [] (pads60 i PT) = [] := by
  induction PT with
  | nil => intro i; rfl
  | cons p r ih => intro i; unfold pads60 stGo; rw [if_neg (by show ¬ (2 : Int) = 1; omega)]; exact ih _
theorem compact_one (x : Int) : Lib.compact [x] = [x] := by
  refine compact_all [x] (fun j hj => ?_)
  unfold keeps
  rw [decide_eq_true_eq]
  exact .inl (by simp at hj; omega)
theorem starts60 (PT : List Int) : startsV [] (sg60 PT) = [1000] := by
  unfold startsV sg60 stGo
  rw [if_pos (by rfl), st_pads, show rightV [] st60.dev st60.tm = 1000 from right60 (by show (0 : Int) ≤ 1000 ∧ (1000 : Int) ≤ 345686399999; omega), List.mergeSort_singleton]
  exact compact_one 1000
def td60 (i : Nat) (p : Int) : Td := ⟨pad60 i p, 1000 + 10 * p⟩
def tds60 : Nat → List Int → List Td
  | _, [] => []
  | i, p :: r => td60 i p :: tds60 (i + 1) r
theorem ln60 {PT : List Int} (hb : ∀ p ∈ PT, 0 ≤ p ∧ p ≤ 360000) : ∀ i, lnGo [] [1000] 1 1 2 (pads60 i PT) = tds60 i PT := by
  induction PT with
  | nil => intro i; rfl
  | cons p r ih =>
    intro i
    have hp := hb p List.mem_cons_self
    have hr : rightV [] (pad60 i p).dev (pad60 i p).tm = 1000 + 10 * p := right60 (by show (0 : Int) ≤ 1000 + 10 * p ∧ 1000 + 10 * p ≤ 345686399999; omega)
    unfold pads60 lnGo
    rw [hr, if_pos ⟨⟨rfl, rfl⟩, by unfold ct ct; rw [if_pos (by omega)]⟩, ih (fun q hq => hb q (List.mem_cons_of_mem _ hq))]
    rfl
theorem ln60_no {PT : List Int} {kind : Int} (hk : kind ≠ 2) : ∀ i, lnGo [] [1000] 1 1 kind (pads60 i PT) = [] := by
  induction PT with
  | nil => intro i; rfl
  | cons p r ih =>
    intro i
    unfold pads60 lnGo
    rw [if_neg (fun h => hk h.1.1.symm)]
    exact ih _
theorem tds60_tm {PT : List Int} {t : Int} (h : Rise t PT) : ∀ i, (tds60 i PT).Pairwise (fun a b => a.tm < b.tm) ∧ ∀ x ∈ tds60 i PT, 1000 + 10 * t < x.tm := by
  induction PT generalizing t with
  | nil => intro i; exact ⟨List.Pairwise.nil, fun x h => by cases h⟩
  | cons p r ih =>
    intro i
    obtain ⟨h1, h2⟩ := ih h.2 (i + 1)
    refine ⟨List.pairwise_cons.2 ⟨fun x hx => h2 x hx, h1⟩, fun x hx => ?_⟩
    have := h.1
    rcases List.mem_cons.1 hx with rfl | hx
    · show 1000 + 10 * t < 1000 + 10 * p; omega
    · have := h2 x hx; omega
theorem insL_same {l : List Td} (h : l.Pairwise (fun a b => a.tm < b.tm)) : insL (ltOf tdCf) l = l := by
  have hS : SWO (ltOf tdCf) := by
    refine ⟨fun a => ?_, fun a b c => ?_, fun a b c => ?_⟩ <;> unfold ltOf tdCf Lib.compareInt <;> intros <;> (simp at *) <;> (try omega)
    all_goals (repeat' split at *) <;> (try omega) <;> simp_all <;> omega
  obtain ⟨hp, hs⟩ := insL_spec hS l
  have hpw : (insL (ltOf tdCf) l).Pairwise (fun a b => a.tm ≤ b.tm) := by
    rw [List.pairwise_iff_getElem]
    intro i j hi hj hij
    have := hs i j _ _ hij (List.getElem?_eq_getElem hi) (List.getElem?_eq_getElem hj)
    generalize (insL (ltOf tdCf) l)[i] = x at *
    generalize (insL (ltOf tdCf) l)[j] = y at *
    unfold ltOf tdCf Lib.compareInt at this
    repeat' split at this
    all_goals first | omega | (simp at this)
  have hinj : ∀ a ∈ l, ∀ b ∈ l, a.tm = b.tm → a = b := by
    intro a ha b hb e
    obtain ⟨i, hi, rfl⟩ := List.getElem_of_mem ha
    obtain ⟨j, hj, rfl⟩ := List.getElem_of_mem hb
    rw [List.pairwise_iff_getElem] at h
    rcases Nat.lt_trichotomy i j with h1 | rfl | h1
    · have := h i j hi hj h1; omega
    · rfl
    · have := h j i hj hi h1; omega
  exact List.Perm.eq_of_pairwise (le := fun a b => a.tm ≤ b.tm) (fun a b ha hb h1 h2 => hinj a (hp.subset ha) b hb (by omega)) hpw (h.imp (fun h => by omega)) hp
theorem hu60 {PT : List Int} (hb : ∀ p ∈ PT, 0 ≤ p ∧ p ≤ 360000) : ∀ i, huGo 1000 (tds60 i PT) = PT := by
  induction PT with
  | nil => intro i; rfl
  | cons p r ih =>
    intro i
    have hp := hb p List.mem_cons_self
    have e : ((td60 i p).tm - 1000).tdiv 10 = p := by
      show (1000 + 10 * p - 1000).tdiv 10 = p
      rw [show 1000 + 10 * p - 1000 = p * 10 by omega]
      exact Int.mul_tdiv_cancel p (by omega)
    unfold tds60 huGo
    rw [e, if_pos hp.2, ih (fun q hq => hb q (List.mem_cons_of_mem _ hq))]
theorem compact_rise {l : List Int} (h : l.Pairwise (· < ·)) : Lib.compact l = l := by
  refine compact_all l (fun j hj => ?_)
  unfold keeps
  rw [decide_eq_true_eq]
  rcases Nat.eq_zero_or_pos j with h0 | h0
  · exact .inl h0
  · right
    rw [List.pairwise_iff_getElem] at h
    have := h (j - 1) j (by omega) hj (by omega)
    simp only [List.getElem!_toArray, List.getElem!_eq_getElem?_getD, List.getElem?_eq_getElem hj, List.getElem?_eq_getElem (show j - 1 < l.length by omega), Option.getD_some]
    omega
theorem tou60 {PT : List Int} (hr : Rise 0 PT) (hb : ∀ p ∈ PT, 0 ≤ p ∧ p ≤ 360000) : touV [] (sg60 PT) 1 1 = PT := by
  unfold touV tdL s0V
  rw [starts60]
  have hl : lnGo [] [1000] 1 1 2 (sg60 PT) = tds60 0 PT := by
    unfold sg60 lnGo
    rw [if_neg (fun h => by have := h.1.1; exact absurd this (by show ¬ (1 : Int) = 2; omega))]
    exact ln60 hb 0
  rw [hl, insL_same (tds60_tm hr 0).1]
  show Lib.compact (huGo 1000 (tds60 0 PT)) = PT
  rw [hu60 hb, compact_rise hr.pw]
theorem td60_no {PT : List Int} {kind : Int} (hk : kind ≠ 2) (hk1 : kind ≠ 1) : tdL [] (sg60 PT) 1 1 kind = [] := by
  unfold tdL
  rw [starts60]
  have hl : lnGo [] [1000] 1 1 kind (sg60 PT) = [] := by
    unfold sg60 lnGo
    rw [if_neg (fun h => hk1 h.1.1.symm)]
    exact ln60_no hk 0
  rw [hl]
  exact List.eq_nil_of_length_eq_zero (by rw [insL_len]; rfl)
/-- the touches are as far apart as they must be -/
def gdB (e0 : Int) : Option Int → List Int → Bool
  | _, [] => true
  | none, p :: r => decide (e0 * 1000 ≤ p) && gdB e0 (some p) r
  | some q, p :: r => decide (2000 ≤ p - q) && gdB e0 (some p) r
theorem good_all {e0 : Int} {M : Nat} : ∀ (r g : List Int), gdB e0 g.getLast? r = true → g.length + r.length ≤ M → cntGo e0 M g [] r = (g ++ r, [])
  | [], g, _, _ => by simp [cntGo]
  | p :: r, g, h, hl => by
    simp only [List.length_cons] at hl
    have hc : ¬ (p < (if g.length = 0 then e0 * 1000 else g.getD (g.length - 1) 0 + 2000) ∨ g.length = M) := by
      rintro (h1 | h1)
      · rcases List.eq_nil_or_concat g with rfl | ⟨g', q, rfl⟩
        · simp [gdB] at h h1; omega
        · simp [gdB] at h h1; omega
      · omega
    have hg : gdB e0 (g ++ [p]).getLast? r = true := by
      rw [List.getLast?_append]
      cases hq : g.getLast? <;> rw [hq] at h <;> simp [gdB] at h <;> simpa using h.2
    rw [show cntGo e0 M g [] (p :: r) = cntGo e0 M (g ++ [p]) [] r from if_neg hc, good_all r (g ++ [p]) hg (by rw [List.length_append]; simp; omega)]
    simp
theorem good60 {N : Nat} {PT : List Int} (h : gdB (e0N N) none PT = true) (hl : PT.length ≤ mN N) : goodV N PT = PT := by
  unfold goodV
  rw [good_all PT [] h (by simpa using hl)]; rfl
theorem upL_range {M : Nat} : ∀ {l : List Nat} {i : Nat}, UpL i M l → i + l.length = M → l = List.range' i l.length
  | [], _, _, _ => rfl
  | k :: r, i, h, hl => by
    obtain ⟨h1, h2, h3⟩ := h
    have hle : ∀ (l : List Nat) (i : Nat), UpL i M l → l.length ≤ M - i := by
      intro l
      induction l with
      | nil => intro i h; simp
      | cons x t ih => intro i h; have := ih (x + 1) h.2.2; have := h.2.1; have := h.1; simp only [List.length_cons]; omega
    have h4 := hle r (k + 1) h3
    simp only [List.length_cons] at hl ⊢
    obtain rfl : k = i := by omega
    rw [List.range'_succ, ← upL_range h3 (by omega)]
theorem lapsP_all (E : List Int) : ∀ (P : List Int) (i : Nat) (j x : Int), LP.lapsP E j x i ((List.range' i P.length).zip P) = (((List.range' i P.length).zip P).map fun q => (⟨E.getD q.1 0, q.2, false⟩ : LP.Lp))
  | [], _, _, _ => rfl
  | p :: r, i, j, x => by
    rw [List.length_cons, List.range'_succ, List.zip_cons_cons, List.map_cons]
    show LP.fillP E j x (E.getD i 0) p i (i - i) ++ ⟨E.getD i 0, p, false⟩ :: LP.lapsP E (E.getD i 0) p (i + 1) ((List.range' (i + 1) r.length).zip r) = _
    rw [Nat.sub_self, lapsP_all E r (i + 1)]
    rfl
/-- every lap was touched -/
theorem laps60 {N : Nat} {PT : List Int} (hb : ∀ p ∈ PT, 0 ≤ p ∧ p ≤ 1000000000) (hN1 : 1 ≤ N) (hN : N ≤ 16) (h : gdB (e0N N) none PT = true) (hl : PT.length = mN N) :
    (lapsV N PT).length = mN N ∧ ∀ (q : Nat) (y : LP.Lp), (lapsV N PT)[q]? = some y → y.filled = false ∧ (endsV N)[q]? = some y.length ∧ PT[q]? = some y.time := by
  have hg := good60 h (by omega)
  have hm : 1 ≤ mN N := by unfold mN; omega
  have hs := standV_len N PT hb hN1 hN (by rw [hg]; omega)
  rw [hg] at hs
  have hr := upL_range hs.1 (by rw [hs.2]; omega)
  rw [hs.2] at hr
  have hV : lapsV N PT = (((List.range' 0 PT.length).zip PT).map fun q => (⟨(endsV N).getD q.1 0, q.2, false⟩ : LP.Lp)) := by
    unfold lapsV
    rw [hg, if_neg (by omega), hr, lapsP_all]
  rw [hV]
  refine ⟨by rw [List.length_map, List.length_zip, List.length_range', Nat.min_self, hl], fun q y hy => ?_⟩
  rw [List.getElem?_map] at hy
  obtain ⟨z, hz, rfl⟩ := Option.map_eq_some_iff.1 hy
  rw [List.getElem?_zip_eq_some] at hz
  obtain ⟨h1, h2⟩ := hz
  have hq := lt_of_at h2
  rw [List.getElem?_range' hq] at h1
  injection h1 with h1
  refine ⟨rfl, ?_, h2⟩
  dsimp only
  rw [← h1, List.getD_eq_getElem?_getD]
  have : (0 + 1 * q) = q := by omega
  rw [this, List.getElem?_eq_getElem (by rw [endsV_len]; omega)]; rfl
theorem sheet60 {N : Nat} {PT : List Int} (hr : Rise 0 PT) (hb : ∀ p ∈ PT, 0 ≤ p ∧ p ≤ 360000) (hN1 : 1 ≤ N) (hN : N ≤ 16) (h : gdB (e0N N) none PT = true) (hl : PT.length = mN N) {p : Int} (hp : PT.getLast? = some p) :
    sheetsV [] (sg60 PT) N 1 1 = [⟨1, lapsV N PT, p, 1⟩] := by
  have hg := good60 h (by omega)
  have hp0 : 0 < p := hr.gt p (List.mem_of_getLast? hp)
  have ht : touT [] (sg60 PT) N 1 1 = ⟨p, 0, []⟩ := by
    unfold touT
    rw [tou60 hr hb, td60_no (by omega) (by omega), td60_no (by omega) (by omega), lastV_laps N PT (fun x hx => ⟨(hb x hx).1, by have := (hb x hx).2; omega⟩) hN1 hN, hg, hp]
    rfl
  have hh : heatT [⟨p, 0, []⟩] = [⟨p, 1⟩] := by
    have ho : offV (T3.tc ⟨p, 0, []⟩) = ⟨p, 1⟩ := by
      show offW p 0 (watchV []) = ⟨p, 1⟩
      refine off_good ?_
      unfold goodB
      rw [decide_eq_true hp0]
      rfl
    unfold heatT heatL heatM
    show [fixS _ (offV (T3.tc ⟨p, 0, []⟩))] = _
    rw [ho, fix_no (by omega)]
  unfold sheetsV tousV
  show shGo _ 0 (heatT [touT [] (sg60 PT) N 1 1]) = _
  rw [ht, hh]
  show [(⟨((0 : Nat) : Int) + 1, lapsV N (touV [] (sg60 PT) 1 1), p, 1⟩ : Shd)] = _
  rw [tou60 hr hb]; rfl
end
section
open Go.RowKit Go.Shelf Go.Lib Go.Sort
theorem frac_mul {a x : Int} (hx : 0 < x) : fracN (a * x) x = a ∧ fracD (a * x) x = 1 := by
  have hg : (Int.gcd (a * x) x : Int) = x := by
    rw [Int.gcd_comm, Int.gcd_eq_left (by omega) (Int.dvd_mul_left a x)]
  unfold fracN fracD
  rw [hg]
  exact ⟨Int.mul_ediv_cancel a (by omega), Int.ediv_self (by omega)⟩
theorem frac_one (a : Int) : fracN a 1 = a ∧ fracD a 1 = 1 := by
  have := frac_mul (a := a) (x := 1) (by omega)
  rwa [Int.mul_one] at this
theorem rise_at {l : List Int} (h : l.Pairwise (· < ·)) {i j : Nat} {x y : Int} (hx : l[i]? = some x) (hy : l[j]? = some y) (hij : i < j) : x < y := by
  rw [List.pairwise_iff_getElem] at h
  have h1 := lt_of_at hx
  have h2 := lt_of_at hy
  have := h i j h1 h2 hij
  rw [List.getElem?_eq_getElem h1] at hx
  rw [List.getElem?_eq_getElem h2] at hy
  injection hx with hx
  injection hy with hy
  omega
/-- at the end of a length -/
theorem line60 {r : Race} {sp : List Int} {N e : Nat} {t : Int} (h0 : raceErr r = 0) (hw : wholeErr r sp = 0) (hp : sp.Pairwise (· < ·)) (hlen : sp.length = N) (hN : lenV r = (N : Int)) (he : 1 ≤ e) (ht : sp[e - 1]? = some t) (hb : 0 ≤ t ∧ t ≤ 360000) :
    lineE r sp t = 0 ∧ lineN r sp t = (e : Int) * r.course ∧ lineD r sp t = 1 := by
  have hE : lineE r sp t = 0 := by unfold lineE; rw [if_pos hw, if_pos hb]
  have hel := lt_of_at ht
  refine ⟨hE, ?_⟩
  unfold lineN lineD
  rw [hE, if_pos rfl, if_pos rfl]
  have hbefore : ∀ j y, j < e → sp[j]? = some y → y ≤ t := fun j y hj hy => by
    rcases Nat.lt_or_ge j (e - 1) with h | h
    · have := rise_at hp hy ht h; omega
    · obtain rfl : j = e - 1 := by omega
      rw [ht] at hy; injection hy with hy; omega
  by_cases hlt : e < N
  · obtain ⟨x, hx⟩ := at_of_lt (l := sp) (k := e) (by omega)
    have htx := rise_at hp ht hx (by omega)
    have := farP_found (c := r.course) (tot := r.metres * r.legs) (k := e) (y := t) hbefore hx htx (by
      rw [if_neg (by omega), List.getD_eq_getElem?_getD, ht]; rfl)
    rw [this]
    dsimp only
    have e1 : r.course * ((e : Int) * (x - t) + t - t) = ((e : Int) * r.course) * (x - t) := by
      rw [show (e : Int) * (x - t) + t - t = (e : Int) * (x - t) by omega, ← Int.mul_assoc, Int.mul_comm r.course]
    rw [e1]
    exact frac_mul (by omega)
  · have hnone := farP_none (c := r.course) (tot := r.metres * r.legs) (t := t) (l := sp) (fun j y hy => hbefore j y (by have := lt_of_at hy; omega) hy)
    rw [hnone]
    dsimp only
    rw [← len_tot h0, hN, show e = N by omega]
    exact frac_one _
/-- the touches at the first j ends -/
def ptV (sp : List Int) (N j : Nat) : List Int := (List.range j).map fun i : Nat => sp.getD ((e0N N + 2 * (i : Int)).toNat - 1) 0
theorem ptV_len (sp : List Int) (N j : Nat) : (ptV sp N j).length = j := by unfold ptV; simp
theorem ptV_succ (sp : List Int) (N j : Nat) : ptV sp N (j + 1) = ptV sp N j ++ [sp.getD ((e0N N + 2 * (j : Int)).toNat - 1) 0] := by unfold ptV; rw [List.range_succ, List.map_append]; rfl
theorem ptV_at {sp : List Int} {N j i : Nat} (h : i < j) : (ptV sp N j)[i]? = some (sp.getD ((e0N N + 2 * (i : Int)).toNat - 1) 0) := by unfold ptV; rw [List.getElem?_map, List.getElem?_range h]; rfl
theorem e0N_bd (N : Nat) : 1 ≤ e0N N ∧ e0N N ≤ 2 := by unfold e0N; omega
theorem end_le {N i : Nat} (h : i < mN N) : (e0N N + 2 * (i : Int)).toNat ≤ N := by unfold mN at h; unfold e0N; omega
theorem riseT_of : ∀ {l : List Int} {t : Int}, l.Pairwise (· < ·) → (∀ x ∈ l, t < x) → Rise t l
  | [], _, _, _ => trivial
  | y :: r, t, h, hb => ⟨hb y List.mem_cons_self, riseT_of (List.pairwise_cons.1 h).2 (List.pairwise_cons.1 h).1⟩
theorem ptV_mem {sp : List Int} {N j : Nat} (hlen : sp.length = N) (hj : j ≤ mN N) : ∀ x ∈ ptV sp N j, x ∈ sp := by
  intro x hx
  unfold ptV at hx
  obtain ⟨i, hi, rfl⟩ := List.mem_map.1 hx
  rw [List.mem_range] at hi
  have h1 := end_le (N := N) (i := i) (by omega)
  have h2 := e0N_bd N
  rw [List.getD_eq_getElem?_getD, List.getElem?_eq_getElem (by omega)]
  exact List.getElem_mem _
theorem ptV_rise {sp : List Int} {N j : Nat} (hp : sp.Pairwise (· < ·)) (hb : ∀ x ∈ sp, 1 ≤ x) (hlen : sp.length = N) (hj : j ≤ mN N) : Rise 0 (ptV sp N j) := by
  refine riseT_of ?_ (fun x hx => by have := hb x (ptV_mem hlen hj x hx); omega)
  rw [List.pairwise_iff_getElem]
  intro a b ha hb' hab
  rw [ptV_len] at ha hb'
  have h1 := end_le (N := N) (i := a) (by omega)
  have h2 := end_le (N := N) (i := b) (by omega)
  have h3 := e0N_bd N
  have e1 : (ptV sp N j)[a]? = sp[(e0N N + 2 * (a : Int)).toNat - 1]? := by
    rw [ptV_at ha, List.getD_eq_getElem?_getD, List.getElem?_eq_getElem (by omega)]; rfl
  have e2 : (ptV sp N j)[b]? = sp[(e0N N + 2 * (b : Int)).toNat - 1]? := by
    rw [ptV_at hb', List.getD_eq_getElem?_getD, List.getElem?_eq_getElem (by omega)]; rfl
  rw [List.getElem?_eq_getElem (by rw [ptV_len]; exact ha)] at e1
  rw [List.getElem?_eq_getElem (by rw [ptV_len]; exact hb')] at e2
  exact rise_at hp e1.symm e2.symm (by omega)
theorem gdB_snoc {e0 : Int} {p : Int} : ∀ (l : List Int) (o : Option Int), gdB e0 o (l ++ [p]) = (gdB e0 o l && (match (o.toList ++ l).getLast? with | none => decide (e0 * 1000 ≤ p) | some q => decide (2000 ≤ p - q)))
  | [], o => by cases o <;> simp [gdB]
  | x :: l, o => by
    have ih := gdB_snoc (e0 := e0) (p := p) l (some x)
    cases o with
    | none =>
      simp only [List.cons_append, gdB, ih, Bool.and_assoc]
      rfl
    | some q =>
      simp only [List.cons_append, gdB, ih, Bool.and_assoc]
      have : (Option.toList (some q) ++ x :: l).getLast? = (Option.toList (some x) ++ l).getLast? := by
        simp [List.getLast?_cons_cons]
      rw [this]
theorem gdB_step {e0 p : Int} {l : List Int} : gdB e0 none (l ++ [p]) = (gdB e0 none l && decide ((if l.getLast?.getD 0 = 0 ∧ l = [] then e0 * 1000 else 2000) ≤ p - l.getLast?.getD 0)) := by
  rw [gdB_snoc]
  congr 1
  show (match ([] ++ l).getLast? with | none => decide (e0 * 1000 ≤ p) | some q => decide (2000 ≤ p - q)) = _
  rw [List.nil_append]
  rcases List.eq_nil_or_concat l with rfl | ⟨r, q, rfl⟩
  · simp
  · simp
theorem ks_pw {zs : List Int} : ∀ (m k : Nat) (t : Int), (ksL zs m k t).Pairwise (· < ·) ∧ ∀ x ∈ ksL zs m k t, t < x
  | 0, _, _ => ⟨List.Pairwise.nil, fun x h => by cases h⟩
  | m + 1, k, t => by
    obtain ⟨h1, h2⟩ := ks_step zs k
    unfold ksL
    generalize pickV zs (k + 1) [1, 1500, 1600, 1610, 1500 + nextV zs k 200] = d at *
    obtain ⟨i1, i2⟩ := ks_pw (zs := zs) m (k + 2) (t + d)
    refine ⟨List.pairwise_cons.2 ⟨i2, i1⟩, fun x hx => ?_⟩
    rcases List.mem_cons.1 hx with rfl | hx
    · omega
    · have := i2 x hx; omega
end
section
open Go.RowKit Go.Shelf Go.Lib Go.Sort
theorem own_otherN {w : World} {B n b i size : Nat} {e : TypeId} {u : Value} {xs : List Value} (h : w.ownsRow B e size u n xs) (hb : b < B) (v : Value) : (w.setCell ⟨b, i, none⟩ v).ownsRow B e size u n xs :=
  h.kept (row := some b) (grown_setCell (grown_refl _ _) (p := ⟨b, i, none⟩) (.inl rfl) v) (.inr (fun e => by have := own_row_lt h b e; omega))
/-- the box of the signals under way -/
structure PB (w0 : World) (b : Nat) (u : Value) (l : List Sg) (wx : World) : Prop where
  bx : wx.heap[b]? = some (.cells #[u] 122 (0, 0))
  o : wx.ownsRow (b + 1) 133 6 u l.length (l.flatMap sgE)
  bel : Below w0.heap.size w0 wx
  hb : w0.heap.size ≤ b
section
variable {w0 wx w' : World} {b : Nat} {u v' : Value} {l : List Sg} {x : Sg}
theorem PB.below (h : PB w0 b u l wx) (B : Below wx.heap.size wx w') : PB w0 b u l w' := ⟨blk_below h.bx B, own_below h.o B, below_next h.bel B, h.hb⟩
theorem PB.app (h : PB w0 b u l wx) (ho : w'.ownsRow (b + 1) 133 6 v' (l.length + 1) (l.flatMap sgE ++ sgE x)) (hg : wx.grownBy w' u.ownBlock) : PB w0 b v' (l ++ [x]) (w'.setCell ⟨b, 0, none⟩ v') := by
  have hne : some b ≠ u.ownBlock := fun e => by have := own_row_lt h.o b e.symm; omega
  refine ⟨blk_set (blk_grown h.bx hg hne) 0 _, own_otherN (by rw [← flat_snoc, List.length_append]; exact ho) (by omega) _, ?_, h.hb⟩
  exact (below_own h.bel h.o hg h.bel.size (by have := h.hb; omega)).setCell (by have := h.hb; simp; omega) _
end
set_option maxHeartbeats 3200000 in
set_option maxRecDepth 100000 in
theorem put60_c (w0 : World) (b : Nat) (u : Value) (l : List Sg) (kind tm lane : Int) (W : World) (h : PB w0 b u l W) (hn : l.length ≤ 100) :
    Calls Tryz.prog 95 (#[.agg #[.string ⟨#[]⟩, .int .i64 0, .int .i64 kind, .int .i64 tm, .int .i64 lane, .int .i64 0]] ++ #[.pointer (some ⟨b, 0, none⟩)]) W fun e w' => e = .returned (.tuple #[]) ∧ ∃ u', PB w0 b u' (l ++ [⟨dN, (l.length : Int) + 1, kind, tm, lane, 0⟩]) w' := by
  obtain ⟨Au, cu, rfl⟩ := own_shape h.o
  have hb2 := heap_alloc_new W (.cells #[.string ⟨#[]⟩, .int .i64 0, .int .i64 kind, .int .i64 tm, .int .i64 lane, .int .i64 0] 133)
  have hlb := lt_of_heap h.bx
  have c0 : (W.alloc (.cells #[.string ⟨#[]⟩, .int .i64 0, .int .i64 kind, .int .i64 tm, .int .i64 lane, .int .i64 0] 133)).cell? ⟨b, 0, none⟩ = some (.slice Au l.length cu) := (blk_facts (blk_alloc h.bx _)).1 0
  have c1 : ∀ o : Obj, (W.alloc o).drew.cell? ⟨b, 0, none⟩ = some (.slice Au l.length cu) := fun o => (blk_facts (blk_alloc h.bx o)).1 0
  have z := (blk_facts hb2).1
  have f := (blk_facts hb2).2
  have hw1 : IntKind.i64.wrap ((l.length : Int) + 1) = (l.length : Int) + 1 := IntWalk.i64_in _ (by omega)
  go_enter Tryz.func95, Tryz.ntmps95
  go_wp2_with fail
  go_region_held3 (fun w' => w'.cell? ⟨b, 0, none⟩ = some (.slice Au l.length cu)) (first | go_keep | with_reducible exact c0 | exact c1 _) (first | fail)
  have P2 : PB w0 b (.slice Au l.length cu) l (World.drew (W.alloc (.cells #[.string dN, .int .i64 ((l.length : Int) + 1), .int .i64 kind, .int .i64 tm, .int .i64 lane, .int .i64 0] 133))) := h.below (below_drewN (below_new W _) 1)
  have hb3 : (World.drew (W.alloc (.cells #[.string dN, .int .i64 ((l.length : Int) + 1), .int .i64 kind, .int .i64 tm, .int .i64 lane, .int .i64 0] 133))).heap[W.heap.size]? = some (.cells #[.string dN, .int .i64 ((l.length : Int) + 1), .int .i64 kind, .int .i64 tm, .int .i64 lane, .int .i64 0] 133 (0, 0)) := heap_alloc_new W _
  have hd : ({ data := #[100] } : ByteArray) = dN := rfl
  rw [hd]
  clear c0 c1 z f hb2 h
  generalize World.drew (W.alloc (.cells #[.string dN, .int .i64 ((l.length : Int) + 1), .int .i64 kind, .int .i64 tm, .int .i64 lane, .int .i64 0] 133)) = w2 at *
  generalize W.heap.size = b2 at *
  have y0 : w2.cell? ⟨b2, 0, none⟩ = some (.string dN) := (blk_facts hb3).1 0
  have y1 : w2.cell? ⟨b2, 1, none⟩ = some (.int .i64 ((l.length : Int) + 1)) := (blk_facts hb3).1 1
  have y2 : w2.cell? ⟨b2, 2, none⟩ = some (.int .i64 kind) := (blk_facts hb3).1 2
  have y3 : w2.cell? ⟨b2, 3, none⟩ = some (.int .i64 tm) := (blk_facts hb3).1 3
  have y4 : w2.cell? ⟨b2, 4, none⟩ = some (.int .i64 lane) := (blk_facts hb3).1 4
  have y5 : w2.cell? ⟨b2, 5, none⟩ = some (.int .i64 0) := (blk_facts hb3).1 5
  have cb : w2.cell? ⟨b, 0, none⟩ = some (.slice Au l.length cu) := (blk_facts P2.bx).1 0
  have hlb2 := lt_of_heap P2.bx
  have hne : some b ≠ (Value.slice Au l.length cu).ownBlock := fun e => by have := own_row_lt P2.o b e.symm; omega
  have hown := Lib.hid P2.o
  go_wp2_with (at_builtin; refine wpList_app rfl (.tmp 8) (.tmp 10) 122 rfl Tryz.underlying122 info_signal rfl (by omega) (by omega) hown.out rfl rfl (by first | rfl | (simp; done)) rfl (by simp [Value.oneCell']) (by omega) (by omega) ?_; intro v6 w6 hown6 hg6; have hfz := (blk_facts (blk_grown P2.bx hg6 hne)).2 0; have hcz := (blk_facts (blk_grown P2.bx hg6 hne)).1 0; obtain ⟨A6, e6, rfl⟩ := own_shape hown6)
  have P6 := P2.app (x := ⟨dN, (l.length : Int) + 1, kind, tm, lane, 0⟩) hown6 hg6
  clear hown6 hg6 hown P2 y0 y1 y2 y3 y4 y5 cb hb3
  go_end0
  exact ⟨rfl, _, P6⟩
end
section
open Go.RowKit
set_option maxRecDepth 100000 in
set_option maxHeartbeats 1600000 in
theorem h60_c (w : World) : Calls Tryz.prog 98 #[] w fun e w' => e = .returned (.bool true) ∧ Below w.heap.size w w' := by
  go_enter Tryz.func98, Tryz.ntmps98
  go_wp2_with fail
  refine (write12_c _).mono ?_; rintro e w1 ⟨rfl, B1⟩
  go_wp2_with fail
  refine (lanes_c _).mono ?_; rintro e w2 ⟨A2, n2, c2, rfl, hr2, B2⟩
  have hB2 := below_next B1 B2
  have hn2 := hr2.len
  simp only [List.length_cons, List.length_nil] at hn2
  subst hn2
  go_wp2_with fail
  refine (rankA_c _ _ (heap_alloc_new w2 _)).mono ?_; rintro e w4 ⟨A4, c4, rfl, hown4, B4⟩
  have hr4 := (hr2.alloc _).below B4
  have hB4 := below_next hB2 (below_box B4)
  clear hr2 hB2 B4 hown4 B1 B2
  go_wp2_with fail
  refine (equal_c _ _ _ _ _ _ _ _ _ (hr4.alloc _) (R1.lit (enc := Value.int .i64) (e := 3) w4 #[.int .i64 3, .int .i64 4, .int .i64 2, .int .i64 5, .int .i64 1] [3, 4, 2, 5, 1] rfl (le_big (by decide)))).mono ?_; rintro e w5 ⟨rfl, B5⟩
  rw [show eqB [3, 4, 2, 5, 1] [3, 4, 2, 5, 1] = true from rfl]
  go_wp2
  go_ret
  exact ⟨rfl, below_next hB4 (below_box B5)⟩
end
end Go.Proofs.YtpepdkgkdbnakaaGreatDoor
