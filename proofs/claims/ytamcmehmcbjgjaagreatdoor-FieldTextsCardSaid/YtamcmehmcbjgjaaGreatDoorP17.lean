/- IdealIsBest, plain: the best lengths together are not slower than anybody; who holds out stays between the sums. A field that the stream makes of a right race is right. -/
import Derived.Test.YtamcmehmcbjgjaaGreatDoorFastQ
import Derived.Test.YtamcmehmcbjgjaaGreatDoorFielded
import Derived.Test.YtamcmehmcbjgjaaGreatDoorSums9
import Derived.Test.YtamcmehmcbjgjaaGreatDoorHoldC
namespace Go.Proofs.YtamcmehmcbjgjaaGreatDoor
open Go.RowKit
set_option linter.unusedVariables false

theorem stepG_le (g : Gp) (who : ByteArray) (lap : Int) : (stepG g who lap).behind ≤ g.behind ∧ (stepG g who lap).behind ≤ lap := by
  unfold stepG
  split
  · exact ⟨by dsimp only; omega, Int.le_refl _⟩
  · exact ⟨Int.le_refl _, by omega⟩
theorem colG_le0 (j : Nat) : ∀ (l : List Sw) (g : Gp), (colG j g l).behind ≤ g.behind
  | [], _ => Int.le_refl _
  | x :: r, g => Int.le_trans (colG_le0 j r _) (stepG_le g _ _).1
theorem colG_le (j : Nat) : ∀ (l : List Sw) (g : Gp) (x : Sw), x ∈ l → (colG j g l).behind ≤ (lapsL x.sp).getD j 0
  | y :: r, g, x, h => by
    rcases List.mem_cons.1 h with rfl | h
    · exact Int.le_trans (colG_le0 j r _) (stepG_le g _ _).2
    · exact colG_le j r _ x h
theorem sumG_le {f : Nat → Gp} {h : Nat → Int} (hfh : ∀ j, (f j).behind ≤ h j) : ∀ (L : List Nat), sumG (L.map f) ≤ sumL (L.map h)
  | [] => Int.le_refl _
  | j :: r => by
    have h1 := hfh j
    have h2 := sumG_le hfh r
    show (f j).behind + sumG (r.map f) ≤ h j + sumL (r.map h)
    omega
theorem sumL_laps {l : List Int} (h : risingF l 0 = true) : ∀ k, k ≤ l.length → sumL ((lapsL l).take k) = lastOf l k
  | 0, _ => by simp [lastOf, sumL]
  | k + 1, hk => by
    obtain ⟨x, hx⟩ := at_of_lt (l := l) (k := k) (by omega)
    rw [sumL_take (laps_known h hx), sumL_laps h k (by omega), lastOf_succ hx]
    omega
theorem list_range (l : List Int) : ((List.range l.length).map fun j => l.getD j 0) = l := by
  apply List.ext_getElem?
  intro i
  rw [List.getElem?_map]
  by_cases h : i < l.length
  · rw [List.getElem?_range h]; simp [h, List.getD_eq_getElem?_getD]
  · rw [List.getElem?_eq_none (by simp; omega), List.getElem?_eq_none (by omega)]; rfl
theorem ideal_le {r : Race} {l : List Sw} {x : Sw} (h0 : someErr r l = 0) (hx : x ∈ l) (hr : risingF x.sp 0 = true) (hn : x.sp.length = (lenV r).toNat) (h1 : 1 ≤ x.sp.length) : idealV r l ≤ x.sp.getLastD 0 := by
  unfold idealV fastL
  rw [if_pos h0]
  unfold bestL
  have h2 := sumG_le (f := fun j => colG j (zeroG j) l) (h := fun j => (lapsL x.sp).getD j 0) (fun j => colG_le j l _ x hx) (List.range (lenV r).toNat)
  have e1 : ((List.range (lenV r).toNat).map fun j => (lapsL x.sp).getD j 0) = lapsL x.sp := by
    rw [← hn, ← lapsL_len x.sp]; exact list_range _
  rw [e1] at h2
  have e2 := sumL_laps hr x.sp.length (Nat.le_refl _)
  rw [List.take_of_length_le (by rw [lapsL_len]; exact Nat.le_refl _)] at e2
  have e3 : lastOf x.sp x.sp.length = x.sp.getLastD 0 := by
    unfold lastOf; rw [if_neg (by omega)]; exact getD_of (last_at rfl (by omega))
  omega

/-! ## the stream's field is right -/
theorem fieldGo_ok {r : Race} : ∀ (l : List Sw) (p : Option ByteArray), (∀ x ∈ l, keyB x.who = true) → (∀ x ∈ l, wholeErr r x.sp = 0) → (∀ x ∈ l, leO x.who p = false) → (l.map Sw.who).Pairwise (fun a b => leS b a = false) → fieldGo r p l = 0
  | [], _, _, _, _, _ => rfl
  | x :: l, p, h1, h2, h3, h4 => by
    unfold fieldGo
    rw [List.map_cons, List.pairwise_cons] at h4
    rw [if_neg (by simp [h1 x (by simp)]), if_neg (by simp [h3 x (by simp)]), if_neg (by simp [h2 x (by simp)])]
    exact fieldGo_ok l (some x.who) (fun y hy => h1 y (by simp [hy])) (fun y hy => h2 y (by simp [hy])) (fun y hy => h4.1 _ (List.mem_map_of_mem hy)) h4.2
theorem keys4_key : ∀ k ∈ keys4, keyB k = true := by
  have e0 : keyB ⟨#[115, 97]⟩ = true := by kernel_rfl
  have e1 : keyB ⟨#[115, 98]⟩ = true := by kernel_rfl
  have e2 : keyB ⟨#[115, 99]⟩ = true := by kernel_rfl
  have e3 : keyB ⟨#[115, 100]⟩ = true := by kernel_rfl
  intro k hk
  simp only [keys4, List.mem_cons, List.not_mem_nil, or_false] at hk
  rcases hk with rfl | rfl | rfl | rfl <;> assumption
theorem keys4_up : keys4.Pairwise (fun a b => leS b a = false) := by
  have e0 : leS ⟨#[115, 98]⟩ ⟨#[115, 97]⟩ = false := by kernel_rfl
  have e1 : leS ⟨#[115, 99]⟩ ⟨#[115, 97]⟩ = false := by kernel_rfl
  have e2 : leS ⟨#[115, 100]⟩ ⟨#[115, 97]⟩ = false := by kernel_rfl
  have e3 : leS ⟨#[115, 99]⟩ ⟨#[115, 98]⟩ = false := by kernel_rfl
  have e4 : leS ⟨#[115, 100]⟩ ⟨#[115, 98]⟩ = false := by kernel_rfl
  have e5 : leS ⟨#[115, 100]⟩ ⟨#[115, 99]⟩ = false := by kernel_rfl
  unfold keys4
  simp only [List.pairwise_cons, List.mem_cons, List.not_mem_nil, or_false, forall_eq_or_imp, forall_eq, e0, e1, e2, e3, e4, e5, List.Pairwise.nil, and_true, true_and, imp_true_iff, false_imp_iff, forall_const]
theorem right_field {zs : Zs} {k : Nat} {l : List Sw} (h : RightF zs (plainRace zs k).1 l) : fieldErr (plainRace zs k).1 l = 0 := by
  have hlen : l.length ≤ 4 := by have := h.1.length_le; rw [List.length_map] at this; exact this
  unfold fieldErr
  rw [if_neg (by simp [plainRace_ok]), if_neg (by omega)]
  refine fieldGo_ok l none (fun x hx => keys4_key _ (h.1.subset (List.mem_map_of_mem hx))) (fun x hx => ?_) (fun x hx => rfl) (keys4_up.sublist h.1)
  obtain ⟨k', hk'⟩ := h.2 x hx
  rw [hk']; exact ks_whole _ _ _
theorem right_rise {zs : Zs} {k : Nat} {l : List Sw} (h : RightF zs (plainRace zs k).1 l) {x : Sw} (hx : x ∈ l) : risingF x.sp 0 = true ∧ x.sp.length = (lenV (plainRace zs k).1).toNat := by
  obtain ⟨k', hk'⟩ := h.2 x hx
  rw [hk']
  exact ⟨ks_rise _ _ _, ks_length _ _ _⟩

/-! ## who holds out -/
theorem couldL_sum : ∀ (best most : List Int), best.length = most.length → couldL best most = sumL most - sumL best
  | [], [], _ => by simp [couldL, sumL]
  | [], _ :: _, h => by simp at h
  | _ :: _, [], h => by simp at h
  | b :: bs, m :: ms, h => by
    have := couldL_sum bs ms (by simpa using h)
    simp only [couldL, sumL]; omega
theorem runL_rise : ∀ (l : List Int) (s : Int), (∀ x ∈ l, 1 ≤ x) → 0 ≤ s → s + sumL l ≤ 360000 → spErrL (runL s l) s = 0
  | [], _, _, _, _ => rfl
  | x :: r, s, h, h0, h1 => by
    have hx := h x (by simp)
    have hr : 0 ≤ sumL r := by
      have : ∀ l : List Int, (∀ x ∈ l, 1 ≤ x) → 0 ≤ sumL l := by
        intro l
        induction l with
        | nil => intro _; exact Int.le_refl _
        | cons y q ih => intro hq; have := hq y (by simp); have := ih (fun z hz => hq z (by simp [hz])); simp only [sumL]; omega
      exact this r (fun y hy => h y (by simp [hy]))
    simp only [sumL] at h1
    unfold runL spErrL
    rw [if_neg (by omega), if_neg (by omega), if_pos (by omega)]
    exact runL_rise r _ (fun y hy => h y (by simp [hy])) (by omega) (by omega)
theorem runL_last : ∀ (l : List Int) (s d : Int), l ≠ [] → (runL s l).getLastD d = s + sumL l
  | [x], s, d, _ => by simp [runL, sumL, List.getLastD]
  | x :: y :: r, s, d, _ => by
    have := runL_last (y :: r) (s + x) (s + x) (by simp)
    unfold runL
    show ((s + x) :: runL (s + x) (y :: r)).getLastD d = _
    rw [List.getLastD_cons, this]
    simp only [sumL]; omega
theorem sumL_le2 : ∀ (best most : List Int), best.length = most.length → (∀ (k : Nat) (b m : Int), best[k]? = some b → most[k]? = some m → b ≤ m) → sumL best ≤ sumL most
  | [], [], _, _ => Int.le_refl _
  | [], _ :: _, h, _ => by simp at h
  | _ :: _, [], h, _ => by simp at h
  | b :: bs, m :: ms, h, hk => by
    have h0 := hk 0 b m rfl rfl
    have := sumL_le2 bs ms (by simpa using h) (fun k b m hb hm => hk (k + 1) b m (by simpa using hb) (by simpa using hm))
    simp only [sumL]; omega
theorem hGo_fine : ∀ (best most : List Int) (s : Int), best.length = most.length → (∀ (k : Nat) (b m : Int), best[k]? = some b → most[k]? = some m → 1 ≤ b ∧ b ≤ m ∧ m ≤ 360000) → s + sumL most ≤ 360000 → hGo best most s = 0
  | [], [], s, _, _, h => by unfold hGo; rw [if_neg (by simp only [sumL] at h; omega)]
  | [], _ :: _, _, h, _, _ => by simp at h
  | _ :: _, [], _, h, _, _ => by simp at h
  | b :: bs, m :: ms, s, h, hk, hs => by
    obtain ⟨h0, h1, h2⟩ := hk 0 b m rfl rfl
    unfold hGo
    rw [if_neg (by omega)]
    exact hGo_fine bs ms _ (by simpa using h) (fun k b m hb hm => hk (k + 1) b m (by simpa using hb) (by simpa using hm)) (by simp only [sumL] at hs; omega)
theorem hold_fine {r : Race} {best most : List Int} (h0 : raceErr r = 0) (hb : (best.length : Int) = lenV r) (hm : (most.length : Int) = lenV r) (hk : ∀ (k : Nat) (b m : Int), best[k]? = some b → most[k]? = some m → 1 ≤ b ∧ b ≤ m ∧ m ≤ 360000) (hs : sumL most ≤ 360000) :
    holdE r best most = 0 ∧ sumL best ≤ sumL (holdLs best most) ∧ sumL (holdLs best most) ≤ sumL most ∧ sumL most - sumL (holdLs best most) = (sumL most - sumL best) / 2 ∧ checkSp r (runL 0 (holdLs best most)) = 0 ∧ (runL 0 (holdLs best most)).getLastD 0 = sumL (holdLs best most) := by
  have hl : best.length = most.length := by omega
  have hkb : ∀ (k : Nat) (b m : Int), best[k]? = some b → most[k]? = some m → b ≤ m := fun k b m hb hm => (hk k b m hb hm).2.1
  have hlv := lenV_bd h0
  have e1 := holdG_all best most hl hkb
  have e2 := couldL_sum best most hl
  have e3 := sumL_le2 best most hl hkb
  have e4 : sumL (holdLs best most) = sumL most - (sumL most - sumL best) / 2 := by unfold holdLs; rw [e1, e2]
  have hbd := (holdG_bd best most (couldL best most / 2) (by omega) hk).2
  have hln : (holdLs best most).length = best.length := holdG_len _ _ _ hl
  have hne : holdLs best most ≠ [] := by intro e; rw [e] at hln; simp at hln; omega
  have hlast := runL_last (holdLs best most) 0 0 hne
  have h1 : ∀ x ∈ holdLs best most, 1 ≤ x := fun x hx => (hbd x hx).1
  have hrise := runL_rise (holdLs best most) 0 h1 (by omega) (by omega)
  have hpos : 1 ≤ sumL best := by
    rcases best with _ | ⟨b, bs⟩
    · simp at hb; omega
    · rcases most with _ | ⟨m, ms⟩
      · simp at hl
      · have h2 := (hk 0 b m rfl rfl).1
        have : ∀ (bs ms : List Int), bs.length = ms.length → (∀ (k : Nat) (b m : Int), bs[k]? = some b → ms[k]? = some m → 1 ≤ b ∧ b ≤ m ∧ m ≤ 360000) → 0 ≤ sumL bs := by
          intro bs
          induction bs with
          | nil => intro _ _ _; exact Int.le_refl _
          | cons x q ih =>
            intro ms hl hk
            rcases ms with _ | ⟨y, ms⟩
            · simp at hl
            · have a1 := (hk 0 x y rfl rfl).1
              have a2 := ih ms (by simpa using hl) (fun k b m hb hm => hk (k + 1) b m (by simpa using hb) (by simpa using hm))
              simp only [sumL]; omega
        have := this bs ms (by simpa using hl) (fun k b m hb hm => hk (k + 1) b m (by simpa using hb) (by simpa using hm))
        simp only [sumL]; omega
  refine ⟨?_, by omega, by omega, by omega, ?_, by rw [hlast]; omega⟩
  · unfold holdE holdErr
    rw [if_neg (by simp [h0]), if_neg (by omega)]
    exact hGo_fine best most 0 hl hk (by omega)
  · unfold checkSp splitsErr
    rw [if_neg (by simp [h0]), runL_len, hln, if_neg (by omega), hrise, if_neg (by simp), hlast, if_neg (by omega)]
end Go.Proofs.YtamcmehmcbjgjaaGreatDoor
