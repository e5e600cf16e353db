/- The merge of the halves of right reports is the whole: plain. -/
import Derived.Test.YtjafcnblgeibpaaGreatDoorRptC
namespace Go.Proofs.YtjafcnblgeibpaaGreatDoor
open Go.RowKit Go.Shelf Go.Lib Go.Sort
set_option linter.unusedVariables false

theorem rpSo_of : ∀ (l : List Rp) (o : Option Rp), (∀ x ∈ l, rp1 x = 0) → (l.Pairwise fun x y => rpCf x y < 0) → (∀ y, o = some y → ∀ x ∈ l, rpCf y x < 0) → rpSo o l = 0
  | [], o, _, _, _ => rfl
  | x :: l, o, h1, hp, ho => by
    unfold rpSo
    rw [List.pairwise_cons] at hp
    have hx := h1 x (List.mem_cons_self ..)
    have hb : badRp o x = false := by
      cases o with
      | none => rfl
      | some y =>
        have := ho y rfl x (List.mem_cons_self ..)
        show decide (0 ≤ rpCf y x) = false
        exact decide_eq_false (by omega)
    rw [if_neg (by omega), hb, if_neg (by simp)]
    refine rpSo_of l _ (fun z hz => h1 z (List.mem_cons_of_mem _ hz)) hp.2 (fun y e z hz => ?_)
    obtain rfl := Option.some.inj e
    exact hp.1 z hz
theorem rpSo_okP : ∀ (l : List Rp) (o : Option Rp), rpSo o l = 0 → (l.Pairwise fun x y => rpCf x y < 0) ∧ (∀ y, o = some y → ∀ x ∈ l, rpCf y x < 0)
  | [], o, _ => ⟨.nil, by simp⟩
  | x :: l, o, h => by
    unfold rpSo at h
    split at h
    · rename_i h1; exact absurd h h1
    · rename_i h1
      split at h
      · cases h
      · rename_i h2
        obtain ⟨a2, a3⟩ := rpSo_okP l _ h
        have a4 := a3 x rfl
        refine ⟨List.pairwise_cons.2 ⟨a4, a2⟩, fun y e z hz => ?_⟩
        subst e
        have h3 : rpCf y x < 0 := by
          have h4 : ¬ decide (0 ≤ rpCf y x) = true := h2
          simpa using h4
        rcases List.mem_cons.1 hz with rfl | hz
        · exact h3
        · have b1 := (rpLt_iff y x).2 (rpKey_neg.1 h3)
          have b2 := (rpLt_iff x z).2 (rpKey_neg.1 (a4 z hz))
          exact rpKey_neg.2 ((rpLt_iff y z).1 (rpSWO.trans y x z b1 b2))
theorem rpErr_sorted {l : List Rp} (h : rpErr l = 0) : l.Pairwise fun x y => rpCf x y < 0 := by
  rw [rpErr_ref] at h
  split at h
  · cases h
  · split at h
    · rename_i h1; exact absurd h h1
    · rename_i h0 h1
      exact (rpSo_okP l none (Decidable.not_not.1 h1)).1
/-- a part of reports that are right is right -/
theorem rpErr_sub {l l' : List Rp} (h : rpErr l = 0) (hs : l'.Sublist l) : rpErr l' = 0 := by
  obtain ⟨a, b, c⟩ := rpErr_ok h
  have h2 := hs.length_le
  rw [rpErr_ref, if_neg (by omega), if_neg (by simpa using rpSo_of l' none (fun x hx => b x (hs.subset hx)) ((rpErr_sorted h).sublist hs) (by simp)), if_pos (c.sublist (hs.map Rp.id))]
theorem mrgPAB {ks : List (Rp × Int)} {l out : List Rp} {E : Int} (h0 : rpErr l = 0) (hk : ks.map Prod.fst = l) (h : MrgP (hfA ks) (hfB ks) E out) : E = 0 ∧ out = l := by
  subst hk
  have sa := rpErr_sub h0 (halfA_sub ks)
  have sb := rpErr_sub h0 (halfB_sub ks)
  have hs := rpErr_sorted h0
  obtain ⟨hl, _, hn⟩ := rpErr_ok h0
  have hm := mrgR_rest (rpErr_ok sa).2.2 (b := hfB ks) (fun x hx y hy e => id_same hn ((halfA_sub ks).subset hy) ((halfB_sub ks).subset hx) e)
  have hp := half_perm ks (hs.imp fun {x y} hxy e => by subst e; have := rpKey_zero.2 (⟨rfl, rfl⟩ : x.tm = x.tm ∧ x.id = x.id); omega)
  rcases h with ⟨h1, _⟩ | ⟨_, h1, _⟩ | ⟨_, _, ⟨h1, _⟩ | ⟨p, h1, ⟨h2, _⟩ | ⟨_, h3, h4⟩⟩⟩
  · exact absurd sa h1
  · exact absurd sb h1
  · rw [hm] at h1; cases h1
  · rw [hm] at h1
    obtain rfl := Option.some.inj h1
    have := hp.length_eq
    rw [List.length_append] at this
    omega
  · rw [hm] at h1
    obtain rfl := Option.some.inj h1
    exact ⟨h3, merge_allR hs h4.1 h4.2⟩
theorem mrgPBA {ks : List (Rp × Int)} {l out : List Rp} {E : Int} (h0 : rpErr l = 0) (hk : ks.map Prod.fst = l) (h : MrgP (hfB ks) (hfA ks) E out) : E = 0 ∧ out = l := by
  subst hk
  have sa := rpErr_sub h0 (halfA_sub ks)
  have sb := rpErr_sub h0 (halfB_sub ks)
  have hs := rpErr_sorted h0
  obtain ⟨hl, _, hn⟩ := rpErr_ok h0
  have hm := mrgR_rest (rpErr_ok sb).2.2 (b := hfA ks) (fun x hx y hy e => id_same hn ((halfB_sub ks).subset hy) ((halfA_sub ks).subset hx) e)
  have hp := half_perm' ks (hs.imp fun {x y} hxy e => by subst e; have := rpKey_zero.2 (⟨rfl, rfl⟩ : x.tm = x.tm ∧ x.id = x.id); omega)
  rcases h with ⟨h1, _⟩ | ⟨_, h1, _⟩ | ⟨_, _, ⟨h1, _⟩ | ⟨p, h1, ⟨h2, _⟩ | ⟨_, h3, h4⟩⟩⟩
  · exact absurd sb h1
  · exact absurd sa h1
  · rw [hm] at h1; cases h1
  · rw [hm] at h1
    obtain rfl := Option.some.inj h1
    have := hp.length_eq
    rw [List.length_append] at this
    omega
  · rw [hm] at h1
    obtain rfl := Option.some.inj h1
    exact ⟨h3, merge_allR' hs h4.1 h4.2⟩
end Go.Proofs.YtjafcnblgeibpaaGreatDoor
