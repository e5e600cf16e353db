/- Times read by the reference: the same plain answer. -/
import Derived.Test.YtlddeeagnlgciaaDoorTimeP
namespace Go.Proofs.YtlddeeagnlgciaaDoor
open Go.Lib
set_option linter.unusedVariables false

def intP (l : List UInt8) : Option Int := if (1 ≤ (trimPrefix l [45]).length ∧ (trimPrefix l [45]).length ≤ 3) ∧ (trimPrefix l [45]).all dig = true then
    (match atoi l with
    | some n => if itoa n = l then some n else none
    | none => none)
  else none
def restR (colon : Bool) (m x h : Int) (se tail : List UInt8) : Int × Int :=
  if m < 0 ∨ tail.length ≠ 2 ∨ (tail ++ se).all dig = false then (0, 9)
  else if (colon = true ∧ (m = 0 ∨ se.length ≠ 2)) ∨ (colon = false ∧ se ≠ itoa x) ∨ 59 < x then (0, 9) else finT m x h
def parsedR (point colon : Bool) (mi se tail : List UInt8) : Int × Int :=
  if point = false then (0, 9) else
  match intP mi, atoi se, atoi tail with
  | some m, some x, some h => restR colon m x h se tail
  | _, _, _ => (0, 9)
theorem not_minus {b : UInt8} (h : dig b = true) : b ≠ 45 ∧ b ≠ 43 := by
  constructor <;> (intro e; subst e; revert h; decide)
theorem trim_dig {b : UInt8} {r : List UInt8} (h : b ≠ 45) : hasPrefix (b :: r) [45] = false ∧ trimPrefix (b :: r) [45] = b :: r := by
  have e1 : hasPrefix (b :: r) [45] = false := by
    have : (45 == b) = false := beq_eq_false_iff_ne.2 (Ne.symm h)
    simp [hasPrefix, List.isPrefixOf, this]
  exact ⟨e1, by unfold trimPrefix; rw [e1]; rfl⟩
theorem atoi_dig {b : UInt8} {r : List UInt8} (h : dig b = true) : atoi (b :: r) = (decFrom (b.toNat - 48) r).map fun (m : Nat) => (m : Int) := by
  obtain ⟨h1, h2⟩ := not_minus h
  show (if b == 45 then _ else if b == 43 then _ else (decNat (b :: r)).map fun (m : Nat) => (m : Int)) = _
  rw [if_neg (by simpa using h1), if_neg (by simpa using h2)]
  have hd : decNat (b :: r) = decFrom 0 (b :: r) := rfl
  rw [hd, dec_step h, Nat.zero_mul, Nat.zero_add]
theorem atoi_two {a b : UInt8} (ha : dig a = true) (hb : dig b = true) : atoi [a, b] = some (10 * ((a.toNat : Int) - 48) + ((b.toNat : Int) - 48)) := by
  have h1 := of_decide_eq_true ha
  have h2 := of_decide_eq_true hb
  rw [atoi_dig ha, dec_step hb]
  show some _ = some _
  congr 1
  show (((a.toNat - 48) * 10 + (b.toNat - 48) : Nat) : Int) = _
  omega
theorem itoa_dig {n : Int} (h0 : 0 ≤ n) (h1 : n < 100) : itoa n = digP n.toNat := by
  unfold itoa
  rw [if_neg (by omega), dec_dig (by omega)]
theorem itoa_three {n : Int} (h0 : 100 ≤ n) (h1 : n < 1000) : itoa n = [UInt8.ofNat (48 + n.toNat / 100), UInt8.ofNat (48 + n.toNat / 10 % 10), UInt8.ofNat (48 + n.toNat % 10)] := by
  unfold itoa
  rw [if_neg (by omega), decDigits, dif_neg (by omega), decDigits_two (by omega) (by omega)]
  have e : n.toNat / 10 / 10 = n.toNat / 100 := by omega
  simp [e]
/-- numbers of at most three digits, from 1 on: the program's reading, the reference's -/
theorem int_num {l : List UInt8} {m : Int} (hm : 1 ≤ m) : intP l = some m ↔ numP l 3 = some m := by
  rcases l with _ | ⟨b, r⟩
  · simp [intP, numP, numBad, trimPrefix, hasPrefix]
  by_cases hb : b = 45
  · subst hb
    have e1 : hasPrefix (45 :: r) [45] = true := by simp [hasPrefix]
    have e2 : trimPrefix (45 :: r) [45] = r := by unfold trimPrefix; rw [e1]; rfl
    have ha : atoi (45 :: r) = (decNat r).map fun (m : Nat) => -(m : Int) := rfl
    have hno : ∀ v, atoi (45 :: r) = some v → v ≤ 0 := fun v hv => by
      rw [ha] at hv
      cases hd : decNat r with
      | none => rw [hd] at hv; cases hv
      | some w =>
        rw [hd] at hv
        have : -(w : Int) = v := by simpa using hv
        omega
    constructor
    · intro h
      unfold intP at h
      split at h
      · split at h
        · rename_i n hn
          split at h
          · have h1 := Option.some.inj h
            have := hno n hn
            omega
          · cases h
        · cases h
      · cases h
    · intro h
      unfold numP at h
      split at h
      · cases h
      · have := hno m h; omega
  · obtain ⟨e1, e2⟩ := trim_dig (r := r) hb
    have hl : (b :: r).length = r.length + 1 := rfl
    by_cases hd : (b :: r).all dig = true
    · have hdb : dig b = true := by simp only [List.all_cons, Bool.and_eq_true] at hd; exact hd.1
      have b1 := of_decide_eq_true hdb
      by_cases hle : (b :: r).length ≤ 3
      · unfold intP numP numBad
        rw [e2, e1, if_pos ⟨⟨by rw [hl]; omega, hle⟩, hd⟩, hd]
        obtain ⟨v, hv⟩ : ∃ v, decFrom (b.toNat - 48) r = some v := dec_all r _ (by simp only [List.all_cons, Bool.and_eq_true] at hd; exact hd.2)
        have hav : atoi (b :: r) = some (v : Int) := by rw [atoi_dig hdb, hv]; rfl
        rw [hav]
        simp only [List.isEmpty_cons, Bool.false_or, Bool.not_true, Bool.or_false, List.headD_cons]
        have hlt : (decide (3 < (b :: r).length)) = false := decide_eq_false (by omega)
        rw [hlt, Bool.false_or]
        -- by length
        rcases r with _ | ⟨c, _ | ⟨d, _ | ⟨e, r⟩⟩⟩
        · have hv2 : v = b.toNat - 48 := by simpa [decFrom] using hv.symm
          have hi : itoa (v : Int) = [b] := by
            rw [itoa_dig (by omega) (by omega)]
            unfold digP
            rw [if_pos (by omega), show 48 + (v : Int).toNat = b.toNat by omega, u8_of]
          rw [if_pos hi]
          by_cases h48 : b = 48
          · subst h48; simp
          · simp [h48]
        · simp only [List.all_cons, Bool.and_eq_true] at hd
          have c1 := of_decide_eq_true hd.2.1
          rw [dec_step hd.2.1] at hv
          have hv2 : v = (b.toNat - 48) * 10 + (c.toNat - 48) := by simpa [decFrom] using hv.symm
          by_cases h48 : b = 48
          · subst h48
            have hi : itoa (v : Int) ≠ [48, c] := by
              rw [itoa_dig (by omega) (by omega)]
              unfold digP
              rw [if_pos (by simp at hv2; omega)]
              simp
            rw [if_neg hi]
            simp
          · have h3 : b.toNat ≠ 48 := fun e => h48 (by rw [← u8_of b, e]; rfl)
            have hi : itoa (v : Int) = [b, c] := by
              rw [itoa_dig (by omega) (by omega)]
              unfold digP
              rw [if_neg (by omega), show 48 + (v : Int).toNat / 10 = b.toNat by omega, show 48 + (v : Int).toNat % 10 = c.toNat by omega, u8_of, u8_of]
            rw [if_pos hi]
            simp [h48]
        · simp only [List.all_cons, Bool.and_eq_true] at hd
          have c1 := of_decide_eq_true hd.2.1
          have d1 := of_decide_eq_true hd.2.2.1
          rw [dec_step hd.2.1, dec_step hd.2.2.1] at hv
          have hv2 : v = ((b.toNat - 48) * 10 + (c.toNat - 48)) * 10 + (d.toNat - 48) := by simpa [decFrom] using hv.symm
          by_cases h48 : b = 48
          · subst h48
            have hi : itoa (v : Int) ≠ [48, c, d] := by
              rw [itoa_dig (by omega) (by simp at hv2; omega)]
              intro hc
              have h9 : (digP (v : Int).toNat).length ≤ 2 := by unfold digP; split <;> simp
              rw [hc] at h9
              simp at h9
            rw [if_neg hi]
            simp
          · have h3 : b.toNat ≠ 48 := fun e => h48 (by rw [← u8_of b, e]; rfl)
            have hi : itoa (v : Int) = [b, c, d] := by
              rw [itoa_three (by omega) (by omega), show 48 + (v : Int).toNat / 100 = b.toNat by omega, show 48 + (v : Int).toNat / 10 % 10 = c.toNat by omega, show 48 + (v : Int).toNat % 10 = d.toNat by omega, u8_of, u8_of, u8_of]
            rw [if_pos hi]
            simp [h48]
        · simp at hle
      · have hn1 : intP (b :: r) = none := by
          unfold intP
          rw [e2, if_neg (by intro hc; exact hle hc.1.2)]
        have hn2 : numP (b :: r) 3 = none := by
          unfold numP numBad
          rw [e2, if_pos (by simp at hle; simp; omega)]
        rw [hn1, hn2]
    · have hn1 : intP (b :: r) = none := by
        unfold intP
        rw [e2, if_neg (by intro hc; exact hd hc.2)]
      have hn2 : numP (b :: r) 3 = none := by
        unfold numP numBad
        have hd2 : (b :: r).all dig = false := by simpa using hd
        rw [e2, hd2, if_pos (by simp)]
      rw [hn1, hn2]
theorem pair_some {l : List UInt8} {h : Int} (e : pairP l = some h) : l.length = 2 ∧ l.all dig = true ∧ atoi l = some h ∧ 0 ≤ h ∧ h < 100 := by
  obtain ⟨h0, h1, _⟩ := pair_two e
  unfold pairP at e
  split at e
  · rename_i a b
    split at e
    · rename_i hd
      simp only [Bool.and_eq_true] at hd
      obtain rfl := Option.some.inj e
      exact ⟨rfl, by simp [hd.1, hd.2], atoi_two hd.1 hd.2, h0, h1⟩
    · cases e
  · cases e
theorem pair_none {l : List UInt8} (e : pairP l = none) : l.length ≠ 2 ∨ l.all dig = false := by
  rcases l with _ | ⟨a, _ | ⟨b, _ | ⟨c, l⟩⟩⟩
  · exact .inl (by simp)
  · exact .inl (by simp)
  · refine .inr ?_
    unfold pairP at e
    simp only at e
    split at e
    · cases e
    · rename_i hd
      simpa using hd
  · exact .inl (by simp)
theorem num_atoi {l : List UInt8} {most : Nat} {n : Int} (h : numP l most = some n) : atoi l = some n := by
  unfold numP at h
  split at h
  · cases h
  · exact h
theorem digP_more : ∀ m, m < 100 → (digP m).all dig = true := by decide +kernel
theorem int_zero : intP [48] = some 0 := by
  have h : atoi [48] = some 0 := by decide
  have h2 : itoa 0 = [48] := by rw [itoa_dig (by decide) (by decide)]; decide
  unfold intP
  rw [if_pos (by decide), h]
  simp [h2]
theorem long_no {mi se : List UInt8} {h : Int} (hx : ∀ m, 1 ≤ m → numP mi 3 ≠ some m) : longP mi se h = (0, 9) := by
  unfold longP
  split
  · rename_i m n hm _
    rw [if_neg (by intro hc; exact hx m hc.1 hm)]
  · rfl
theorem rest_no {colon : Bool} {m x h : Int} {se tail : List UInt8} (hc : m < 0 ∨ tail.length ≠ 2 ∨ (tail ++ se).all dig = false ∨ (colon = true ∧ (m = 0 ∨ se.length ≠ 2)) ∨ (colon = false ∧ se ≠ itoa x) ∨ 59 < x) : restR colon m x h se tail = (0, 9) := by
  unfold restR
  split
  · rfl
  · rename_i h1
    rw [if_pos]
    rcases hc with h2 | h2 | h2 | h2
    · exact absurd (.inl h2) h1
    · exact absurd (.inr (.inl h2)) h1
    · exact absurd (.inr (.inr h2)) h1
    · exact h2
theorem parsed_parts (point colon : Bool) (left mi se tail : List UInt8) : parsedR point colon (if colon = true then mi else [48]) (if colon = true then se else left) tail = parseQ point tail colon left mi se := by
  unfold parsedR parseQ
  cases point
  · rfl
  rw [if_neg (by decide), if_pos rfl]
  rcases hp : pairP tail with _ | h
  · simp only
    split
    · refine rest_no ?_
      rcases pair_none hp with h1 | h1
      · exact .inr (.inl h1)
      · exact .inr (.inr (.inl (by rw [List.all_append, h1]; rfl)))
    · rfl
  · obtain ⟨t1, t2, t3, t4, t5⟩ := pair_some hp
    simp only [t3]
    cases colon
    · simp only [Bool.false_eq_true, if_false, int_zero]
      unfold shortP
      rcases ha : atoi left with _ | x
      · simp only
        rcases hn : numP left 2 with _ | n
        · rfl
        · rw [num_atoi hn] at ha; cases ha
      · simp only
        by_cases hg : (left.all dig = true ∧ left = itoa x) ∧ x ≤ 59
        · obtain ⟨⟨g1, g2⟩, g3⟩ := hg
          have g4 : 0 ≤ x := by
            rcases left with _ | ⟨b, r⟩
            · cases ha
            · simp only [List.all_cons, Bool.and_eq_true] at g1
              rw [atoi_dig g1.1] at ha
              cases hv : decFrom (b.toNat - 48) r with
              | none => rw [hv] at ha; cases ha
              | some v => rw [hv] at ha; have : (v : Int) = x := by simpa using ha
                          omega
          have g5 : left = digP x.toNat := by rw [g2]; exact itoa_dig g4 (by omega)
          have g6 : numP left 2 = some x := by
            rw [g5, (digP_no x.toNat (by omega)).2.2.2.1]
            congr 1; omega
          rw [g6]
          simp only
          rw [if_pos ⟨g4, by omega⟩]
          unfold restR
          rw [if_neg, if_neg]
          · rintro (h1 | h1 | h1)
            · cases h1.1
            · exact h1.2 g2
            · omega
          · rintro (h1 | h1 | h1)
            · omega
            · exact h1 t1
            · rw [List.all_append, t2, g1] at h1; cases h1
        · have hr : restR false 0 x h left tail = (0, 9) := by
            refine rest_no ?_
            by_cases g1 : left.all dig = true
            · by_cases g2 : left = itoa x
              · exact .inr (.inr (.inr (.inr (.inr (by
                  by_cases g3 : x ≤ 59
                  · exact absurd ⟨⟨g1, g2⟩, g3⟩ hg
                  · omega)))))
              · exact .inr (.inr (.inr (.inr (.inl ⟨rfl, g2⟩))))
            · exact .inr (.inr (.inl (by rw [List.all_append, t2]; simpa using g1)))
          rw [hr]
          rcases hn : numP left 2 with _ | n
          · rfl
          · simp only
            rw [if_neg]
            rintro ⟨n0, n1⟩
            have hx : atoi left = some n := num_atoi hn
            rw [ha] at hx
            obtain rfl := Option.some.inj hx
            have g5 := num_dig hn n0 (by omega)
            refine hg ⟨⟨by rw [g5]; exact digP_more _ (by omega), by rw [itoa_dig n0 (by omega)]; exact g5⟩, by omega⟩
    · simp only [if_true]
      rcases hs : pairP se with _ | x
      · have hl : longP mi se h = (0, 9) := by
          unfold longP
          rw [hs]
          split
          · rename_i m n _ hc; cases hc
          · rfl
        rw [hl]
        split
        · refine rest_no ?_
          rcases pair_none hs with h1 | h1
          · exact .inr (.inr (.inr (.inl ⟨rfl, .inr h1⟩)))
          · exact .inr (.inr (.inl (by rw [List.all_append, h1]; simp)))
        · rfl
      · obtain ⟨s1, s2, s3, s4, s5⟩ := pair_some hs
        rw [s3]
        by_cases hm : ∃ m, 1 ≤ m ∧ intP mi = some m
        · obtain ⟨m, m1, m2⟩ := hm
          have m3 := (int_num m1).1 m2
          rw [m2]
          unfold longP
          rw [m3, hs]
          simp only
          by_cases hx : x < 60
          · rw [if_pos ⟨m1, hx⟩]
            unfold restR
            rw [if_neg, if_neg]
            · rintro (h1 | h1 | h1)
              · rcases h1.2 with h2 | h2
                · omega
                · exact h2 s1
              · cases h1.1
              · omega
            · rintro (h1 | h1 | h1)
              · omega
              · exact h1 t1
              · rw [List.all_append, t2, s2] at h1; cases h1
          · rw [if_neg (by intro hc; exact hx hc.2)]
            exact rest_no (.inr (.inr (.inr (.inr (.inr (by omega))))))
        · have hl : longP mi se h = (0, 9) := long_no fun m m1 m2 => hm ⟨m, m1, (int_num m1).2 m2⟩
          rw [hl]
          split
          · rename_i m y z h1 h2 h3
            refine rest_no ?_
            by_cases hz : m < 0
            · exact .inl hz
            · by_cases hz2 : m = 0
              · exact .inr (.inr (.inr (.inl ⟨rfl, .inl hz2⟩)))
              · exact absurd ⟨m, by omega, h1⟩ hm
          · rfl
end Go.Proofs.YtlddeeagnlgciaaDoor
