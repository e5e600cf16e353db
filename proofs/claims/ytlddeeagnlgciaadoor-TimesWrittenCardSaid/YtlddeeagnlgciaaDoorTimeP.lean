/- Times written and read: the plain law (a time that is written is read as it was; what is read is written so). -/
import Derived.Lib.IndexMore
import Derived.Lib.Strings
import Derived.Lib.Atoi
import Derived.Lib.ItoaNum
namespace Go.Proofs.YtlddeeagnlgciaaDoor
open Go.Lib
set_option linter.unusedVariables false

def dig (b : UInt8) : Bool := decide (48 ≤ b.toNat ∧ b.toNat ≤ 57)
def pairP : List UInt8 → Option Int
  | [a, b] => if (dig a && dig b) = true then some (10 * ((a.toNat : Int) - 48) + ((b.toNat : Int) - 48)) else none
  | _ => none
def numBad (t : List UInt8) (neg : Bool) (most : Nat) : Bool := t.isEmpty || decide (most < t.length) || !t.all dig || (decide (t.headD 0 = 48) && (decide (t ≠ [48]) || neg))
def numP (l : List UInt8) (most : Nat) : Option Int := if numBad (trimPrefix l [45]) (hasPrefix l [45]) most = true then none else atoi l
def finT (m n h : Int) : Int × Int := if 1 ≤ 6000 * m + 100 * n + h ∧ 6000 * m + 100 * n + h ≤ 360000 then (6000 * m + 100 * n + h, 0) else (0, 1)
def longP (mi se : List UInt8) (h : Int) : Int × Int := match numP mi 3, pairP se with
  | some m, some n => if 1 ≤ m ∧ n < 60 then finT m n h else (0, 9)
  | _, _ => (0, 9)
def shortP (left : List UInt8) (h : Int) : Int × Int := match numP left 2 with
  | some n => if 0 ≤ n ∧ n < 60 then finT 0 n h else (0, 9)
  | none => (0, 9)
def parseQ (ok : Bool) (right : List UInt8) (long : Bool) (left mi se : List UInt8) : Int × Int := if ok = true then
    (match pairP right with
    | some h => if long = true then longP mi se h else shortP left h
    | none => (0, 9))
  else (0, 9)
def parseP (l : List UInt8) : Int × Int := if (cut l [46]).2.2 = true then
    (match pairP (cut l [46]).2.1 with
    | some h => if (cut (cut l [46]).1 [58]).2.2 = true then longP (cut (cut l [46]).1 [58]).1 (cut (cut l [46]).1 [58]).2.1 h else shortP (cut l [46]).1 h
    | none => (0, 9))
  else (0, 9)
theorem parse_parts (l : List UInt8) : parseP l = parseQ (cut l [46]).2.2 (cut l [46]).2.1 (cut (cut l [46]).1 [58]).2.2 (cut l [46]).1 (cut (cut l [46]).1 [58]).1 (cut (cut l [46]).1 [58]).2.1 := rfl
def digP (m : Nat) : List UInt8 := if m < 10 then [UInt8.ofNat (48 + m)] else [UInt8.ofNat (48 + m / 10), UInt8.ofNat (48 + m % 10)]
theorem dec_dig {m : Nat} (h : m < 100) : decDigits m = digP m := by
  unfold digP
  by_cases h1 : m < 10
  · rw [if_pos h1, decDigits_one h1]
  · rw [if_neg h1, decDigits_two h1 h]
def twoP (n : Nat) : List UInt8 := [UInt8.ofNat (48 + n / 10), UInt8.ofNat (48 + n % 10)]
def writeP (n : Nat) : List UInt8 := if n < 6000 then digP (n / 100) ++ 46 :: twoP (n % 100) else (digP (n / 6000) ++ 58 :: twoP (n / 100 % 60)) ++ 46 :: twoP (n % 100)
theorem index_notin (c : UInt8) : ∀ (a : List UInt8), c ∉ a → index a [c] = -1
  | [], _ => rfl
  | x :: a, h => by
    have h1 : c ≠ x := fun e => h (by simp [e])
    have h2 := index_notin c a (fun e => h (by simp [e]))
    unfold index
    rw [if_neg (by simp [h1]), h2]
    rfl
theorem index_at (c : UInt8) : ∀ (a b : List UInt8), c ∉ a → index (a ++ c :: b) [c] = a.length
  | [], b, _ => by simp [index]
  | x :: a, b, h => by
    have h1 : c ≠ x := fun e => h (by simp [e])
    have h2 := index_at c a b (fun e => h (by simp [e]))
    show index (x :: (a ++ c :: b)) [c] = _
    unfold index
    rw [if_neg (by simp [h1]), h2, if_neg (by first | (simp; done) | (simp; omega))]
    simp
theorem cut_at (c : UInt8) (a b : List UInt8) (h : c ∉ a) : cut (a ++ c :: b) [c] = (a, b, true) := by
  unfold cut
  rw [index_at c a b h, if_pos (by omega)]
  simp
theorem cut_no (c : UInt8) (a : List UInt8) (h : c ∉ a) : cut a [c] = (a, [], false) := by
  unfold cut
  rw [index_notin c a h, if_neg (by decide)]
theorem split_at (c : UInt8) : ∀ (l : List UInt8), c ∈ l → ∃ a b, l = a ++ c :: b ∧ c ∉ a
  | x :: l, h => by
    by_cases e : c = x
    · subst e; exact ⟨[], l, rfl, by simp⟩
    · obtain ⟨a, b, rfl, hn⟩ := split_at c l (by simpa [e] using h)
      exact ⟨x :: a, b, rfl, by simp [e, hn]⟩
theorem cut_cases (c : UInt8) (l : List UInt8) : (c ∉ l ∧ cut l [c] = (l, [], false)) ∨ ∃ a b, l = a ++ c :: b ∧ c ∉ a ∧ cut l [c] = (a, b, true) := by
  by_cases h : c ∈ l
  · obtain ⟨a, b, rfl, hn⟩ := split_at c l h
    exact .inr ⟨a, b, rfl, hn, cut_at c a b hn⟩
  · exact .inl ⟨h, cut_no c l h⟩
theorem u8_of (b : UInt8) : UInt8.ofNat b.toNat = b := by simp
theorem pair_two {l : List UInt8} {h : Int} (e : pairP l = some h) : 0 ≤ h ∧ h < 100 ∧ l = twoP h.toNat := by
  unfold pairP at e
  split at e
  · rename_i a b
    split at e
    · rename_i hd
      simp only [dig, Bool.and_eq_true, decide_eq_true_eq] at hd
      obtain rfl := Option.some.inj e
      refine ⟨by omega, by omega, ?_⟩
      unfold twoP
      have e1 : 48 + (10 * ((a.toNat : Int) - 48) + ((b.toNat : Int) - 48)).toNat / 10 = a.toNat := by omega
      have e2 : 48 + (10 * ((a.toNat : Int) - 48) + ((b.toNat : Int) - 48)).toNat % 10 = b.toNat := by omega
      rw [e1, e2, u8_of, u8_of]
    · cases e
  · cases e
theorem decFrom_ge : ∀ (l : List UInt8) (acc v : Nat), decFrom acc l = some v → acc ≤ v
  | [], acc, v, h => by
    obtain rfl := Option.some.inj h; exact Nat.le_refl _
  | b :: l, acc, v, h => by
    unfold decFrom at h
    split at h
    · rename_i d _
      have := decFrom_ge l _ _ h
      omega
    · cases h
theorem digitVal_of {b : UInt8} (h : dig b = true) : digitVal b = some (b.toNat - 48) := by
  unfold dig at h
  unfold digitVal
  rw [if_pos (of_decide_eq_true h)]
theorem dec_step {b : UInt8} (h : dig b = true) (acc : Nat) (l : List UInt8) : decFrom acc (b :: l) = decFrom (acc * 10 + (b.toNat - 48)) l := by
  conv => lhs; unfold decFrom
  rw [digitVal_of h]
theorem num_dig {l : List UInt8} {most : Nat} {n : Int} (h : numP l most = some n) (h0 : 0 ≤ n) (h1 : n < 100) : l = digP n.toNat := by
  unfold numP at h
  split at h
  · cases h
  · rename_i hb
    have hb' : numBad (trimPrefix l [45]) (hasPrefix l [45]) most = false := by simpa using hb
    unfold numBad at hb'
    simp only [Bool.or_eq_false_iff, Bool.not_eq_false', decide_eq_false_iff_not] at hb'
    obtain ⟨⟨⟨b1, b2⟩, b3⟩, b4⟩ := hb'
    rcases l with _ | ⟨b, r⟩
    · cases h
    · by_cases hm : b = 45
      · subst hm
        have e1 : hasPrefix (45 :: r) [45] = true := by simp [hasPrefix]
        have e2 : trimPrefix (45 :: r) [45] = r := by unfold trimPrefix; rw [e1]; rfl
        rw [e2] at b1 b3 b4
        rw [e1] at b4
        rcases r with _ | ⟨c, r⟩
        · simp at b1
        · have hc : c ≠ 48 := fun e => by subst e; simp at b4
          have hd : dig c = true := by simp only [List.all_cons, Bool.and_eq_true] at b3; exact b3.1
          have ha : atoi (45 :: c :: r) = (decNat (c :: r)).map fun (m : Nat) => -(m : Int) := rfl
          rw [ha] at h
          have hdn : decNat (c :: r) = decFrom 0 (c :: r) := rfl
          rw [hdn, dec_step hd] at h
          cases hv : decFrom (0 * 10 + (c.toNat - 48)) r with
          | none => rw [hv] at h; cases h
          | some v =>
            rw [hv] at h
            have := decFrom_ge r _ _ hv
            have h2 : -(v : Int) = n := by simpa using h
            have h3 : c.toNat ≠ 48 := fun e => hc (by rw [← u8_of c, e]; rfl)
            have h4 := of_decide_eq_true hd
            omega
      · have e1 : hasPrefix (b :: r) [45] = false := by
          have : (45 == b) = false := beq_eq_false_iff_ne.2 (Ne.symm hm)
          simp [hasPrefix, List.isPrefixOf, this]
        have e2 : trimPrefix (b :: r) [45] = b :: r := by unfold trimPrefix; rw [e1]; rfl
        rw [e2] at b1 b3 b4
        simp only [List.all_cons, Bool.and_eq_true] at b3
        have hd := b3.1
        have h4 := of_decide_eq_true hd
        have h43 : b ≠ 43 := fun e => by subst e; revert hd; decide
        have ha : atoi (b :: r) = (decNat (b :: r)).map fun (m : Nat) => (m : Int) := by
          show (if b == 45 then _ else if b == 43 then _ else _) = _
          rw [if_neg (by simpa using hm), if_neg (by simpa using h43)]
        rw [ha] at h
        have hdn : decNat (b :: r) = decFrom 0 (b :: r) := rfl
        rw [hdn, dec_step hd] at h
        rcases r with _ | ⟨c, r⟩
        · have h2 : ((0 * 10 + (b.toNat - 48) : Nat) : Int) = n := by simpa [decFrom] using h
          unfold digP
          rw [if_pos (by omega)]
          have : 48 + n.toNat = b.toNat := by omega
          rw [this, u8_of]
        · have hb48 : b ≠ 48 := fun e => by subst e; simp at b4
          have h3 : b.toNat ≠ 48 := fun e => hb48 (by rw [← u8_of b, e]; rfl)
          have b3' := b3.2
          simp only [List.all_cons, Bool.and_eq_true] at b3'
          have hdc := b3'.1
          have h5 := of_decide_eq_true hdc
          rw [dec_step hdc] at h
          rcases r with _ | ⟨d, r⟩
          · have h2 : (((0 * 10 + (b.toNat - 48)) * 10 + (c.toNat - 48) : Nat) : Int) = n := by simpa [decFrom] using h
            unfold digP
            rw [if_neg (by omega)]
            have k1 : 48 + n.toNat / 10 = b.toNat := by omega
            have k2 : 48 + n.toNat % 10 = c.toNat := by omega
            rw [k1, k2, u8_of, u8_of]
          · have b3'' := b3'.2
            simp only [List.all_cons, Bool.and_eq_true] at b3''
            rw [dec_step b3''.1] at h
            cases hv : decFrom (((0 * 10 + (b.toNat - 48)) * 10 + (c.toNat - 48)) * 10 + (d.toNat - 48)) r with
            | none => rw [hv] at h; cases h
            | some v =>
              rw [hv] at h
              have := decFrom_ge r _ _ hv
              have h2 : (v : Int) = n := by simpa using h
              omega
theorem dec_all : ∀ (l : List UInt8) (acc : Nat), l.all dig = true → ∃ v, decFrom acc l = some v
  | [], acc, _ => ⟨acc, rfl⟩
  | b :: l, acc, h => by
    simp only [List.all_cons, Bool.and_eq_true] at h
    rw [dec_step h.1]
    exact dec_all l _ h.2
theorem num_some {l : List UInt8} {most : Nat} (hb : numBad (trimPrefix l [45]) (hasPrefix l [45]) most = false) : ∃ n, atoi l = some n := by
  unfold numBad at hb
  simp only [Bool.or_eq_false_iff, Bool.not_eq_false', decide_eq_false_iff_not] at hb
  obtain ⟨⟨⟨b1, b2⟩, b3⟩, b4⟩ := hb
  rcases l with _ | ⟨b, r⟩
  · simp [trimPrefix, hasPrefix] at b1
  · by_cases hm : b = 45
    · subst hm
      have e1 : hasPrefix (45 :: r) [45] = true := by simp [hasPrefix]
      have e2 : trimPrefix (45 :: r) [45] = r := by unfold trimPrefix; rw [e1]; rfl
      rw [e2] at b1 b3
      obtain ⟨v, hv⟩ := dec_all r 0 b3
      have ha : atoi (45 :: r) = (decNat r).map fun (m : Nat) => -(m : Int) := rfl
      have hd : decNat r = some v := by unfold decNat; rw [b1]; exact hv
      exact ⟨_, by rw [ha, hd]; rfl⟩
    · have e1 : hasPrefix (b :: r) [45] = false := by
        have : (45 == b) = false := beq_eq_false_iff_ne.2 (Ne.symm hm)
        simp [hasPrefix, List.isPrefixOf, this]
      have e2 : trimPrefix (b :: r) [45] = b :: r := by unfold trimPrefix; rw [e1]; rfl
      rw [e2] at b1 b3
      have hd : dig b = true := by simp only [List.all_cons, Bool.and_eq_true] at b3; exact b3.1
      have h43 : b ≠ 43 := fun e => by subst e; revert hd; decide
      have ha : atoi (b :: r) = (decNat (b :: r)).map fun (m : Nat) => (m : Int) := by
        show (if b == 45 then _ else if b == 43 then _ else _) = _
        rw [if_neg (by simpa using hm), if_neg (by simpa using h43)]
      obtain ⟨v, hv⟩ := dec_all (b :: r) 0 b3
      have hdn : decNat (b :: r) = some v := hv
      exact ⟨_, by rw [ha, hdn]; rfl⟩
theorem decFrom_lt : ∀ (l : List UInt8) (acc v : Nat), l.all dig = true → decFrom acc l = some v → v < (acc + 1) * 10 ^ l.length
  | [], acc, v, _, h => by
    obtain rfl := Option.some.inj h; simp
  | b :: l, acc, v, ha, h => by
    simp only [List.all_cons, Bool.and_eq_true] at ha
    rw [dec_step ha.1] at h
    have h1 := decFrom_lt l _ _ ha.2 h
    have h2 := of_decide_eq_true ha.1
    have h3 : (acc * 10 + (b.toNat - 48) + 1) * 10 ^ l.length ≤ ((acc + 1) * 10) * 10 ^ l.length := Nat.mul_le_mul_right _ (by omega)
    rw [List.length_cons, Nat.pow_succ]
    have h4 : ((acc + 1) * 10) * 10 ^ l.length = (acc + 1) * (10 ^ l.length * 10) := by rw [Nat.mul_assoc, Nat.mul_comm 10]
    omega
theorem decNat_lt {l : List UInt8} {v : Nat} (ha : l.all dig = true) (hl : l.length ≤ 3) (h : decNat l = some v) : v < 1000 := by
  unfold decNat at h
  split at h
  · cases h
  · have h1 := decFrom_lt l 0 v ha h
    have h2 : 10 ^ l.length ≤ 10 ^ 3 := Nat.pow_le_pow_right (by decide) hl
    omega
theorem num_bd {l : List UInt8} {most : Nat} {n : Int} (h : numP l most = some n) (hm : most ≤ 3) : -1000 < n ∧ n < 1000 ∧ l ≠ [] := by
  unfold numP at h
  split at h
  · cases h
  · rename_i hb
    have hb' : numBad (trimPrefix l [45]) (hasPrefix l [45]) most = false := by simpa using hb
    unfold numBad at hb'
    simp only [Bool.or_eq_false_iff, Bool.not_eq_false', decide_eq_false_iff_not] at hb'
    obtain ⟨⟨⟨b1, b2⟩, b3⟩, b4⟩ := hb'
    rcases l with _ | ⟨b, r⟩
    · cases h
    · by_cases hm : b = 45
      · subst hm
        have e1 : hasPrefix (45 :: r) [45] = true := by simp [hasPrefix]
        have e2 : trimPrefix (45 :: r) [45] = r := by unfold trimPrefix; rw [e1]; rfl
        rw [e2] at b2 b3
        have ha : atoi (45 :: r) = (decNat r).map fun (m : Nat) => -(m : Int) := rfl
        rw [ha] at h
        cases hv : decNat r with
        | none => rw [hv] at h; cases h
        | some v =>
          rw [hv] at h
          have h1 := decNat_lt b3 (by omega) hv
          have h2 : -(v : Int) = n := by simpa using h
          exact ⟨by omega, by omega, by simp⟩
      · have e1 : hasPrefix (b :: r) [45] = false := by
          have : (45 == b) = false := beq_eq_false_iff_ne.2 (Ne.symm hm)
          simp [hasPrefix, List.isPrefixOf, this]
        have e2 : trimPrefix (b :: r) [45] = b :: r := by unfold trimPrefix; rw [e1]; rfl
        rw [e2] at b2 b3
        have hd : dig b = true := by simp only [List.all_cons, Bool.and_eq_true] at b3; exact b3.1
        have h43 : b ≠ 43 := fun e => by subst e; revert hd; decide
        have ha : atoi (b :: r) = (decNat (b :: r)).map fun (m : Nat) => (m : Int) := by
          show (if b == 45 then _ else if b == 43 then _ else _) = _
          rw [if_neg (by simpa using hm), if_neg (by simpa using h43)]
        rw [ha] at h
        cases hv : decNat (b :: r) with
        | none => rw [hv] at h; cases h
        | some v =>
          rw [hv] at h
          have h1 := decNat_lt b3 (by omega) hv
          have h2 : (v : Int) = n := by simpa using h
          exact ⟨by omega, by omega, by simp⟩
theorem cut_len (c : UInt8) (l : List UInt8) : (cut l [c]).1.length ≤ l.length ∧ (cut l [c]).2.1.length ≤ l.length := by
  rcases cut_cases c l with ⟨_, h⟩ | ⟨a, b, rfl, _, h⟩
  · rw [h]; simp
  · rw [h]; simp; omega
theorem fin_ok {m n h v : Int} (e : finT m n h = (v, 0)) : v = 6000 * m + 100 * n + h ∧ 1 ≤ v ∧ v ≤ 360000 := by
  unfold finT at e
  split at e
  · injection e with e1 e2; omega
  · injection e with e1 e2; omega
/-- what is read is written so -/
theorem parse_write {l : List UInt8} {v : Int} (h : parseP l = (v, 0)) : 1 ≤ v ∧ v ≤ 360000 ∧ writeP v.toNat = l := by
  unfold parseP at h
  rcases cut_cases 46 l with ⟨_, hc⟩ | ⟨a, b, rfl, hn, hc⟩
  · rw [hc] at h; simp at h
  · rw [hc] at h
    simp only [if_true] at h
    split at h
    · rename_i hh hp
      obtain ⟨p0, p1, rfl⟩ := pair_two hp
      rcases cut_cases 58 a with ⟨_, hc2⟩ | ⟨mi, se, rfl, hn2, hc2⟩
      · rw [hc2] at h
        simp only [Bool.false_eq_true, if_false] at h
        unfold shortP at h
        split at h
        · rename_i n hnum
          split at h
          · rename_i hb
            obtain ⟨rfl, v1, v2⟩ := fin_ok h
            have := num_dig hnum hb.1 (by omega)
            refine ⟨v1, v2, ?_⟩
            unfold writeP
            have k1 : (6000 * 0 + 100 * n + hh).toNat / 100 = n.toNat := by omega
            have k2 : (6000 * 0 + 100 * n + hh).toNat % 100 = hh.toNat := by omega
            rw [if_pos (by omega), k1, k2, ← this]
          · injection h with _ h; omega
        · injection h with _ h; omega
      · rw [hc2] at h
        simp only [if_true] at h
        unfold longP at h
        split at h
        · rename_i m n hnum hp2
          split at h
          · rename_i hb
            obtain ⟨rfl, v1, v2⟩ := fin_ok h
            obtain ⟨q0, q1, rfl⟩ := pair_two hp2
            have := num_dig hnum (by omega) (by omega)
            refine ⟨v1, v2, ?_⟩
            unfold writeP
            have k1 : (6000 * m + 100 * n + hh).toNat / 6000 = m.toNat := by omega
            have k2 : (6000 * m + 100 * n + hh).toNat % 100 = hh.toNat := by omega
            have k3 : (6000 * m + 100 * n + hh).toNat / 100 % 60 = n.toNat := by omega
            rw [if_neg (by omega), k1, k2, k3, ← this]
          · injection h with _ h; omega
        · injection h with _ h; omega
    · injection h with _ h; omega
theorem digP_no : ∀ m, m < 100 → (46 : UInt8) ∉ digP m ∧ (58 : UInt8) ∉ digP m ∧ numP (digP m) 3 = some (m : Int) ∧ numP (digP m) 2 = some (m : Int) ∧ (46 : UInt8) ∉ twoP m ∧ pairP (twoP m) = some (m : Int) := by decide +kernel
/-- a time that is written is read as it was -/
theorem write_parse {n : Nat} (h0 : 1 ≤ n) (h1 : n ≤ 360000) : parseP (writeP n) = ((n : Int), 0) := by
  unfold writeP
  by_cases h : n < 6000
  · rw [if_pos h]
    obtain ⟨a1, a2, _, a4, _, _⟩ := digP_no (n / 100) (by omega)
    obtain ⟨_, _, _, _, _, c6⟩ := digP_no (n % 100) (by omega)
    unfold parseP
    rw [cut_at 46 _ _ a1]
    simp only [if_true, c6]
    rw [cut_no 58 _ a2]
    simp only [Bool.false_eq_true, if_false]
    unfold shortP
    rw [a4]
    dsimp only
    rw [if_pos (by omega)]
    unfold finT
    rw [if_pos (by omega)]
    congr 1
    omega
  · rw [if_neg h]
    obtain ⟨a1, a2, a3, _, _, _⟩ := digP_no (n / 6000) (by omega)
    obtain ⟨_, _, _, _, b5, b6⟩ := digP_no (n / 100 % 60) (by omega)
    obtain ⟨_, _, _, _, _, c6⟩ := digP_no (n % 100) (by omega)
    unfold parseP
    rw [cut_at 46 _ _ (by simp only [List.mem_append, List.mem_cons, not_or]; exact ⟨a1, by decide, b5⟩)]
    simp only [if_true, c6]
    rw [cut_at 58 _ _ a2]
    simp only [if_true]
    unfold longP
    rw [a3, b6]
    dsimp only
    rw [if_pos (by omega)]
    unfold finT
    rw [if_pos (by omega)]
    congr 1
    omega
end Go.Proofs.YtlddeeagnlgciaaDoor
