import Derived.Lib.IndexMore
import Derived.Lib.Strings
import Derived.Lib.Atoi
import Derived.Lib.ItoaNum
import Derived.Lib.SplitLaws
import Derived.Lib.Join
/- Times written and read: the plain law (a time that is written is read as it was; what is read is written so). -/
namespace Go.Proofs.YtklggnglaeagpaaGreatDoor
open Go.Lib
set_option linter.unusedVariables false

def dig (b : UInt8) : Bool := decide (48 ≤ b.toNat ∧ b.toNat ≤ 57)
def pairP : List UInt8 → Option Int
  | [a, b] => if (dig a && dig b) = true then some (10 * ((a.toNat : Int) - 48) + ((b.toNat : Int) - 48)) else none
  | _ => none
def numBad (t : List UInt8) (neg : Bool) (most : Nat) : Bool := t.isEmpty || decide (most < t.length) || !t.all dig || (decide (t.headD 0 = 48) && (decide (t ≠ [48]) || neg))
def numP (l : List UInt8) (most : Nat) : Option Int := if numBad (trimPrefix l [45]) (hasPrefix l [45]) most = true then none else atoi l
def finT (m n h : Int) : Int × Int := if 1 ≤ 6000 * m + 100 * n + h ∧ 6000 * m + 100 * n + h ≤ 360000 then (6000 * m + 100 * n + h, 0) else (0, 1)
def longP (mi se : List UInt8) (h : Int) : Int × Int := match numP mi 3, pairP se with
  | some m, some n => if 1 ≤ m ∧ n < 60 then finT m n h else (0, 9)
  | _, _ => (0, 9)
def shortP (left : List UInt8) (h : Int) : Int × Int := match numP left 2 with
  | some n => if 0 ≤ n ∧ n < 60 then finT 0 n h else (0, 9)
  | none => (0, 9)
def parseQ (ok : Bool) (right : List UInt8) (long : Bool) (left mi se : List UInt8) : Int × Int := if ok = true then
    (match pairP right with
    | some h => if long = true then longP mi se h else shortP left h
    | none => (0, 9))
  else (0, 9)
def parseP (l : List UInt8) : Int × Int := if (cut l [46]).2.2 = true then
    (match pairP (cut l [46]).2.1 with
    | some h => if (cut (cut l [46]).1 [58]).2.2 = true then longP (cut (cut l [46]).1 [58]).1 (cut (cut l [46]).1 [58]).2.1 h else shortP (cut l [46]).1 h
    | none => (0, 9))
  else (0, 9)
theorem parse_parts (l : List UInt8) : parseP l = parseQ (cut l [46]).2.2 (cut l [46]).2.1 (cut (cut l [46]).1 [58]).2.2 (cut l [46]).1 (cut (cut l [46]).1 [58]).1 (cut (cut l [46]).1 [58]).2.1 := rfl
def digP (m : Nat) : List UInt8 := if m < 10 then [UInt8.ofNat (48 + m)] else [UInt8.ofNat (48 + m / 10), UInt8.ofNat (48 + m % 10)]
theorem dec_dig {m : Nat} (h : m < 100) : decDigits m = digP m := by
  unfold digP
  by_cases h1 : m < 10
  · rw [if_pos h1, decDigits_one h1]
  · rw [if_neg h1, decDigits_two h1 h]
def twoP (n : Nat) : List UInt8 := [UInt8.ofNat (48 + n / 10), UInt8.ofNat (48 + n % 10)]
def writeP (n : Nat) : List UInt8 := if n < 6000 then digP (n / 100) ++ 46 :: twoP (n % 100) else (digP (n / 6000) ++ 58 :: twoP (n / 100 % 60)) ++ 46 :: twoP (n % 100)
theorem index_notin (c : UInt8) : ∀ (a : List UInt8), c ∉ a → index a [c] = -1
  | [], _ => rfl
  | x :: a, h => by
    have h1 : c ≠ x := fun e => h (by simp [e])
    have h2 := index_notin c a (fun e => h (by simp [e]))
    unfold index
    rw [if_neg (by simp [h1]), h2]
    rfl
theorem index_at (c : UInt8) : ∀ (a b : List UInt8), c ∉ a → index (a ++ c :: b) [c] = a.length
  | [], b, _ => by simp [index]
  | x :: a, b, h => by
    have h1 : c ≠ x := fun e => h (by simp [e])
    have h2 := index_at c a b (fun e => h (by simp [e]))
    show index (x :: (a ++ c :: b)) [c] = _
    unfold index
    rw [if_neg (by simp [h1]), h2, if_neg (by first | (simp; done) | (simp; omega))]
    simp
theorem cut_at (c : UInt8) (a b : List UInt8) (h : c ∉ a) : cut (a ++ c :: b) [c] = (a, b, true) := by
  unfold cut
  rw [index_at c a b h, if_pos (by omega)]
  simp
theorem cut_no (c : UInt8) (a : List UInt8) (h : c ∉ a) : cut a [c] = (a, [], false) := by
  unfold cut
  rw [index_notin c a h, if_neg (by decide)]
theorem split_at (c : UInt8) : ∀ (l : List UInt8), c ∈ l → ∃ a b, l = a ++ c :: b ∧ c ∉ a
  | x :: l, h => by
    by_cases e : c = x
    · subst e; exact ⟨[], l, rfl, by simp⟩
    · obtain ⟨a, b, rfl, hn⟩ := split_at c l (by simpa [e] using h)
      exact ⟨x :: a, b, rfl, by simp [e, hn]⟩
theorem cut_cases (c : UInt8) (l : List UInt8) : (c ∉ l ∧ cut l [c] = (l, [], false)) ∨ ∃ a b, l = a ++ c :: b ∧ c ∉ a ∧ cut l [c] = (a, b, true) := by
  by_cases h : c ∈ l
  · obtain ⟨a, b, rfl, hn⟩ := split_at c l h
    exact .inr ⟨a, b, rfl, hn, cut_at c a b hn⟩
  · exact .inl ⟨h, cut_no c l h⟩
theorem u8_of (b : UInt8) : UInt8.ofNat b.toNat = b := by simp
theorem pair_two {l : List UInt8} {h : Int} (e : pairP l = some h) : 0 ≤ h ∧ h < 100 ∧ l = twoP h.toNat := by
  unfold pairP at e
  split at e
  · rename_i a b
    split at e
    · rename_i hd
      simp only [dig, Bool.and_eq_true, decide_eq_true_eq] at hd
      obtain rfl := Option.some.inj e
      refine ⟨by omega, by omega, ?_⟩
      unfold twoP
      have e1 : 48 + (10 * ((a.toNat : Int) - 48) + ((b.toNat : Int) - 48)).toNat / 10 = a.toNat := by omega
      have e2 : 48 + (10 * ((a.toNat : Int) - 48) + ((b.toNat : Int) - 48)).toNat % 10 = b.toNat := by omega
      rw [e1, e2, u8_of, u8_of]
    · cases e
  · cases e
theorem decFrom_ge : ∀ (l : List UInt8) (acc v : Nat), decFrom acc l = some v → acc ≤ v
  | [], acc, v, h => by
    obtain rfl := Option.some.inj h; exact Nat.le_refl _
  | b :: l, acc, v, h => by
    unfold decFrom at h
    split at h
    · rename_i d _
      have := decFrom_ge l _ _ h
      omega
    · cases h
theorem digitVal_of {b : UInt8} (h : dig b = true) : digitVal b = some (b.toNat - 48) := by
  unfold dig at h
  unfold digitVal
  rw [if_pos (of_decide_eq_true h)]
theorem dec_step {b : UInt8} (h : dig b = true) (acc : Nat) (l : List UInt8) : decFrom acc (b :: l) = decFrom (acc * 10 + (b.toNat - 48)) l := by
  conv => lhs; unfold decFrom
  rw [digitVal_of h]
theorem num_dig {l : List UInt8} {most : Nat} {n : Int} (h : numP l most = some n) (h0 : 0 ≤ n) (h1 : n < 100) : l = digP n.toNat := by
  unfold numP at h
  split at h
  · cases h
  · rename_i hb
    have hb' : numBad (trimPrefix l [45]) (hasPrefix l [45]) most = false := by simpa using hb
    unfold numBad at hb'
    simp only [Bool.or_eq_false_iff, Bool.not_eq_false', decide_eq_false_iff_not] at hb'
    obtain ⟨⟨⟨b1, b2⟩, b3⟩, b4⟩ := hb'
    rcases l with _ | ⟨b, r⟩
    · cases h
    · by_cases hm : b = 45
      · subst hm
        have e1 : hasPrefix (45 :: r) [45] = true := by simp [hasPrefix]
        have e2 : trimPrefix (45 :: r) [45] = r := by unfold trimPrefix; rw [e1]; rfl
        rw [e2] at b1 b3 b4
        rw [e1] at b4
        rcases r with _ | ⟨c, r⟩
        · simp at b1
        · have hc : c ≠ 48 := fun e => by subst e; simp at b4
          have hd : dig c = true := by simp only [List.all_cons, Bool.and_eq_true] at b3; exact b3.1
          have ha : atoi (45 :: c :: r) = (decNat (c :: r)).map fun (m : Nat) => -(m : Int) := rfl
          rw [ha] at h
          have hdn : decNat (c :: r) = decFrom 0 (c :: r) := rfl
          rw [hdn, dec_step hd] at h
          cases hv : decFrom (0 * 10 + (c.toNat - 48)) r with
          | none => rw [hv] at h; cases h
          | some v =>
            rw [hv] at h
            have := decFrom_ge r _ _ hv
            have h2 : -(v : Int) = n := by simpa using h
            have h3 : c.toNat ≠ 48 := fun e => hc (by rw [← u8_of c, e]; rfl)
            have h4 := of_decide_eq_true hd
            omega
      · have e1 : hasPrefix (b :: r) [45] = false := by
          have : (45 == b) = false := beq_eq_false_iff_ne.2 (Ne.symm hm)
          simp [hasPrefix, List.isPrefixOf, this]
        have e2 : trimPrefix (b :: r) [45] = b :: r := by unfold trimPrefix; rw [e1]; rfl
        rw [e2] at b1 b3 b4
        simp only [List.all_cons, Bool.and_eq_true] at b3
        have hd := b3.1
        have h4 := of_decide_eq_true hd
        have h43 : b ≠ 43 := fun e => by subst e; revert hd; decide
        have ha : atoi (b :: r) = (decNat (b :: r)).map fun (m : Nat) => (m : Int) := by
          show (if b == 45 then _ else if b == 43 then _ else _) = _
          rw [if_neg (by simpa using hm), if_neg (by simpa using h43)]
        rw [ha] at h
        have hdn : decNat (b :: r) = decFrom 0 (b :: r) := rfl
        rw [hdn, dec_step hd] at h
        rcases r with _ | ⟨c, r⟩
        · have h2 : ((0 * 10 + (b.toNat - 48) : Nat) : Int) = n := by simpa [decFrom] using h
          unfold digP
          rw [if_pos (by omega)]
          have : 48 + n.toNat = b.toNat := by omega
          rw [this, u8_of]
        · have hb48 : b ≠ 48 := fun e => by subst e; simp at b4
          have h3 : b.toNat ≠ 48 := fun e => hb48 (by rw [← u8_of b, e]; rfl)
          have b3' := b3.2
          simp only [List.all_cons, Bool.and_eq_true] at b3'
          have hdc := b3'.1
          have h5 := of_decide_eq_true hdc
          rw [dec_step hdc] at h
          rcases r with _ | ⟨d, r⟩
          · have h2 : (((0 * 10 + (b.toNat - 48)) * 10 + (c.toNat - 48) : Nat) : Int) = n := by simpa [decFrom] using h
            unfold digP
            rw [if_neg (by omega)]
            have k1 : 48 + n.toNat / 10 = b.toNat := by omega
            have k2 : 48 + n.toNat % 10 = c.toNat := by omega
            rw [k1, k2, u8_of, u8_of]
          · have b3'' := b3'.2
            simp only [List.all_cons, Bool.and_eq_true] at b3''
            rw [dec_step b3''.1] at h
            cases hv : decFrom (((0 * 10 + (b.toNat - 48)) * 10 + (c.toNat - 48)) * 10 + (d.toNat - 48)) r with
            | none => rw [hv] at h; cases h
            | some v =>
              rw [hv] at h
              have := decFrom_ge r _ _ hv
              have h2 : (v : Int) = n := by simpa using h
              omega
theorem dec_all : ∀ (l : List UInt8) (acc : Nat), l.all dig = true → ∃ v, decFrom acc l = some v
  | [], acc, _ => ⟨acc, rfl⟩
  | b :: l, acc, h => by
    simp only [List.all_cons, Bool.and_eq_true] at h
    rw [dec_step h.1]
    exact dec_all l _ h.2
theorem num_some {l : List UInt8} {most : Nat} (hb : numBad (trimPrefix l [45]) (hasPrefix l [45]) most = false) : ∃ n, atoi l = some n := by
  unfold numBad at hb
  simp only [Bool.or_eq_false_iff, Bool.not_eq_false', decide_eq_false_iff_not] at hb
  obtain ⟨⟨⟨b1, b2⟩, b3⟩, b4⟩ := hb
  rcases l with _ | ⟨b, r⟩
  · simp [trimPrefix, hasPrefix] at b1
  · by_cases hm : b = 45
    · subst hm
      have e1 : hasPrefix (45 :: r) [45] = true := by simp [hasPrefix]
      have e2 : trimPrefix (45 :: r) [45] = r := by unfold trimPrefix; rw [e1]; rfl
      rw [e2] at b1 b3
      obtain ⟨v, hv⟩ := dec_all r 0 b3
      have ha : atoi (45 :: r) = (decNat r).map fun (m : Nat) => -(m : Int) := rfl
      have hd : decNat r = some v := by unfold decNat; rw [b1]; exact hv
      exact ⟨_, by rw [ha, hd]; rfl⟩
    · have e1 : hasPrefix (b :: r) [45] = false := by
        have : (45 == b) = false := beq_eq_false_iff_ne.2 (Ne.symm hm)
        simp [hasPrefix, List.isPrefixOf, this]
      have e2 : trimPrefix (b :: r) [45] = b :: r := by unfold trimPrefix; rw [e1]; rfl
      rw [e2] at b1 b3
      have hd : dig b = true := by simp only [List.all_cons, Bool.and_eq_true] at b3; exact b3.1
      have h43 : b ≠ 43 := fun e => by subst e; revert hd; decide
      have ha : atoi (b :: r) = (decNat (b :: r)).map fun (m : Nat) => (m : Int) := by
        show (if b == 45 then _ else if b == 43 then _ else _) = _
        rw [if_neg (by simpa using hm), if_neg (by simpa using h43)]
      obtain ⟨v, hv⟩ := dec_all (b :: r) 0 b3
      have hdn : decNat (b :: r) = some v := hv
      exact ⟨_, by rw [ha, hdn]; rfl⟩
theorem decFrom_lt : ∀ (l : List UInt8) (acc v : Nat), l.all dig = true → decFrom acc l = some v → v < (acc + 1) * 10 ^ l.length
  | [], acc, v, _, h => by
    obtain rfl := Option.some.inj h; simp
  | b :: l, acc, v, ha, h => by
    simp only [List.all_cons, Bool.and_eq_true] at ha
    rw [dec_step ha.1] at h
    have h1 := decFrom_lt l _ _ ha.2 h
    have h2 := of_decide_eq_true ha.1
    have h3 : (acc * 10 + (b.toNat - 48) + 1) * 10 ^ l.length ≤ ((acc + 1) * 10) * 10 ^ l.length := Nat.mul_le_mul_right _ (by omega)
    rw [List.length_cons, Nat.pow_succ]
    have h4 : ((acc + 1) * 10) * 10 ^ l.length = (acc + 1) * (10 ^ l.length * 10) := by rw [Nat.mul_assoc, Nat.mul_comm 10]
    omega
theorem decNat_lt {l : List UInt8} {v : Nat} (ha : l.all dig = true) (hl : l.length ≤ 3) (h : decNat l = some v) : v < 1000 := by
  unfold decNat at h
  split at h
  · cases h
  · have h1 := decFrom_lt l 0 v ha h
    have h2 : 10 ^ l.length ≤ 10 ^ 3 := Nat.pow_le_pow_right (by decide) hl
    omega
theorem num_bd {l : List UInt8} {most : Nat} {n : Int} (h : numP l most = some n) (hm : most ≤ 3) : -1000 < n ∧ n < 1000 ∧ l ≠ [] := by
  unfold numP at h
  split at h
  · cases h
  · rename_i hb
    have hb' : numBad (trimPrefix l [45]) (hasPrefix l [45]) most = false := by simpa using hb
    unfold numBad at hb'
    simp only [Bool.or_eq_false_iff, Bool.not_eq_false', decide_eq_false_iff_not] at hb'
    obtain ⟨⟨⟨b1, b2⟩, b3⟩, b4⟩ := hb'
    rcases l with _ | ⟨b, r⟩
    · cases h
    · by_cases hm : b = 45
      · subst hm
        have e1 : hasPrefix (45 :: r) [45] = true := by simp [hasPrefix]
        have e2 : trimPrefix (45 :: r) [45] = r := by unfold trimPrefix; rw [e1]; rfl
        rw [e2] at b2 b3
        have ha : atoi (45 :: r) = (decNat r).map fun (m : Nat) => -(m : Int) := rfl
        rw [ha] at h
        cases hv : decNat r with
        | none => rw [hv] at h; cases h
        | some v =>
          rw [hv] at h
          have h1 := decNat_lt b3 (by omega) hv
          have h2 : -(v : Int) = n := by simpa using h
          exact ⟨by omega, by omega, by simp⟩
      · have e1 : hasPrefix (b :: r) [45] = false := by
          have : (45 == b) = false := beq_eq_false_iff_ne.2 (Ne.symm hm)
          simp [hasPrefix, List.isPrefixOf, this]
        have e2 : trimPrefix (b :: r) [45] = b :: r := by unfold trimPrefix; rw [e1]; rfl
        rw [e2] at b2 b3
        have hd : dig b = true := by simp only [List.all_cons, Bool.and_eq_true] at b3; exact b3.1
        have h43 : b ≠ 43 := fun e => by subst e; revert hd; decide
        have ha : atoi (b :: r) = (decNat (b :: r)).map fun (m : Nat) => (m : Int) := by
          show (if b == 45 then _ else if b == 43 then _ else _) = _
          rw [if_neg (by simpa using hm), if_neg (by simpa using h43)]
        rw [ha] at h
        cases hv : decNat (b :: r) with
        | none => rw [hv] at h; cases h
        | some v =>
          rw [hv] at h
          have h1 := decNat_lt b3 (by omega) hv
          have h2 : (v : Int) = n := by simpa using h
          exact ⟨by omega, by omega, by simp⟩
theorem cut_len (c : UInt8) (l : List UInt8) : (cut l [c]).1.length ≤ l.length ∧ (cut l [c]).2.1.length ≤ l.length := by
  rcases cut_cases c l with ⟨_, h⟩ | ⟨a, b, rfl, _, h⟩
  · rw [h]; simp
  · rw [h]; simp; omega
theorem fin_ok {m n h v : Int} (e : finT m n h = (v, 0)) : v = 6000 * m + 100 * n + h ∧ 1 ≤ v ∧ v ≤ 360000 := by
  unfold finT at e
  split at e
  · injection e with e1 e2; omega
  · injection e with e1 e2; omega
/-- what is read is written so -/
theorem parse_write {l : List UInt8} {v : Int} (h : parseP l = (v, 0)) : 1 ≤ v ∧ v ≤ 360000 ∧ writeP v.toNat = l := by
  unfold parseP at h
  rcases cut_cases 46 l with ⟨_, hc⟩ | ⟨a, b, rfl, hn, hc⟩
  · rw [hc] at h; simp at h
  · rw [hc] at h
    simp only [if_true] at h
    split at h
    · rename_i hh hp
      obtain ⟨p0, p1, rfl⟩ := pair_two hp
      rcases cut_cases 58 a with ⟨_, hc2⟩ | ⟨mi, se, rfl, hn2, hc2⟩
      · rw [hc2] at h
        simp only [Bool.false_eq_true, if_false] at h
        unfold shortP at h
        split at h
        · rename_i n hnum
          split at h
          · rename_i hb
            obtain ⟨rfl, v1, v2⟩ := fin_ok h
            have := num_dig hnum hb.1 (by omega)
            refine ⟨v1, v2, ?_⟩
            unfold writeP
            have k1 : (6000 * 0 + 100 * n + hh).toNat / 100 = n.toNat := by omega
            have k2 : (6000 * 0 + 100 * n + hh).toNat % 100 = hh.toNat := by omega
            rw [if_pos (by omega), k1, k2, ← this]
          · injection h with _ h; omega
        · injection h with _ h; omega
      · rw [hc2] at h
        simp only [if_true] at h
        unfold longP at h
        split at h
        · rename_i m n hnum hp2
          split at h
          · rename_i hb
            obtain ⟨rfl, v1, v2⟩ := fin_ok h
            obtain ⟨q0, q1, rfl⟩ := pair_two hp2
            have := num_dig hnum (by omega) (by omega)
            refine ⟨v1, v2, ?_⟩
            unfold writeP
            have k1 : (6000 * m + 100 * n + hh).toNat / 6000 = m.toNat := by omega
            have k2 : (6000 * m + 100 * n + hh).toNat % 100 = hh.toNat := by omega
            have k3 : (6000 * m + 100 * n + hh).toNat / 100 % 60 = n.toNat := by omega
            rw [if_neg (by omega), k1, k2, k3, ← this]
          · injection h with _ h; omega
        · injection h with _ h; omega
    · injection h with _ h; omega
theorem digP_no : ∀ m, m < 100 → (46 : UInt8) ∉ digP m ∧ (58 : UInt8) ∉ digP m ∧ numP (digP m) 3 = some (m : Int) ∧ numP (digP m) 2 = some (m : Int) ∧ (46 : UInt8) ∉ twoP m ∧ pairP (twoP m) = some (m : Int) := by decide +kernel
/-- a time that is written is read as it was -/
theorem write_parse {n : Nat} (h0 : 1 ≤ n) (h1 : n ≤ 360000) : parseP (writeP n) = ((n : Int), 0) := by
  unfold writeP
  by_cases h : n < 6000
  · rw [if_pos h]
    obtain ⟨a1, a2, _, a4, _, _⟩ := digP_no (n / 100) (by omega)
    obtain ⟨_, _, _, _, _, c6⟩ := digP_no (n % 100) (by omega)
    unfold parseP
    rw [cut_at 46 _ _ a1]
    simp only [if_true, c6]
    rw [cut_no 58 _ a2]
    simp only [Bool.false_eq_true, if_false]
    unfold shortP
    rw [a4]
    dsimp only
    rw [if_pos (by omega)]
    unfold finT
    rw [if_pos (by omega)]
    congr 1
    omega
  · rw [if_neg h]
    obtain ⟨a1, a2, a3, _, _, _⟩ := digP_no (n / 6000) (by omega)
    obtain ⟨_, _, _, _, b5, b6⟩ := digP_no (n / 100 % 60) (by omega)
    obtain ⟨_, _, _, _, _, c6⟩ := digP_no (n % 100) (by omega)
    unfold parseP
    rw [cut_at 46 _ _ (by simp only [List.mem_append, List.mem_cons, not_or]; exact ⟨a1, by decide, b5⟩)]
    simp only [if_true, c6]
    rw [cut_at 58 _ _ a2]
    simp only [if_true]
    unfold longP
    rw [a3, b6]
    dsimp only
    rw [if_pos (by omega)]
    unfold finT
    rw [if_pos (by omega)]
    congr 1
    omega
end Go.Proofs.YtklggnglaeagpaaGreatDoor

/- Times read by the reference: the same plain answer. -/
namespace Go.Proofs.YtklggnglaeagpaaGreatDoor
open Go.Lib
set_option linter.unusedVariables false

def intP (l : List UInt8) : Option Int := if (1 ≤ (trimPrefix l [45]).length ∧ (trimPrefix l [45]).length ≤ 3) ∧ (trimPrefix l [45]).all dig = true then
    (match atoi l with
    | some n => if itoa n = l then some n else none
    | none => none)
  else none
def restR (colon : Bool) (m x h : Int) (se tail : List UInt8) : Int × Int :=
  if m < 0 ∨ tail.length ≠ 2 ∨ (tail ++ se).all dig = false then (0, 9)
  else if (colon = true ∧ (m = 0 ∨ se.length ≠ 2)) ∨ (colon = false ∧ se ≠ itoa x) ∨ 59 < x then (0, 9) else finT m x h
def parsedR (point colon : Bool) (mi se tail : List UInt8) : Int × Int :=
  if point = false then (0, 9) else
  match intP mi, atoi se, atoi tail with
  | some m, some x, some h => restR colon m x h se tail
  | _, _, _ => (0, 9)
theorem not_minus {b : UInt8} (h : dig b = true) : b ≠ 45 ∧ b ≠ 43 := by
  constructor <;> (intro e; subst e; revert h; decide)
theorem trim_dig {b : UInt8} {r : List UInt8} (h : b ≠ 45) : hasPrefix (b :: r) [45] = false ∧ trimPrefix (b :: r) [45] = b :: r := by
  have e1 : hasPrefix (b :: r) [45] = false := by
    have : (45 == b) = false := beq_eq_false_iff_ne.2 (Ne.symm h)
    simp [hasPrefix, List.isPrefixOf, this]
  exact ⟨e1, by unfold trimPrefix; rw [e1]; rfl⟩
theorem atoi_dig {b : UInt8} {r : List UInt8} (h : dig b = true) : atoi (b :: r) = (decFrom (b.toNat - 48) r).map fun (m : Nat) => (m : Int) := by
  obtain ⟨h1, h2⟩ := not_minus h
  show (if b == 45 then _ else if b == 43 then _ else (decNat (b :: r)).map fun (m : Nat) => (m : Int)) = _
  rw [if_neg (by simpa using h1), if_neg (by simpa using h2)]
  have hd : decNat (b :: r) = decFrom 0 (b :: r) := rfl
  rw [hd, dec_step h, Nat.zero_mul, Nat.zero_add]
theorem atoi_two {a b : UInt8} (ha : dig a = true) (hb : dig b = true) : atoi [a, b] = some (10 * ((a.toNat : Int) - 48) + ((b.toNat : Int) - 48)) := by
  have h1 := of_decide_eq_true ha
  have h2 := of_decide_eq_true hb
  rw [atoi_dig ha, dec_step hb]
  show some _ = some _
  congr 1
  show (((a.toNat - 48) * 10 + (b.toNat - 48) : Nat) : Int) = _
  omega
theorem itoa_dig {n : Int} (h0 : 0 ≤ n) (h1 : n < 100) : itoa n = digP n.toNat := by
  unfold itoa
  rw [if_neg (by omega), dec_dig (by omega)]
theorem itoa_three {n : Int} (h0 : 100 ≤ n) (h1 : n < 1000) : itoa n = [UInt8.ofNat (48 + n.toNat / 100), UInt8.ofNat (48 + n.toNat / 10 % 10), UInt8.ofNat (48 + n.toNat % 10)] := by
  unfold itoa
  rw [if_neg (by omega), decDigits, dif_neg (by omega), decDigits_two (by omega) (by omega)]
  have e : n.toNat / 10 / 10 = n.toNat / 100 := by omega
  simp [e]
/-- numbers of at most three digits, from 1 on: the program's reading, the reference's -/
theorem int_num {l : List UInt8} {m : Int} (hm : 1 ≤ m) : intP l = some m ↔ numP l 3 = some m := by
  rcases l with _ | ⟨b, r⟩
  · simp [intP, numP, numBad, trimPrefix, hasPrefix]
  by_cases hb : b = 45
  · subst hb
    have e1 : hasPrefix (45 :: r) [45] = true := by simp [hasPrefix]
    have e2 : trimPrefix (45 :: r) [45] = r := by unfold trimPrefix; rw [e1]; rfl
    have ha : atoi (45 :: r) = (decNat r).map fun (m : Nat) => -(m : Int) := rfl
    have hno : ∀ v, atoi (45 :: r) = some v → v ≤ 0 := fun v hv => by
      rw [ha] at hv
      cases hd : decNat r with
      | none => rw [hd] at hv; cases hv
      | some w =>
        rw [hd] at hv
        have : -(w : Int) = v := by simpa using hv
        omega
    constructor
    · intro h
      unfold intP at h
      split at h
      · split at h
        · rename_i n hn
          split at h
          · have h1 := Option.some.inj h
            have := hno n hn
            omega
          · cases h
        · cases h
      · cases h
    · intro h
      unfold numP at h
      split at h
      · cases h
      · have := hno m h; omega
  · obtain ⟨e1, e2⟩ := trim_dig (r := r) hb
    have hl : (b :: r).length = r.length + 1 := rfl
    by_cases hd : (b :: r).all dig = true
    · have hdb : dig b = true := by simp only [List.all_cons, Bool.and_eq_true] at hd; exact hd.1
      have b1 := of_decide_eq_true hdb
      by_cases hle : (b :: r).length ≤ 3
      · unfold intP numP numBad
        rw [e2, e1, if_pos ⟨⟨by rw [hl]; omega, hle⟩, hd⟩, hd]
        obtain ⟨v, hv⟩ : ∃ v, decFrom (b.toNat - 48) r = some v := dec_all r _ (by simp only [List.all_cons, Bool.and_eq_true] at hd; exact hd.2)
        have hav : atoi (b :: r) = some (v : Int) := by rw [atoi_dig hdb, hv]; rfl
        rw [hav]
        simp only [List.isEmpty_cons, Bool.false_or, Bool.not_true, Bool.or_false, List.headD_cons]
        have hlt : (decide (3 < (b :: r).length)) = false := decide_eq_false (by omega)
        rw [hlt, Bool.false_or]
        -- by length
        rcases r with _ | ⟨c, _ | ⟨d, _ | ⟨e, r⟩⟩⟩
        · have hv2 : v = b.toNat - 48 := by simpa [decFrom] using hv.symm
          have hi : itoa (v : Int) = [b] := by
            rw [itoa_dig (by omega) (by omega)]
            unfold digP
            rw [if_pos (by omega), show 48 + (v : Int).toNat = b.toNat by omega, u8_of]
          rw [if_pos hi]
          by_cases h48 : b = 48
          · subst h48; simp
          · simp [h48]
        · simp only [List.all_cons, Bool.and_eq_true] at hd
          have c1 := of_decide_eq_true hd.2.1
          rw [dec_step hd.2.1] at hv
          have hv2 : v = (b.toNat - 48) * 10 + (c.toNat - 48) := by simpa [decFrom] using hv.symm
          by_cases h48 : b = 48
          · subst h48
            have hi : itoa (v : Int) ≠ [48, c] := by
              rw [itoa_dig (by omega) (by omega)]
              unfold digP
              rw [if_pos (by simp at hv2; omega)]
              simp
            rw [if_neg hi]
            simp
          · have h3 : b.toNat ≠ 48 := fun e => h48 (by rw [← u8_of b, e]; rfl)
            have hi : itoa (v : Int) = [b, c] := by
              rw [itoa_dig (by omega) (by omega)]
              unfold digP
              rw [if_neg (by omega), show 48 + (v : Int).toNat / 10 = b.toNat by omega, show 48 + (v : Int).toNat % 10 = c.toNat by omega, u8_of, u8_of]
            rw [if_pos hi]
            simp [h48]
        · simp only [List.all_cons, Bool.and_eq_true] at hd
          have c1 := of_decide_eq_true hd.2.1
          have d1 := of_decide_eq_true hd.2.2.1
          rw [dec_step hd.2.1, dec_step hd.2.2.1] at hv
          have hv2 : v = ((b.toNat - 48) * 10 + (c.toNat - 48)) * 10 + (d.toNat - 48) := by simpa [decFrom] using hv.symm
          by_cases h48 : b = 48
          · subst h48
            have hi : itoa (v : Int) ≠ [48, c, d] := by
              rw [itoa_dig (by omega) (by simp at hv2; omega)]
              intro hc
              have h9 : (digP (v : Int).toNat).length ≤ 2 := by unfold digP; split <;> simp
              rw [hc] at h9
              simp at h9
            rw [if_neg hi]
            simp
          · have h3 : b.toNat ≠ 48 := fun e => h48 (by rw [← u8_of b, e]; rfl)
            have hi : itoa (v : Int) = [b, c, d] := by
              rw [itoa_three (by omega) (by omega), show 48 + (v : Int).toNat / 100 = b.toNat by omega, show 48 + (v : Int).toNat / 10 % 10 = c.toNat by omega, show 48 + (v : Int).toNat % 10 = d.toNat by omega, u8_of, u8_of, u8_of]
            rw [if_pos hi]
            simp [h48]
        · simp at hle
      · have hn1 : intP (b :: r) = none := by
          unfold intP
          rw [e2, if_neg (by intro hc; exact hle hc.1.2)]
        have hn2 : numP (b :: r) 3 = none := by
          unfold numP numBad
          rw [e2, if_pos (by simp at hle; simp; omega)]
        rw [hn1, hn2]
    · have hn1 : intP (b :: r) = none := by
        unfold intP
        rw [e2, if_neg (by intro hc; exact hd hc.2)]
      have hn2 : numP (b :: r) 3 = none := by
        unfold numP numBad
        have hd2 : (b :: r).all dig = false := by simpa using hd
        rw [e2, hd2, if_pos (by simp)]
      rw [hn1, hn2]
theorem pair_some {l : List UInt8} {h : Int} (e : pairP l = some h) : l.length = 2 ∧ l.all dig = true ∧ atoi l = some h ∧ 0 ≤ h ∧ h < 100 := by
  obtain ⟨h0, h1, _⟩ := pair_two e
  unfold pairP at e
  split at e
  · rename_i a b
    split at e
    · rename_i hd
      simp only [Bool.and_eq_true] at hd
      obtain rfl := Option.some.inj e
      exact ⟨rfl, by simp [hd.1, hd.2], atoi_two hd.1 hd.2, h0, h1⟩
    · cases e
  · cases e
theorem pair_none {l : List UInt8} (e : pairP l = none) : l.length ≠ 2 ∨ l.all dig = false := by
  rcases l with _ | ⟨a, _ | ⟨b, _ | ⟨c, l⟩⟩⟩
  · exact .inl (by simp)
  · exact .inl (by simp)
  · refine .inr ?_
    unfold pairP at e
    simp only at e
    split at e
    · cases e
    · rename_i hd
      simpa using hd
  · exact .inl (by simp)
theorem num_atoi {l : List UInt8} {most : Nat} {n : Int} (h : numP l most = some n) : atoi l = some n := by
  unfold numP at h
  split at h
  · cases h
  · exact h
theorem digP_more : ∀ m, m < 100 → (digP m).all dig = true := by decide +kernel
theorem int_zero : intP [48] = some 0 := by
  have h : atoi [48] = some 0 := by decide
  have h2 : itoa 0 = [48] := by rw [itoa_dig (by decide) (by decide)]; decide
  unfold intP
  rw [if_pos (by decide), h]
  simp [h2]
theorem long_no {mi se : List UInt8} {h : Int} (hx : ∀ m, 1 ≤ m → numP mi 3 ≠ some m) : longP mi se h = (0, 9) := by
  unfold longP
  split
  · rename_i m n hm _
    rw [if_neg (by intro hc; exact hx m hc.1 hm)]
  · rfl
theorem rest_no {colon : Bool} {m x h : Int} {se tail : List UInt8} (hc : m < 0 ∨ tail.length ≠ 2 ∨ (tail ++ se).all dig = false ∨ (colon = true ∧ (m = 0 ∨ se.length ≠ 2)) ∨ (colon = false ∧ se ≠ itoa x) ∨ 59 < x) : restR colon m x h se tail = (0, 9) := by
  unfold restR
  split
  · rfl
  · rename_i h1
    rw [if_pos]
    rcases hc with h2 | h2 | h2 | h2
    · exact absurd (.inl h2) h1
    · exact absurd (.inr (.inl h2)) h1
    · exact absurd (.inr (.inr h2)) h1
    · exact h2
theorem parsed_parts (point colon : Bool) (left mi se tail : List UInt8) : parsedR point colon (if colon = true then mi else [48]) (if colon = true then se else left) tail = parseQ point tail colon left mi se := by
  unfold parsedR parseQ
  cases point
  · rfl
  rw [if_neg (by decide), if_pos rfl]
  rcases hp : pairP tail with _ | h
  · simp only
    split
    · refine rest_no ?_
      rcases pair_none hp with h1 | h1
      · exact .inr (.inl h1)
      · exact .inr (.inr (.inl (by rw [List.all_append, h1]; rfl)))
    · rfl
  · obtain ⟨t1, t2, t3, t4, t5⟩ := pair_some hp
    simp only [t3]
    cases colon
    · simp only [Bool.false_eq_true, if_false, int_zero]
      unfold shortP
      rcases ha : atoi left with _ | x
      · simp only
        rcases hn : numP left 2 with _ | n
        · rfl
        · rw [num_atoi hn] at ha; cases ha
      · simp only
        by_cases hg : (left.all dig = true ∧ left = itoa x) ∧ x ≤ 59
        · obtain ⟨⟨g1, g2⟩, g3⟩ := hg
          have g4 : 0 ≤ x := by
            rcases left with _ | ⟨b, r⟩
            · cases ha
            · simp only [List.all_cons, Bool.and_eq_true] at g1
              rw [atoi_dig g1.1] at ha
              cases hv : decFrom (b.toNat - 48) r with
              | none => rw [hv] at ha; cases ha
              | some v => rw [hv] at ha; have : (v : Int) = x := by simpa using ha
                          omega
          have g5 : left = digP x.toNat := by rw [g2]; exact itoa_dig g4 (by omega)
          have g6 : numP left 2 = some x := by
            rw [g5, (digP_no x.toNat (by omega)).2.2.2.1]
            congr 1; omega
          rw [g6]
          simp only
          rw [if_pos ⟨g4, by omega⟩]
          unfold restR
          rw [if_neg, if_neg]
          · rintro (h1 | h1 | h1)
            · cases h1.1
            · exact h1.2 g2
            · omega
          · rintro (h1 | h1 | h1)
            · omega
            · exact h1 t1
            · rw [List.all_append, t2, g1] at h1; cases h1
        · have hr : restR false 0 x h left tail = (0, 9) := by
            refine rest_no ?_
            by_cases g1 : left.all dig = true
            · by_cases g2 : left = itoa x
              · exact .inr (.inr (.inr (.inr (.inr (by
                  by_cases g3 : x ≤ 59
                  · exact absurd ⟨⟨g1, g2⟩, g3⟩ hg
                  · omega)))))
              · exact .inr (.inr (.inr (.inr (.inl ⟨rfl, g2⟩))))
            · exact .inr (.inr (.inl (by rw [List.all_append, t2]; simpa using g1)))
          rw [hr]
          rcases hn : numP left 2 with _ | n
          · rfl
          · simp only
            rw [if_neg]
            rintro ⟨n0, n1⟩
            have hx : atoi left = some n := num_atoi hn
            rw [ha] at hx
            obtain rfl := Option.some.inj hx
            have g5 := num_dig hn n0 (by omega)
            refine hg ⟨⟨by rw [g5]; exact digP_more _ (by omega), by rw [itoa_dig n0 (by omega)]; exact g5⟩, by omega⟩
    · simp only [if_true]
      rcases hs : pairP se with _ | x
      · have hl : longP mi se h = (0, 9) := by
          unfold longP
          rw [hs]
          split
          · rename_i m n _ hc; cases hc
          · rfl
        rw [hl]
        split
        · refine rest_no ?_
          rcases pair_none hs with h1 | h1
          · exact .inr (.inr (.inr (.inl ⟨rfl, .inr h1⟩)))
          · exact .inr (.inr (.inl (by rw [List.all_append, h1]; simp)))
        · rfl
      · obtain ⟨s1, s2, s3, s4, s5⟩ := pair_some hs
        rw [s3]
        by_cases hm : ∃ m, 1 ≤ m ∧ intP mi = some m
        · obtain ⟨m, m1, m2⟩ := hm
          have m3 := (int_num m1).1 m2
          rw [m2]
          unfold longP
          rw [m3, hs]
          simp only
          by_cases hx : x < 60
          · rw [if_pos ⟨m1, hx⟩]
            unfold restR
            rw [if_neg, if_neg]
            · rintro (h1 | h1 | h1)
              · rcases h1.2 with h2 | h2
                · omega
                · exact h2 s1
              · cases h1.1
              · omega
            · rintro (h1 | h1 | h1)
              · omega
              · exact h1 t1
              · rw [List.all_append, t2, s2] at h1; cases h1
          · rw [if_neg (by intro hc; exact hx hc.2)]
            exact rest_no (.inr (.inr (.inr (.inr (.inr (by omega))))))
        · have hl : longP mi se h = (0, 9) := long_no fun m m1 m2 => hm ⟨m, m1, (int_num m1).2 m2⟩
          rw [hl]
          split
          · rename_i m y z h1 h2 h3
            refine rest_no ?_
            by_cases hz : m < 0
            · exact .inl hz
            · by_cases hz2 : m = 0
              · exact .inr (.inr (.inr (.inl ⟨rfl, .inl hz2⟩)))
              · exact absurd ⟨m, by omega, h1⟩ hm
          · rfl
end Go.Proofs.YtklggnglaeagpaaGreatDoor

/- Numbers, words and lines as text: plain facts (no program in sight). -/
namespace Go.Proofs.YtklggnglaeagpaaGreatDoor
open Go.Lib
set_option linter.unusedVariables false

/-! numerals -/
def canN (d : List UInt8) : Prop := d ≠ [] ∧ d.all dig = true ∧ (d.head? = some 48 → d = [48])
theorem dg_val : ∀ x : Nat, x < 10 → digitVal (UInt8.ofNat (48 + x)) = some x := by decide
theorem dg_dig : ∀ x : Nat, x < 10 → dig (UInt8.ofNat (48 + x)) = true := by decide
theorem dg_zero : ∀ x : Nat, x < 10 → UInt8.ofNat (48 + x) = 48 → x = 0 := by decide
theorem decFrom_snoc : ∀ (l : List UInt8) (acc : Nat) (b : UInt8), decFrom acc (l ++ [b]) = (decFrom acc l).bind fun v => (digitVal b).map fun x => v * 10 + x
  | [], acc, b => by
    show decFrom acc [b] = (digitVal b).map fun x => acc * 10 + x
    rw [decFrom]
    cases digitVal b <;> rfl
  | c :: l, acc, b => by
    rw [List.cons_append, decFrom, decFrom]
    cases digitVal c with
    | none => rfl
    | some d => exact decFrom_snoc l _ b
theorem dd_big {u : Nat} (h : ¬ u < 10) : decDigits u = decDigits (u / 10) ++ [UInt8.ofNat (48 + u % 10)] := by rw [decDigits, dif_neg h]
theorem decNat_ne {l : List UInt8} (h : l ≠ []) : decNat l = decFrom 0 l := by
  unfold decNat
  rw [if_neg (by simpa using h)]
theorem dd_can (u : Nat) : canN (decDigits u) ∧ decNat (decDigits u) = some u ∧ (decDigits u = [48] → u = 0) := by
  induction u using Nat.strongRecOn with
  | _ u ih =>
    by_cases h : u < 10
    · rw [decDigits_one h]
      refine ⟨⟨List.cons_ne_nil _ _, by rw [List.all_cons, dg_dig u h]; rfl, fun e => ?_⟩, ?_, fun e => dg_zero u h (List.cons.inj e).1⟩
      · simp only [List.head?_cons, Option.some.injEq] at e
        rw [e]
      · rw [decNat_ne (by simp)]
        show (match digitVal (UInt8.ofNat (48 + u)) with | some d => decFrom (0 * 10 + d) [] | none => none) = _
        rw [dg_val u h]
        show some (0 * 10 + u) = some u
        congr 1; omega
    · obtain ⟨⟨c1, c2, c3⟩, i2, i3⟩ := ih (u / 10) (by omega)
      have hm : u % 10 < 10 := Nat.mod_lt _ (by decide)
      rw [dd_big h]
      refine ⟨⟨by simp, by rw [List.all_append, c2, List.all_cons, dg_dig _ hm]; rfl, fun e => ?_⟩, ?_, fun e => ?_⟩
      · rw [List.head?_append] at e
        cases hd : (decDigits (u / 10)).head? with
        | none => rw [List.head?_eq_none_iff] at hd; exact absurd hd c1
        | some y =>
          rw [hd] at e
          have e2 : y = 48 := by simpa using e
          subst e2
          have := i3 (c3 hd)
          omega
      · rw [decNat_ne (by simp), decFrom_snoc, ← decNat_ne c1, i2]
        show (digitVal (UInt8.ofNat (48 + u % 10))).map (fun x => u / 10 * 10 + x) = some u
        rw [dg_val _ hm]
        show some (u / 10 * 10 + u % 10) = some u
        congr 1; omega
      · have e2 : (decDigits (u / 10) ++ [UInt8.ofNat (48 + u % 10)]).length = 1 := by rw [e]; rfl
        rw [List.length_append] at e2
        have : (decDigits (u / 10)).length = 0 := by simpa using e2
        exact absurd (List.eq_nil_of_length_eq_zero this) c1
theorem dg_of {b : UInt8} (h : dig b = true) : b = UInt8.ofNat (48 + (b.toNat - 48)) ∧ b.toNat - 48 < 10 := by
  have h1 := of_decide_eq_true h
  refine ⟨?_, by omega⟩
  rw [show 48 + (b.toNat - 48) = b.toNat by omega, u8_of]
theorem dd_of_can : ∀ (n : Nat) (d : List UInt8), d.length = n → canN d → ∀ v, decNat d = some v → decDigits v = d := by
  intro n
  induction n with
  | zero => intro d hn hc; exact absurd (List.eq_nil_of_length_eq_zero hn) hc.1
  | succ n ih =>
    intro d hn hc v hv
    obtain ⟨c1, c2, c3⟩ := hc
    obtain ⟨r, b, rfl⟩ : ∃ r b, d = r ++ [b] := ⟨d.dropLast, d.getLast c1, (List.dropLast_concat_getLast c1).symm⟩
    rw [List.all_append, Bool.and_eq_true] at c2
    obtain ⟨c2, c4⟩ := c2
    have c4 : dig b = true := by simpa using c4
    obtain ⟨hb1, hb2⟩ := dg_of c4
    generalize b.toNat - 48 = x at hb1 hb2
    subst hb1
    rw [decNat_ne c1, decFrom_snoc, dg_val x hb2] at hv
    by_cases hr : r = []
    · subst hr
      have hv : v = x := by
        have : some (0 * 10 + x) = some v := hv
        have := Option.some.inj this
        omega
      rw [hv, decDigits_one hb2]; rfl
    · have hcr : canN r := by
        refine ⟨hr, c2, fun e => ?_⟩
        have e2 : (r ++ [UInt8.ofNat (48 + x)]).head? = some 48 := by rw [List.head?_append, e]; rfl
        have e3 := congrArg List.length (c3 e2)
        rw [List.length_append] at e3
        have : r.length = 0 := by simpa using e3
        exact absurd (List.eq_nil_of_length_eq_zero this) hr
      cases hw : decFrom 0 r with
      | none => rw [hw] at hv; cases hv
      | some u =>
        rw [hw] at hv
        have hv : v = u * 10 + x := by
          have : some (u * 10 + x) = some v := hv
          exact (Option.some.inj this).symm
        have hu := ih r (by rw [List.length_append] at hn; simpa using hn) hcr u (by rw [decNat_ne hr]; exact hw)
        have hu0 : u ≠ 0 := by
          rintro rfl
          rw [decDigits_one (by decide)] at hu
          have e2 : (r ++ [UInt8.ofNat (48 + x)]).head? = some 48 := by rw [← hu]; rfl
          have e3 := congrArg List.length (c3 e2)
          rw [List.length_append] at e3
          have : r.length = 0 := by simpa using e3
          exact hr (List.eq_nil_of_length_eq_zero this)
        rw [hv, dd_big (by omega), show (u * 10 + x) / 10 = u by omega, show (u * 10 + x) % 10 = x by omega, hu]
theorem dd_ne (u : Nat) : decDigits u ≠ [] := (dd_can u).1.1
theorem dd_head {u : Nat} {b : UInt8} {r : List UInt8} (h : decDigits u = b :: r) : dig b = true := by
  have := (dd_can u).1.2.1
  rw [h] at this
  simp only [List.all_cons, Bool.and_eq_true] at this
  exact this.1
theorem atoi_of_dig {d : List UInt8} (h : d ≠ []) (ha : d.all dig = true) : atoi d = (decNat d).map fun (m : Nat) => (m : Int) := by
  rcases d with _ | ⟨b, r⟩
  · exact absurd rfl h
  · simp only [List.all_cons, Bool.and_eq_true] at ha
    obtain ⟨h1, h2⟩ := not_minus ha.1
    show (if b == 45 then _ else if b == 43 then _ else _) = _
    rw [if_neg (by simpa using h1), if_neg (by simpa using h2)]
theorem trim_of_dig {d : List UInt8} (h : d ≠ []) (ha : d.all dig = true) : hasPrefix d [45] = false ∧ trimPrefix d [45] = d := by
  rcases d with _ | ⟨b, r⟩
  · exact absurd rfl h
  · simp only [List.all_cons, Bool.and_eq_true] at ha
    exact trim_dig (not_minus ha.1).1
theorem trim_neg (r : List UInt8) : hasPrefix (45 :: r) [45] = true ∧ trimPrefix (45 :: r) [45] = r := by
  have e : hasPrefix (45 :: r) [45] = true := by simp [hasPrefix]
  exact ⟨e, by unfold trimPrefix; rw [e]; rfl⟩
theorem trim_itoa (n : Int) : trimPrefix (itoa n) [45] = decDigits n.natAbs ∧ hasPrefix (itoa n) [45] = decide (n < 0) := by
  unfold itoa
  by_cases h : n < 0
  · rw [if_pos h, decide_eq_true h]
    obtain ⟨a, b⟩ := trim_neg (decDigits n.natAbs)
    exact ⟨b, a⟩
  · rw [if_neg h, decide_eq_false h]
    obtain ⟨c, _, _⟩ := dd_can n.toNat
    obtain ⟨a, b⟩ := trim_of_dig c.1 c.2.1
    exact ⟨by rw [b]; congr 1; omega, a⟩
theorem atoi_itoa (n : Int) : atoi (itoa n) = some n := by
  unfold itoa
  by_cases h : n < 0
  · rw [if_pos h]
    show (decNat (decDigits n.natAbs)).map (fun (m : Nat) => -(m : Int)) = some n
    rw [(dd_can _).2.1]
    show some (-((n.natAbs : Nat) : Int)) = some n
    congr 1; omega
  · rw [if_neg h]
    obtain ⟨c, c2, _⟩ := dd_can n.toNat
    rw [atoi_of_dig c.1 c.2.1, c2]
    show some ((n.toNat : Nat) : Int) = some n
    congr 1; omega
/-- a number is read where it is written so, with at most so many digits -/
theorem num_iff {l : List UInt8} {most : Nat} {n : Int} : numP l most = some n ↔ itoa n = l ∧ (decDigits n.natAbs).length ≤ most := by
  constructor
  · intro h
    unfold numP at h
    split at h
    · cases h
    · rename_i hb
      have hb' : numBad (trimPrefix l [45]) (hasPrefix l [45]) most = false := by simpa using hb
      unfold numBad at hb'
      simp only [Bool.or_eq_false_iff, Bool.not_eq_false', decide_eq_false_iff_not, Bool.and_eq_false_iff] at hb'
      obtain ⟨⟨⟨b1, b2⟩, b3⟩, b4⟩ := hb'
      have key : ∀ t : List UInt8, t.isEmpty = false → t.all dig = true → (∀ neg : Bool, (¬ t.headD 0 = 48) ∨ ((¬ t ≠ [48]) ∧ neg = false) → canN t) := by
        intro t h1 h2 neg h3
        refine ⟨(by rintro rfl; cases h1), h2, fun e => ?_⟩
        rcases h3 with h3 | h3
        · exfalso
          rcases t with _ | ⟨y, t⟩
          · cases h1
          · simp only [List.head?_cons, Option.some.injEq] at e
            exact h3 e
        · exact Decidable.not_not.1 h3.1
      by_cases hneg : hasPrefix l [45] = true
      · have hl : ∃ r, l = 45 :: r := by
          rcases l with _ | ⟨c, r⟩
          · simp [hasPrefix] at hneg
          · by_cases hc : c = 45
            · exact ⟨r, by rw [hc]⟩
            · rw [(trim_dig hc).1] at hneg; cases hneg
        obtain ⟨r, rfl⟩ := hl
        rw [(trim_neg r).2] at b1 b2 b3 b4
        rw [(trim_neg r).1] at b4
        have b4 : ¬ r.headD 0 = 48 := by
          rcases b4 with b4 | b4
          · exact b4
          · cases b4.2
        have hc := key r b1 b3 true (.inl b4)
        have ha : atoi (45 :: r) = (decNat r).map fun (m : Nat) => -(m : Int) := rfl
        rw [ha] at h
        cases hv : decNat r with
        | none => rw [hv] at h; cases h
        | some v =>
          rw [hv] at h
          have hn : -(v : Int) = n := Option.some.inj h
          have hd := dd_of_can _ r rfl hc v hv
          have hv0 : v ≠ 0 := by
            rintro rfl
            rw [decDigits_one (by decide)] at hd
            rw [← hd] at b4
            exact b4 rfl
          have e1 : n.natAbs = v := by omega
          refine ⟨?_, by rw [e1, hd]; omega⟩
          unfold itoa
          rw [if_pos (by omega), e1, hd]
      · have hneg' : hasPrefix l [45] = false := by simpa using hneg
        have ht : trimPrefix l [45] = l := by unfold trimPrefix; rw [hneg']; rfl
        rw [ht] at b1 b2 b3 b4
        rw [hneg'] at b4
        have hc := key l b1 b3 false (by
          rcases b4 with b4 | b4
          · exact .inl b4
          · exact .inr b4)
        rw [atoi_of_dig hc.1 hc.2.1] at h
        cases hv : decNat l with
        | none => rw [hv] at h; cases h
        | some v =>
          rw [hv] at h
          have hn : (v : Int) = n := Option.some.inj h
          have hd := dd_of_can _ l rfl hc v hv
          have e1 : n.natAbs = v := by omega
          refine ⟨?_, by rw [e1, hd]; omega⟩
          unfold itoa
          rw [if_neg (by omega), show n.toNat = v by omega, hd]
  · rintro ⟨rfl, h2⟩
    obtain ⟨t1, t2⟩ := trim_itoa n
    obtain ⟨⟨c1, c2, c3⟩, _, c4⟩ := dd_can n.natAbs
    unfold numP
    rw [t1, t2, atoi_itoa, if_neg]
    intro hb
    unfold numBad at hb
    simp only [Bool.or_eq_true, decide_eq_true_eq, Bool.and_eq_true, Bool.not_eq_true'] at hb
    rcases hb with ((hb | hb) | hb) | hb
    · exact c1 (by simpa using hb)
    · omega
    · rw [c2] at hb; cases hb
    · obtain ⟨hb1, hb2⟩ := hb
      have hh : (decDigits n.natAbs).head? = some 48 := by
        cases hd : decDigits n.natAbs with
        | nil => exact absurd hd c1
        | cons y r => rw [hd] at hb1; simp only [List.headD_cons] at hb1; rw [hb1]; rfl
      have h48 := c3 hh
      have h0 := c4 h48
      rcases hb2 with hb2 | hb2
      · exact hb2 h48
      · omega
/-- the reference's reading of a number -/
def intQ (l : List UInt8) (most : Nat) : Option Int := if (1 ≤ (trimPrefix l [45]).length ∧ (trimPrefix l [45]).length ≤ most) ∧ (trimPrefix l [45]).all dig = true then
    (match atoi l with
    | some n => if itoa n = l then some n else none
    | none => none)
  else none
theorem intQ_num (l : List UInt8) (most : Nat) : intQ l most = numP l most := by
  have h1 : ∀ n, intQ l most = some n ↔ numP l most = some n := by
    intro n
    rw [num_iff]
    unfold intQ
    constructor
    · intro h
      split at h
      · rename_i hc
        cases ha : atoi l with
        | none => rw [ha] at h; cases h
        | some m =>
          rw [ha] at h
          dsimp only at h
          split at h
          · rename_i hi
            obtain rfl := Option.some.inj h
            rw [← hi, (trim_itoa m).1] at hc
            exact ⟨hi, hc.1.2⟩
          · cases h
      · cases h
    · rintro ⟨rfl, h2⟩
      obtain ⟨c, _, _⟩ := dd_can n.natAbs
      have hl : 1 ≤ (decDigits n.natAbs).length := by
        rcases hd : decDigits n.natAbs with _ | ⟨y, r⟩
        · exact absurd hd c.1
        · simp
      rw [(trim_itoa n).1, if_pos ⟨⟨hl, h2⟩, c.2.1⟩, atoi_itoa]
      dsimp only
      rw [if_pos rfl]
  cases hn : numP l most with
  | none =>
    cases hi : intQ l most with
    | none => rfl
    | some m => rw [(h1 m).1 hi] at hn; cases hn
  | some m => exact (h1 m).2 hn
theorem num_long {l : List UInt8} {most : Nat} (h : most + 1 < l.length) : numP l most = none := by
  cases hn : numP l most with
  | none => rfl
  | some n =>
    obtain ⟨rfl, h2⟩ := num_iff.1 hn
    unfold itoa at h
    split at h
    · rw [List.length_cons] at h; omega
    · rename_i h0
      rw [show n.toNat = n.natAbs by omega] at h
      omega
/-- how great a number of so many digits is -/
theorem dd_lt {u k : Nat} (h : (decDigits u).length ≤ k) : u < 10 ^ k := by
  rw [decDigits_length] at h
  exact Nat.lt_of_lt_of_le (lt_pow_nDigits u) (Nat.pow_le_pow_right (by decide) h)
theorem dd_le {u : Nat} : ∀ {k : Nat}, 1 ≤ k → u < 10 ^ k → (decDigits u).length ≤ k := by
  induction u using Nat.strongRecOn with
  | _ u ih =>
    intro k hk hu
    by_cases h : u < 10
    · rw [decDigits_one h]; exact hk
    · rw [dd_big h, List.length_append]
      obtain ⟨j, rfl⟩ : ∃ j, k = j + 1 := ⟨k - 1, by omega⟩
      have hj : 1 ≤ j := by
        rcases j with _ | j
        · simp at hu; omega
        · omega
      have := ih (u / 10) (by omega) hj (by rw [Nat.pow_succ] at hu; omega)
      simp only [List.length_singleton]
      omega
theorem num_bdK {l : List UInt8} {most : Nat} {n : Int} (h : numP l most = some n) : n.natAbs < 10 ^ most := dd_lt (num_iff.1 h).2
theorem num_itoa {n : Int} {most : Nat} (h1 : 1 ≤ most) (h : n.natAbs < 10 ^ most) : numP (itoa n) most = some n := num_iff.2 ⟨rfl, dd_le h1 h⟩
theorem itoa_bytes (n : Int) : ∀ b ∈ itoa n, b = 45 ∨ dig b = true := by
  intro b hb
  unfold itoa at hb
  split at hb
  · rcases List.mem_cons.1 hb with rfl | hb
    · exact .inl rfl
    · exact .inr (List.all_eq_true.1 (dd_can _).1.2.1 b hb)
  · exact .inr (List.all_eq_true.1 (dd_can _).1.2.1 b hb)
theorem itoa_ne (n : Int) : itoa n ≠ [] := by
  unfold itoa
  split
  · simp
  · exact dd_ne _

/-! words: split at one byte, joined by it -/
def spl (c : UInt8) : List UInt8 → List (List UInt8)
  | [] => [[]]
  | b :: r => if b = c then [] :: spl c r else match spl c r with
    | [] => [[b]]
    | x :: xs => (b :: x) :: xs
theorem spl_ne (c : UInt8) : ∀ l, spl c l ≠ []
  | [] => by simp [spl]
  | b :: r => by
    unfold spl
    split
    · simp
    · split <;> simp
theorem spl_no (c : UInt8) : ∀ l : List UInt8, c ∉ l → spl c l = [l]
  | [], _ => rfl
  | b :: r, h => by
    have h1 : b ≠ c := fun e => h (by rw [e]; exact List.mem_cons_self ..)
    unfold spl
    rw [if_neg h1, spl_no c r fun e => h (List.mem_cons_of_mem _ e)]
theorem spl_at (c : UInt8) : ∀ (a b : List UInt8), c ∉ a → spl c (a ++ c :: b) = a :: spl c b
  | [], b, _ => by show spl c (c :: b) = _; rw [spl, if_pos rfl]
  | x :: a, b, h => by
    have h1 : x ≠ c := fun e => h (by rw [e]; exact List.mem_cons_self ..)
    show spl c (x :: (a ++ c :: b)) = _
    rw [spl, if_neg h1, spl_at c a b fun e => h (List.mem_cons_of_mem _ e)]
theorem spl_mem (c : UInt8) : ∀ (l : List UInt8), ∀ x ∈ spl c l, c ∉ x ∧ ∀ y ∈ x, y ∈ l
  | [], x, hx => by
    rw [spl, List.mem_singleton] at hx; subst hx; simp
  | b :: r, x, hx => by
    unfold spl at hx
    have ih := spl_mem c r
    split at hx
    · rcases List.mem_cons.1 hx with rfl | hx
      · simp
      · exact ⟨(ih x hx).1, fun y hy => List.mem_cons_of_mem _ ((ih x hx).2 y hy)⟩
    · rename_i hb
      cases hs : spl c r with
      | nil => exact absurd hs (spl_ne c r)
      | cons z zs =>
        rw [hs] at hx ih
        rcases List.mem_cons.1 hx with rfl | hx
        · have := ih z (List.mem_cons_self ..)
          refine ⟨fun e => ?_, fun y hy => ?_⟩
          · rcases List.mem_cons.1 e with e | e
            · exact hb e.symm
            · exact this.1 e
          · rcases List.mem_cons.1 hy with rfl | hy
            · exact List.mem_cons_self ..
            · exact List.mem_cons_of_mem _ (this.2 y hy)
        · have := ih x (List.mem_cons_of_mem _ hx)
          exact ⟨this.1, fun y hy => List.mem_cons_of_mem _ (this.2 y hy)⟩
theorem join_two (x y : List UInt8) (r : List (List UInt8)) (sep : List UInt8) : join (x :: y :: r) sep = x ++ sep ++ join (y :: r) sep := by
  rw [join_cons, join_cons]
  simp [joinTail, List.append_assoc]
theorem join_spl (c : UInt8) : ∀ l, join (spl c l) [c] = l
  | [] => by rw [spl, join_one]
  | b :: r => by
    have ih := join_spl c r
    unfold spl
    split
    · rename_i hb
      cases hs : spl c r with
      | nil => exact absurd hs (spl_ne c r)
      | cons z zs => rw [join_two, ← hs, ih, hb]; rfl
    · cases hs : spl c r with
      | nil => exact absurd hs (spl_ne c r)
      | cons z zs =>
        dsimp only
        rw [hs] at ih
        rw [join_cons] at ih ⊢
        rw [List.cons_append, ih]
theorem spl_join (c : UInt8) : ∀ (xs : List (List UInt8)), xs ≠ [] → (∀ x ∈ xs, c ∉ x) → spl c (join xs [c]) = xs
  | [], h, _ => absurd rfl h
  | [x], _, h => by rw [join_one]; exact spl_no c x (h x (List.mem_cons_self ..))
  | x :: y :: r, _, h => by
    rw [join_two, List.append_assoc]
    show spl c (x ++ c :: join (y :: r) [c]) = _
    rw [spl_at c x _ (h x (List.mem_cons_self ..)), spl_join c (y :: r) (by simp) fun z hz => h z (List.mem_cons_of_mem _ hz)]
theorem splitK_spl (c : UInt8) : ∀ (k : Nat) (l : List UInt8), count l [c] = k → splitK [c] 0 k l = spl c l
  | 0, l, h => by
    have hc : c ∉ l := by
      rw [count_one] at h
      exact List.count_eq_zero.1 h
    rw [spl_no c l hc]; rfl
  | k + 1, l, h => by
    have hc : c ∈ l := by
      rw [count_one] at h
      exact List.count_pos_iff.1 (by omega)
    obtain ⟨a, b, rfl, ha⟩ := split_at c l hc
    unfold splitK
    rw [index_at c a b ha, if_neg (by simp)]
    rw [spl_at c a b ha]
    have e0 : ((a.length : Nat) : Int).toNat = a.length := by omega
    rw [e0, Nat.add_zero, List.take_left]
    congr 1
    have e1 : (a ++ c :: b).drop (a.length + [c].length) = b := by
      rw [show a ++ c :: b = (a ++ [c]) ++ b by simp, List.drop_left' (by simp)]
    rw [e1]
    refine splitK_spl c k b ?_
    rw [count_one, List.count_append, List.count_cons_self, List.count_eq_zero.2 ha] at h
    rw [count_one]; omega

/-! lines -/
/-- the lines that are given to take, the number of the line that is wrong, and whether all are right -/
def lnG (ok : List UInt8 → Bool) : Nat → List UInt8 → List (List UInt8) × Nat × Bool
  | 0, _ => ([], 0, true)
  | f + 1, t => if t = [] then ([], 0, true) else if (cut t [10]).2.2 = false then ([], 0, false) else
    if ok (cut t [10]).1 = false then ([(cut t [10]).1], 0, false) else
    ((cut t [10]).1 :: (lnG ok f (cut t [10]).2.1).1, if (lnG ok f (cut t [10]).2.1).2.2 = true then 0 else (lnG ok f (cut t [10]).2.1).2.1 + 1, (lnG ok f (cut t [10]).2.1).2.2)
def lnR (ok : List UInt8 → Bool) (t : List UInt8) : List (List UInt8) × Nat × Bool := lnG ok t.length t
theorem cut_true {t : List UInt8} (h : (cut t [10]).2.2 = true) : t = (cut t [10]).1 ++ 10 :: (cut t [10]).2.1 ∧ (10 : UInt8) ∉ (cut t [10]).1 := by
  rcases cut_cases 10 t with ⟨_, e⟩ | ⟨a, b, e1, e2, e3⟩
  · rw [e] at h; cases h
  · rw [e3]; exact ⟨e1, e2⟩
theorem lnG_fuel (ok : List UInt8 → Bool) : ∀ (f g : Nat) (t : List UInt8), t.length ≤ f → t.length ≤ g → lnG ok f t = lnG ok g t
  | 0, 0, _, _, _ => rfl
  | 0, g + 1, t, h, _ => by
    have : t = [] := List.eq_nil_of_length_eq_zero (by omega)
    subst this; rfl
  | f + 1, 0, t, _, h => by
    have : t = [] := List.eq_nil_of_length_eq_zero (by omega)
    subst this; rfl
  | f + 1, g + 1, t, h1, h2 => by
    unfold lnG
    by_cases ht : t = []
    · rw [if_pos ht, if_pos ht]
    · rw [if_neg ht, if_neg ht]
      by_cases hc : (cut t [10]).2.2 = false
      · rw [if_pos hc, if_pos hc]
      · rw [if_neg hc, if_neg hc]
        obtain ⟨e, _⟩ := cut_true (t := t) (by simpa using hc)
        have hl : (cut t [10]).2.1.length < t.length := by
          have := congrArg List.length e
          rw [List.length_append, List.length_cons] at this
          omega
        rw [lnG_fuel ok f g _ (by omega) (by omega)]
theorem lnR_nil (ok : List UInt8 → Bool) : lnR ok [] = ([], 0, true) := rfl
theorem lnR_step (ok : List UInt8 → Bool) {t : List UInt8} (ht : t ≠ []) : lnR ok t = if (cut t [10]).2.2 = false then ([], 0, false) else
    if ok (cut t [10]).1 = false then ([(cut t [10]).1], 0, false) else
    ((cut t [10]).1 :: (lnR ok (cut t [10]).2.1).1, if (lnR ok (cut t [10]).2.1).2.2 = true then 0 else (lnR ok (cut t [10]).2.1).2.1 + 1, (lnR ok (cut t [10]).2.1).2.2) := by
  obtain ⟨n, hn⟩ : ∃ n, t.length = n + 1 := ⟨t.length - 1, by cases t <;> simp_all⟩
  by_cases hc : (cut t [10]).2.2 = false
  · unfold lnR; rw [hn, lnG, if_neg ht, if_pos hc, if_pos hc]
  · rw [if_neg hc]
    obtain ⟨e, _⟩ := cut_true (t := t) (by simpa using hc)
    have hl : (cut t [10]).2.1.length < t.length := by
      have := congrArg List.length e
      rw [List.length_append, List.length_cons] at this
      omega
    have hf : lnG ok n (cut t [10]).2.1 = lnR ok (cut t [10]).2.1 := lnG_fuel ok _ _ _ (by omega) (Nat.le_refl _)
    conv => lhs; unfold lnR; rw [hn, lnG, if_neg ht, if_neg hc, hf]
theorem lnR_line (ok : List UInt8 → Bool) {a b : List UInt8} (ha : (10 : UInt8) ∉ a) (hk : ok a = true) : lnR ok (a ++ 10 :: b) = (a :: (lnR ok b).1, if (lnR ok b).2.2 = true then 0 else (lnR ok b).2.1 + 1, (lnR ok b).2.2) := by
  rw [lnR_step ok (by simp), cut_at 10 a b ha]
  dsimp only
  rw [if_neg (by decide), if_neg (by rw [hk]; decide)]
/-- all lines are right: the text is the lines, each with its end -/
theorem lnR_all (ok : List UInt8 → Bool) : ∀ (n : Nat) (t : List UInt8), t.length ≤ n → (lnR ok t).2.2 = true → t = (lnR ok t).1.flatMap (fun a => a ++ [10]) ∧ ∀ a ∈ (lnR ok t).1, ok a = true ∧ (10 : UInt8) ∉ a := by
  intro n
  induction n with
  | zero =>
    intro t hn h
    have : t = [] := List.eq_nil_of_length_eq_zero (by omega)
    subst this
    rw [lnR_nil]
    exact ⟨rfl, fun a ha => by cases ha⟩
  | succ n ih =>
    intro t hn h
    by_cases ht : t = []
    · subst ht
      rw [lnR_nil]
      exact ⟨rfl, fun a ha => by cases ha⟩
    · have hs := lnR_step ok ht
      rw [hs] at h
      by_cases hc : (cut t [10]).2.2 = false
      · rw [if_pos hc] at h; cases h
      · rw [if_neg hc] at h hs
        by_cases hk : ok (cut t [10]).1 = false
        · rw [if_pos hk] at h; cases h
        · rw [if_neg hk] at h hs
          obtain ⟨e, hno⟩ := cut_true (t := t) (by simpa using hc)
          have hl : (cut t [10]).2.1.length < t.length := by
            have := congrArg List.length e
            rw [List.length_append, List.length_cons] at this
            omega
          obtain ⟨i1, i2⟩ := ih (cut t [10]).2.1 (by omega) h
          rw [hs]
          refine ⟨?_, fun a ha => ?_⟩
          · dsimp only
            rw [List.flatMap_cons, ← i1]
            conv => lhs; rw [e]
            simp
          · rcases List.mem_cons.1 ha with rfl | ha
            · exact ⟨by simpa using hk, hno⟩
            · exact i2 a ha
/-- text of right lines is read so -/
theorem lnR_of (ok : List UInt8 → Bool) : ∀ (L : List (List UInt8)), (∀ a ∈ L, ok a = true ∧ (10 : UInt8) ∉ a) → lnR ok (L.flatMap fun a => a ++ [10]) = (L, 0, true)
  | [], _ => rfl
  | a :: L, h => by
    obtain ⟨h1, h2⟩ := h a (List.mem_cons_self ..)
    have ih := lnR_of ok L fun b hb => h b (List.mem_cons_of_mem _ hb)
    rw [List.flatMap_cons, List.append_assoc]
    show lnR ok (a ++ 10 :: L.flatMap fun a => a ++ [10]) = _
    rw [lnR_line ok h2 h1, ih]
    rfl
theorem lnR_idx (ok : List UInt8 → Bool) : ∀ (n : Nat) (t : List UInt8), t.length ≤ n → (lnR ok t).2.1 ≤ t.length ∧ (lnR ok t).1.length ≤ t.length := by
  intro n
  induction n with
  | zero =>
    intro t hn
    have : t = [] := List.eq_nil_of_length_eq_zero (by omega)
    subst this
    rw [lnR_nil]
    exact ⟨Nat.le_refl _, Nat.le_refl _⟩
  | succ n ih =>
    intro t hn
    by_cases ht : t = []
    · subst ht
      rw [lnR_nil]
      exact ⟨Nat.le_refl _, Nat.le_refl _⟩
    · have hp : 0 < t.length := List.length_pos_iff.2 ht
      rw [lnR_step ok ht]
      by_cases hc : (cut t [10]).2.2 = false
      · rw [if_pos hc]; exact ⟨Nat.zero_le _, Nat.zero_le _⟩
      · rw [if_neg hc]
        by_cases hk : ok (cut t [10]).1 = false
        · rw [if_pos hk]; exact ⟨Nat.zero_le _, hp⟩
        · rw [if_neg hk]
          obtain ⟨e, hno⟩ := cut_true (t := t) (by simpa using hc)
          have hl : (cut t [10]).2.1.length < t.length := by
            have := congrArg List.length e
            rw [List.length_append, List.length_cons] at this
            omega
          obtain ⟨i1, i2⟩ := ih (cut t [10]).2.1 (by omega)
          refine ⟨?_, ?_⟩
          · dsimp only
            split
            · exact Nat.zero_le _
            · omega
          · dsimp only
            rw [List.length_cons]; omega
/-- numbers out of words -/
def numsP (l : List (List UInt8)) (most : Nat) : Option (List Int) := match l with
  | [] => some []
  | x :: r => match numP x most, numsP r most with
    | some n, some ns => some (n :: ns)
    | _, _ => none
theorem numsP_iff {most : Nat} : ∀ {l : List (List UInt8)} {ns : List Int}, numsP l most = some ns ↔ l = ns.map itoa ∧ ∀ n ∈ ns, (decDigits n.natAbs).length ≤ most
  | [], ns => by
    constructor
    · intro h
      obtain rfl := (Option.some.inj h : [] = ns)
      exact ⟨rfl, fun n hn => by cases hn⟩
    · rintro ⟨h, _⟩
      have : ns = [] := by simpa using h.symm
      rw [this]; rfl
  | x :: r, ns => by
    unfold numsP
    constructor
    · intro h
      cases h1 : numP x most with
      | none => rw [h1] at h; cases h
      | some n =>
        cases h2 : numsP r most with
        | none => rw [h1, h2] at h; cases h
        | some ms =>
          rw [h1, h2] at h
          obtain rfl := (Option.some.inj h : n :: ms = ns)
          obtain ⟨e1, e2⟩ := num_iff.1 h1
          obtain ⟨e3, e4⟩ := numsP_iff.1 h2
          refine ⟨by rw [List.map_cons, e1, ← e3], fun k hk => ?_⟩
          rcases List.mem_cons.1 hk with rfl | hk
          · exact e2
          · exact e4 k hk
    · rintro ⟨h, h2⟩
      cases ns with
      | nil => cases h
      | cons n ms =>
        rw [List.map_cons] at h
        injection h with e1 e2
        subst e1 e2
        rw [num_iff.2 ⟨rfl, h2 n (List.mem_cons_self ..)⟩, numsP_iff.2 ⟨rfl, fun k hk => h2 k (List.mem_cons_of_mem _ hk)⟩]
/-! texts of records, a line each -/
theorem lnR_recs {α β : Type} (parse : List UInt8 → Option α) (line : β → List UInt8) (f : β → α) (l : List β) (h : ∀ x ∈ l, parse (line x) = some (f x) ∧ (10 : UInt8) ∉ line x) :
    lnR (fun a => (parse a).isSome) (l.flatMap fun x => line x ++ [10]) = (l.map line, 0, true) ∧ (l.map line).filterMap parse = l.map f := by
  constructor
  · have h1 := lnR_of (fun a => (parse a).isSome) (l.map line) (fun a ha => by
      obtain ⟨x, hx, rfl⟩ := List.mem_map.1 ha
      obtain ⟨h1, h2⟩ := h x hx
      exact ⟨by rw [h1]; rfl, h2⟩)
    rw [List.flatMap_map] at h1
    exact h1
  · induction l with
    | nil => rfl
    | cons x l ih =>
      rw [List.map_cons, List.filterMap_cons, (h x (List.mem_cons_self ..)).1]
      show f x :: _ = f x :: _
      rw [ih fun y hy => h y (List.mem_cons_of_mem _ hy)]
theorem recs_lnR {α : Type} (parse : List UInt8 → Option α) (line : α → List UInt8) (hp : ∀ a x, parse a = some x → line x = a) (t : List UInt8) (h : (lnR (fun a => (parse a).isSome) t).2.2 = true) :
    ((lnR (fun a => (parse a).isSome) t).1.filterMap parse).flatMap (fun x => line x ++ [10]) = t := by
  obtain ⟨h1, h2⟩ := lnR_all _ _ t (Nat.le_refl _) h
  generalize (lnR (fun a => (parse a).isSome) t).1 = L at *
  rw [h1]
  clear h1 h
  induction L with
  | nil => rfl
  | cons a L ih =>
    obtain ⟨h3, _⟩ := h2 a (List.mem_cons_self ..)
    cases hx : parse a with
    | none => rw [hx] at h3; cases h3
    | some x =>
      rw [List.filterMap_cons, hx]
      show (x :: L.filterMap parse).flatMap (fun x => line x ++ [10]) = _
      rw [List.flatMap_cons, List.flatMap_cons, ih fun b hb => h2 b (List.mem_cons_of_mem _ hb), hp a x hx]
theorem mem_join {sep : List UInt8} {b : UInt8} : ∀ {xs : List (List UInt8)}, b ∈ join xs sep → b ∈ sep ∨ ∃ x ∈ xs, b ∈ x
  | [], h => by rw [join_nil] at h; cases h
  | [x], h => by rw [join_one] at h; exact .inr ⟨x, List.mem_cons_self .., h⟩
  | x :: y :: r, h => by
    rw [join_two] at h
    rcases List.mem_append.1 h with h | h
    · rcases List.mem_append.1 h with h | h
      · exact .inr ⟨x, List.mem_cons_self .., h⟩
      · exact .inl h
    · rcases mem_join h with h | ⟨z, hz, h⟩
      · exact .inl h
      · exact .inr ⟨z, List.mem_cons_of_mem _ hz, h⟩
theorem itoa_no (n : Int) {c : UInt8} (h1 : c ≠ 45) (h2 : dig c = false) : c ∉ itoa n := fun h => by
  rcases itoa_bytes n c h with h | h
  · exact h1 h
  · rw [h] at h2; cases h2
theorem join_itoa_ne {ns : List Int} (h : ns ≠ []) (sep : List UInt8) : join (ns.map itoa) sep ≠ [] := by
  cases ns with
  | nil => exact absurd rfl h
  | cons n r =>
    rw [List.map_cons, join_cons]
    intro e
    exact itoa_ne n (List.append_eq_nil_iff.1 e).1
end Go.Proofs.YtklggnglaeagpaaGreatDoor
