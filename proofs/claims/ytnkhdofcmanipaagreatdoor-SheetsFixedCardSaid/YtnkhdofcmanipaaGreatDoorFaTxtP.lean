import Derived.Lib.IndexMore
import Derived.Lib.Strings
import Derived.Lib.Atoi
import Derived.Lib.ItoaNum
import Derived.Lib.SplitLaws
import Derived.Lib.Join
/- Times written and read: the plain law (a time that is written is read as it was; what is read is written so). -/
namespace Go.Proofs.YtnkhdofcmanipaaGreatDoor
open Go.Lib
set_option linter.unusedVariables false

def dig (b : UInt8) : Bool := decide (48 ≤ b.toNat ∧ b.toNat ≤ 57)
def numBad (t : List UInt8) (neg : Bool) (most : Nat) : Bool := t.isEmpty || decide (most < t.length) || !t.all dig || (decide (t.headD 0 = 48) && (decide (t ≠ [48]) || neg))
def numP (l : List UInt8) (most : Nat) : Option Int := if numBad (trimPrefix l [45]) (hasPrefix l [45]) most = true then none else atoi l
theorem index_notin (c : UInt8) : ∀ (a : List UInt8), c ∉ a → index a [c] = -1
  | [], _ => rfl
  | x :: a, h => by
    have h1 : c ≠ x := fun e => h (by simp [e])
    have h2 := index_notin c a (fun e => h (by simp [e]))
    unfold index
    rw [if_neg (by simp [h1]), h2]
    rfl
theorem index_at (c : UInt8) : ∀ (a b : List UInt8), c ∉ a → index (a ++ c :: b) [c] = a.length
  | [], b, _ => by simp [index]
  | x :: a, b, h => by
    have h1 : c ≠ x := fun e => h (by simp [e])
    have h2 := index_at c a b (fun e => h (by simp [e]))
    show index (x :: (a ++ c :: b)) [c] = _
    unfold index
    rw [if_neg (by simp [h1]), h2, if_neg (by first | (simp; done) | (simp; omega))]
    simp
theorem cut_at (c : UInt8) (a b : List UInt8) (h : c ∉ a) : cut (a ++ c :: b) [c] = (a, b, true) := by
  unfold cut
  rw [index_at c a b h, if_pos (by omega)]
  simp
theorem cut_no (c : UInt8) (a : List UInt8) (h : c ∉ a) : cut a [c] = (a, [], false) := by
  unfold cut
  rw [index_notin c a h, if_neg (by decide)]
theorem split_at (c : UInt8) : ∀ (l : List UInt8), c ∈ l → ∃ a b, l = a ++ c :: b ∧ c ∉ a
  | x :: l, h => by
    by_cases e : c = x
    · subst e; exact ⟨[], l, rfl, by simp⟩
    · obtain ⟨a, b, rfl, hn⟩ := split_at c l (by simpa [e] using h)
      exact ⟨x :: a, b, rfl, by simp [e, hn]⟩
theorem cut_cases (c : UInt8) (l : List UInt8) : (c ∉ l ∧ cut l [c] = (l, [], false)) ∨ ∃ a b, l = a ++ c :: b ∧ c ∉ a ∧ cut l [c] = (a, b, true) := by
  by_cases h : c ∈ l
  · obtain ⟨a, b, rfl, hn⟩ := split_at c l h
    exact .inr ⟨a, b, rfl, hn, cut_at c a b hn⟩
  · exact .inl ⟨h, cut_no c l h⟩
theorem u8_of (b : UInt8) : UInt8.ofNat b.toNat = b := by simp
theorem digitVal_of {b : UInt8} (h : dig b = true) : digitVal b = some (b.toNat - 48) := by
  unfold dig at h
  unfold digitVal
  rw [if_pos (of_decide_eq_true h)]
theorem dec_step {b : UInt8} (h : dig b = true) (acc : Nat) (l : List UInt8) : decFrom acc (b :: l) = decFrom (acc * 10 + (b.toNat - 48)) l := by
  conv => lhs; unfold decFrom
  rw [digitVal_of h]
theorem dec_all : ∀ (l : List UInt8) (acc : Nat), l.all dig = true → ∃ v, decFrom acc l = some v
  | [], acc, _ => ⟨acc, rfl⟩
  | b :: l, acc, h => by
    simp only [List.all_cons, Bool.and_eq_true] at h
    rw [dec_step h.1]
    exact dec_all l _ h.2
theorem num_some {l : List UInt8} {most : Nat} (hb : numBad (trimPrefix l [45]) (hasPrefix l [45]) most = false) : ∃ n, atoi l = some n := by
  unfold numBad at hb
  simp only [Bool.or_eq_false_iff, Bool.not_eq_false', decide_eq_false_iff_not] at hb
  obtain ⟨⟨⟨b1, b2⟩, b3⟩, b4⟩ := hb
  rcases l with _ | ⟨b, r⟩
  · simp [trimPrefix, hasPrefix] at b1
  · by_cases hm : b = 45
    · subst hm
      have e1 : hasPrefix (45 :: r) [45] = true := by simp [hasPrefix]
      have e2 : trimPrefix (45 :: r) [45] = r := by unfold trimPrefix; rw [e1]; rfl
      rw [e2] at b1 b3
      obtain ⟨v, hv⟩ := dec_all r 0 b3
      have ha : atoi (45 :: r) = (decNat r).map fun (m : Nat) => -(m : Int) := rfl
      have hd : decNat r = some v := by unfold decNat; rw [b1]; exact hv
      exact ⟨_, by rw [ha, hd]; rfl⟩
    · have e1 : hasPrefix (b :: r) [45] = false := by
        have : (45 == b) = false := beq_eq_false_iff_ne.2 (Ne.symm hm)
        simp [hasPrefix, List.isPrefixOf, this]
      have e2 : trimPrefix (b :: r) [45] = b :: r := by unfold trimPrefix; rw [e1]; rfl
      rw [e2] at b1 b3
      have hd : dig b = true := by simp only [List.all_cons, Bool.and_eq_true] at b3; exact b3.1
      have h43 : b ≠ 43 := fun e => by subst e; revert hd; decide
      have ha : atoi (b :: r) = (decNat (b :: r)).map fun (m : Nat) => (m : Int) := by
        show (if b == 45 then _ else if b == 43 then _ else _) = _
        rw [if_neg (by simpa using hm), if_neg (by simpa using h43)]
      obtain ⟨v, hv⟩ := dec_all (b :: r) 0 b3
      have hdn : decNat (b :: r) = some v := hv
      exact ⟨_, by rw [ha, hdn]; rfl⟩
end Go.Proofs.YtnkhdofcmanipaaGreatDoor

/- Times read by the reference: the same plain answer. -/
namespace Go.Proofs.YtnkhdofcmanipaaGreatDoor
open Go.Lib
set_option linter.unusedVariables false

theorem not_minus {b : UInt8} (h : dig b = true) : b ≠ 45 ∧ b ≠ 43 := by
  constructor <;> (intro e; subst e; revert h; decide)
theorem trim_dig {b : UInt8} {r : List UInt8} (h : b ≠ 45) : hasPrefix (b :: r) [45] = false ∧ trimPrefix (b :: r) [45] = b :: r := by
  have e1 : hasPrefix (b :: r) [45] = false := by
    have : (45 == b) = false := beq_eq_false_iff_ne.2 (Ne.symm h)
    simp [hasPrefix, List.isPrefixOf, this]
  exact ⟨e1, by unfold trimPrefix; rw [e1]; rfl⟩
end Go.Proofs.YtnkhdofcmanipaaGreatDoor

/- Numbers, words and lines as text: plain facts (no program in sight). -/
namespace Go.Proofs.YtnkhdofcmanipaaGreatDoor
open Go.Lib
set_option linter.unusedVariables false

/-! numerals -/
def canN (d : List UInt8) : Prop := d ≠ [] ∧ d.all dig = true ∧ (d.head? = some 48 → d = [48])
theorem dg_val : ∀ x : Nat, x < 10 → digitVal (UInt8.ofNat (48 + x)) = some x := by decide
theorem dg_dig : ∀ x : Nat, x < 10 → dig (UInt8.ofNat (48 + x)) = true := by decide
theorem dg_zero : ∀ x : Nat, x < 10 → UInt8.ofNat (48 + x) = 48 → x = 0 := by decide
theorem decFrom_snoc : ∀ (l : List UInt8) (acc : Nat) (b : UInt8), decFrom acc (l ++ [b]) = (decFrom acc l).bind fun v => (digitVal b).map fun x => v * 10 + x
  | [], acc, b => by
    show decFrom acc [b] = (digitVal b).map fun x => acc * 10 + x
    rw [decFrom]
    cases digitVal b <;> rfl
  | c :: l, acc, b => by
    rw [List.cons_append, decFrom, decFrom]
    cases digitVal c with
    | none => rfl
    | some d => exact decFrom_snoc l _ b
theorem dd_big {u : Nat} (h : ¬ u < 10) : decDigits u = decDigits (u / 10) ++ [UInt8.ofNat (48 + u % 10)] := by rw [decDigits, dif_neg h]
theorem decNat_ne {l : List UInt8} (h : l ≠ []) : decNat l = decFrom 0 l := by
  unfold decNat
  rw [if_neg (by simpa using h)]
theorem dd_can (u : Nat) : canN (decDigits u) ∧ decNat (decDigits u) = some u ∧ (decDigits u = [48] → u = 0) := by
  induction u using Nat.strongRecOn with
  | _ u ih =>
    by_cases h : u < 10
    · rw [decDigits_one h]
      refine ⟨⟨List.cons_ne_nil _ _, by rw [List.all_cons, dg_dig u h]; rfl, fun e => ?_⟩, ?_, fun e => dg_zero u h (List.cons.inj e).1⟩
      · simp only [List.head?_cons, Option.some.injEq] at e
        rw [e]
      · rw [decNat_ne (by simp)]
        show (match digitVal (UInt8.ofNat (48 + u)) with | some d => decFrom (0 * 10 + d) [] | none => none) = _
        rw [dg_val u h]
        show some (0 * 10 + u) = some u
        congr 1; omega
    · obtain ⟨⟨c1, c2, c3⟩, i2, i3⟩ := ih (u / 10) (by omega)
      have hm : u % 10 < 10 := Nat.mod_lt _ (by decide)
      rw [dd_big h]
      refine ⟨⟨by simp, by rw [List.all_append, c2, List.all_cons, dg_dig _ hm]; rfl, fun e => ?_⟩, ?_, fun e => ?_⟩
      · rw [List.head?_append] at e
        cases hd : (decDigits (u / 10)).head? with
        | none => rw [List.head?_eq_none_iff] at hd; exact absurd hd c1
        | some y =>
          rw [hd] at e
          have e2 : y = 48 := by simpa using e
          subst e2
          have := i3 (c3 hd)
          omega
      · rw [decNat_ne (by simp), decFrom_snoc, ← decNat_ne c1, i2]
        show (digitVal (UInt8.ofNat (48 + u % 10))).map (fun x => u / 10 * 10 + x) = some u
        rw [dg_val _ hm]
        show some (u / 10 * 10 + u % 10) = some u
        congr 1; omega
      · have e2 : (decDigits (u / 10) ++ [UInt8.ofNat (48 + u % 10)]).length = 1 := by rw [e]; rfl
        rw [List.length_append] at e2
        have : (decDigits (u / 10)).length = 0 := by simpa using e2
        exact absurd (List.eq_nil_of_length_eq_zero this) c1
theorem dg_of {b : UInt8} (h : dig b = true) : b = UInt8.ofNat (48 + (b.toNat - 48)) ∧ b.toNat - 48 < 10 := by
  have h1 := of_decide_eq_true h
  refine ⟨?_, by omega⟩
  rw [show 48 + (b.toNat - 48) = b.toNat by omega, u8_of]
theorem dd_of_can : ∀ (n : Nat) (d : List UInt8), d.length = n → canN d → ∀ v, decNat d = some v → decDigits v = d := by
  intro n
  induction n with
  | zero => intro d hn hc; exact absurd (List.eq_nil_of_length_eq_zero hn) hc.1
  | succ n ih =>
    intro d hn hc v hv
    obtain ⟨c1, c2, c3⟩ := hc
    obtain ⟨r, b, rfl⟩ : ∃ r b, d = r ++ [b] := ⟨d.dropLast, d.getLast c1, (List.dropLast_concat_getLast c1).symm⟩
    rw [List.all_append, Bool.and_eq_true] at c2
    obtain ⟨c2, c4⟩ := c2
    have c4 : dig b = true := by simpa using c4
    obtain ⟨hb1, hb2⟩ := dg_of c4
    generalize b.toNat - 48 = x at hb1 hb2
    subst hb1
    rw [decNat_ne c1, decFrom_snoc, dg_val x hb2] at hv
    by_cases hr : r = []
    · subst hr
      have hv : v = x := by
        have : some (0 * 10 + x) = some v := hv
        have := Option.some.inj this
        omega
      rw [hv, decDigits_one hb2]; rfl
    · have hcr : canN r := by
        refine ⟨hr, c2, fun e => ?_⟩
        have e2 : (r ++ [UInt8.ofNat (48 + x)]).head? = some 48 := by rw [List.head?_append, e]; rfl
        have e3 := congrArg List.length (c3 e2)
        rw [List.length_append] at e3
        have : r.length = 0 := by simpa using e3
        exact absurd (List.eq_nil_of_length_eq_zero this) hr
      cases hw : decFrom 0 r with
      | none => rw [hw] at hv; cases hv
      | some u =>
        rw [hw] at hv
        have hv : v = u * 10 + x := by
          have : some (u * 10 + x) = some v := hv
          exact (Option.some.inj this).symm
        have hu := ih r (by rw [List.length_append] at hn; simpa using hn) hcr u (by rw [decNat_ne hr]; exact hw)
        have hu0 : u ≠ 0 := by
          rintro rfl
          rw [decDigits_one (by decide)] at hu
          have e2 : (r ++ [UInt8.ofNat (48 + x)]).head? = some 48 := by rw [← hu]; rfl
          have e3 := congrArg List.length (c3 e2)
          rw [List.length_append] at e3
          have : r.length = 0 := by simpa using e3
          exact hr (List.eq_nil_of_length_eq_zero this)
        rw [hv, dd_big (by omega), show (u * 10 + x) / 10 = u by omega, show (u * 10 + x) % 10 = x by omega, hu]
theorem atoi_of_dig {d : List UInt8} (h : d ≠ []) (ha : d.all dig = true) : atoi d = (decNat d).map fun (m : Nat) => (m : Int) := by
  rcases d with _ | ⟨b, r⟩
  · exact absurd rfl h
  · simp only [List.all_cons, Bool.and_eq_true] at ha
    obtain ⟨h1, h2⟩ := not_minus ha.1
    show (if b == 45 then _ else if b == 43 then _ else _) = _
    rw [if_neg (by simpa using h1), if_neg (by simpa using h2)]
theorem trim_of_dig {d : List UInt8} (h : d ≠ []) (ha : d.all dig = true) : hasPrefix d [45] = false ∧ trimPrefix d [45] = d := by
  rcases d with _ | ⟨b, r⟩
  · exact absurd rfl h
  · simp only [List.all_cons, Bool.and_eq_true] at ha
    exact trim_dig (not_minus ha.1).1
theorem trim_neg (r : List UInt8) : hasPrefix (45 :: r) [45] = true ∧ trimPrefix (45 :: r) [45] = r := by
  have e : hasPrefix (45 :: r) [45] = true := by simp [hasPrefix]
  exact ⟨e, by unfold trimPrefix; rw [e]; rfl⟩
theorem trim_itoa (n : Int) : trimPrefix (itoa n) [45] = decDigits n.natAbs ∧ hasPrefix (itoa n) [45] = decide (n < 0) := by
  unfold itoa
  by_cases h : n < 0
  · rw [if_pos h, decide_eq_true h]
    obtain ⟨a, b⟩ := trim_neg (decDigits n.natAbs)
    exact ⟨b, a⟩
  · rw [if_neg h, decide_eq_false h]
    obtain ⟨c, _, _⟩ := dd_can n.toNat
    obtain ⟨a, b⟩ := trim_of_dig c.1 c.2.1
    exact ⟨by rw [b]; congr 1; omega, a⟩
theorem atoi_itoa (n : Int) : atoi (itoa n) = some n := by
  unfold itoa
  by_cases h : n < 0
  · rw [if_pos h]
    show (decNat (decDigits n.natAbs)).map (fun (m : Nat) => -(m : Int)) = some n
    rw [(dd_can _).2.1]
    show some (-((n.natAbs : Nat) : Int)) = some n
    congr 1; omega
  · rw [if_neg h]
    obtain ⟨c, c2, _⟩ := dd_can n.toNat
    rw [atoi_of_dig c.1 c.2.1, c2]
    show some ((n.toNat : Nat) : Int) = some n
    congr 1; omega
/-- a number is read where it is written so, with at most so many digits -/
theorem num_iff {l : List UInt8} {most : Nat} {n : Int} : numP l most = some n ↔ itoa n = l ∧ (decDigits n.natAbs).length ≤ most := by
  constructor
  · intro h
    unfold numP at h
    split at h
    · cases h
    · rename_i hb
      have hb' : numBad (trimPrefix l [45]) (hasPrefix l [45]) most = false := by simpa using hb
      unfold numBad at hb'
      simp only [Bool.or_eq_false_iff, Bool.not_eq_false', decide_eq_false_iff_not, Bool.and_eq_false_iff] at hb'
      obtain ⟨⟨⟨b1, b2⟩, b3⟩, b4⟩ := hb'
      have key : ∀ t : List UInt8, t.isEmpty = false → t.all dig = true → (∀ neg : Bool, (¬ t.headD 0 = 48) ∨ ((¬ t ≠ [48]) ∧ neg = false) → canN t) := by
        intro t h1 h2 neg h3
        refine ⟨(by rintro rfl; cases h1), h2, fun e => ?_⟩
        rcases h3 with h3 | h3
        · exfalso
          rcases t with _ | ⟨y, t⟩
          · cases h1
          · simp only [List.head?_cons, Option.some.injEq] at e
            exact h3 e
        · exact Decidable.not_not.1 h3.1
      by_cases hneg : hasPrefix l [45] = true
      · have hl : ∃ r, l = 45 :: r := by
          rcases l with _ | ⟨c, r⟩
          · simp [hasPrefix] at hneg
          · by_cases hc : c = 45
            · exact ⟨r, by rw [hc]⟩
            · rw [(trim_dig hc).1] at hneg; cases hneg
        obtain ⟨r, rfl⟩ := hl
        rw [(trim_neg r).2] at b1 b2 b3 b4
        rw [(trim_neg r).1] at b4
        have b4 : ¬ r.headD 0 = 48 := by
          rcases b4 with b4 | b4
          · exact b4
          · cases b4.2
        have hc := key r b1 b3 true (.inl b4)
        have ha : atoi (45 :: r) = (decNat r).map fun (m : Nat) => -(m : Int) := rfl
        rw [ha] at h
        cases hv : decNat r with
        | none => rw [hv] at h; cases h
        | some v =>
          rw [hv] at h
          have hn : -(v : Int) = n := Option.some.inj h
          have hd := dd_of_can _ r rfl hc v hv
          have hv0 : v ≠ 0 := by
            rintro rfl
            rw [decDigits_one (by decide)] at hd
            rw [← hd] at b4
            exact b4 rfl
          have e1 : n.natAbs = v := by omega
          refine ⟨?_, by rw [e1, hd]; omega⟩
          unfold itoa
          rw [if_pos (by omega), e1, hd]
      · have hneg' : hasPrefix l [45] = false := by simpa using hneg
        have ht : trimPrefix l [45] = l := by unfold trimPrefix; rw [hneg']; rfl
        rw [ht] at b1 b2 b3 b4
        rw [hneg'] at b4
        have hc := key l b1 b3 false (by
          rcases b4 with b4 | b4
          · exact .inl b4
          · exact .inr b4)
        rw [atoi_of_dig hc.1 hc.2.1] at h
        cases hv : decNat l with
        | none => rw [hv] at h; cases h
        | some v =>
          rw [hv] at h
          have hn : (v : Int) = n := Option.some.inj h
          have hd := dd_of_can _ l rfl hc v hv
          have e1 : n.natAbs = v := by omega
          refine ⟨?_, by rw [e1, hd]; omega⟩
          unfold itoa
          rw [if_neg (by omega), show n.toNat = v by omega, hd]
  · rintro ⟨rfl, h2⟩
    obtain ⟨t1, t2⟩ := trim_itoa n
    obtain ⟨⟨c1, c2, c3⟩, _, c4⟩ := dd_can n.natAbs
    unfold numP
    rw [t1, t2, atoi_itoa, if_neg]
    intro hb
    unfold numBad at hb
    simp only [Bool.or_eq_true, decide_eq_true_eq, Bool.and_eq_true, Bool.not_eq_true'] at hb
    rcases hb with ((hb | hb) | hb) | hb
    · exact c1 (by simpa using hb)
    · omega
    · rw [c2] at hb; cases hb
    · obtain ⟨hb1, hb2⟩ := hb
      have hh : (decDigits n.natAbs).head? = some 48 := by
        cases hd : decDigits n.natAbs with
        | nil => exact absurd hd c1
        | cons y r => rw [hd] at hb1; simp only [List.headD_cons] at hb1; rw [hb1]; rfl
      have h48 := c3 hh
      have h0 := c4 h48
      rcases hb2 with hb2 | hb2
      · exact hb2 h48
      · omega
/-- the reference's reading of a number -/
def intQ (l : List UInt8) (most : Nat) : Option Int := if (1 ≤ (trimPrefix l [45]).length ∧ (trimPrefix l [45]).length ≤ most) ∧ (trimPrefix l [45]).all dig = true then
    (match atoi l with
    | some n => if itoa n = l then some n else none
    | none => none)
  else none
theorem intQ_num (l : List UInt8) (most : Nat) : intQ l most = numP l most := by
  have h1 : ∀ n, intQ l most = some n ↔ numP l most = some n := by
    intro n
    rw [num_iff]
    unfold intQ
    constructor
    · intro h
      split at h
      · rename_i hc
        cases ha : atoi l with
        | none => rw [ha] at h; cases h
        | some m =>
          rw [ha] at h
          dsimp only at h
          split at h
          · rename_i hi
            obtain rfl := Option.some.inj h
            rw [← hi, (trim_itoa m).1] at hc
            exact ⟨hi, hc.1.2⟩
          · cases h
      · cases h
    · rintro ⟨rfl, h2⟩
      obtain ⟨c, _, _⟩ := dd_can n.natAbs
      have hl : 1 ≤ (decDigits n.natAbs).length := by
        rcases hd : decDigits n.natAbs with _ | ⟨y, r⟩
        · exact absurd hd c.1
        · simp
      rw [(trim_itoa n).1, if_pos ⟨⟨hl, h2⟩, c.2.1⟩, atoi_itoa]
      dsimp only
      rw [if_pos rfl]
  cases hn : numP l most with
  | none =>
    cases hi : intQ l most with
    | none => rfl
    | some m => rw [(h1 m).1 hi] at hn; cases hn
  | some m => exact (h1 m).2 hn
theorem num_long {l : List UInt8} {most : Nat} (h : most + 1 < l.length) : numP l most = none := by
  cases hn : numP l most with
  | none => rfl
  | some n =>
    obtain ⟨rfl, h2⟩ := num_iff.1 hn
    unfold itoa at h
    split at h
    · rw [List.length_cons] at h; omega
    · rename_i h0
      rw [show n.toNat = n.natAbs by omega] at h
      omega
theorem dd_le {u : Nat} : ∀ {k : Nat}, 1 ≤ k → u < 10 ^ k → (decDigits u).length ≤ k := by
  induction u using Nat.strongRecOn with
  | _ u ih =>
    intro k hk hu
    by_cases h : u < 10
    · rw [decDigits_one h]; exact hk
    · rw [dd_big h, List.length_append]
      obtain ⟨j, rfl⟩ : ∃ j, k = j + 1 := ⟨k - 1, by omega⟩
      have hj : 1 ≤ j := by
        rcases j with _ | j
        · simp at hu; omega
        · omega
      have := ih (u / 10) (by omega) hj (by rw [Nat.pow_succ] at hu; omega)
      simp only [List.length_singleton]
      omega
/-! words: split at one byte, joined by it -/
def spl (c : UInt8) : List UInt8 → List (List UInt8)
  | [] => [[]]
  | b :: r => if b = c then [] :: spl c r else match spl c r with
    | [] => [[b]]
    | x :: xs => (b :: x) :: xs
theorem spl_ne (c : UInt8) : ∀ l, spl c l ≠ []
  | [] => by simp [spl]
  | b :: r => by
    unfold spl
    split
    · simp
    · split <;> simp
theorem spl_no (c : UInt8) : ∀ l : List UInt8, c ∉ l → spl c l = [l]
  | [], _ => rfl
  | b :: r, h => by
    have h1 : b ≠ c := fun e => h (by rw [e]; exact List.mem_cons_self ..)
    unfold spl
    rw [if_neg h1, spl_no c r fun e => h (List.mem_cons_of_mem _ e)]
theorem spl_at (c : UInt8) : ∀ (a b : List UInt8), c ∉ a → spl c (a ++ c :: b) = a :: spl c b
  | [], b, _ => by show spl c (c :: b) = _; rw [spl, if_pos rfl]
  | x :: a, b, h => by
    have h1 : x ≠ c := fun e => h (by rw [e]; exact List.mem_cons_self ..)
    show spl c (x :: (a ++ c :: b)) = _
    rw [spl, if_neg h1, spl_at c a b fun e => h (List.mem_cons_of_mem _ e)]
theorem join_two (x y : List UInt8) (r : List (List UInt8)) (sep : List UInt8) : join (x :: y :: r) sep = x ++ sep ++ join (y :: r) sep := by
  rw [join_cons, join_cons]
  simp [joinTail, List.append_assoc]
theorem splitK_spl (c : UInt8) : ∀ (k : Nat) (l : List UInt8), count l [c] = k → splitK [c] 0 k l = spl c l
  | 0, l, h => by
    have hc : c ∉ l := by
      rw [count_one] at h
      exact List.count_eq_zero.1 h
    rw [spl_no c l hc]; rfl
  | k + 1, l, h => by
    have hc : c ∈ l := by
      rw [count_one] at h
      exact List.count_pos_iff.1 (by omega)
    obtain ⟨a, b, rfl, ha⟩ := split_at c l hc
    unfold splitK
    rw [index_at c a b ha, if_neg (by simp)]
    rw [spl_at c a b ha]
    have e0 : ((a.length : Nat) : Int).toNat = a.length := by omega
    rw [e0, Nat.add_zero, List.take_left]
    congr 1
    have e1 : (a ++ c :: b).drop (a.length + [c].length) = b := by
      rw [show a ++ c :: b = (a ++ [c]) ++ b by simp, List.drop_left' (by simp)]
    rw [e1]
    refine splitK_spl c k b ?_
    rw [count_one, List.count_append, List.count_cons_self, List.count_eq_zero.2 ha] at h
    rw [count_one]; omega

/-! lines -/
/-- the lines that are given to take, the number of the line that is wrong, and whether all are right -/
def lnG (ok : List UInt8 → Bool) : Nat → List UInt8 → List (List UInt8) × Nat × Bool
  | 0, _ => ([], 0, true)
  | f + 1, t => if t = [] then ([], 0, true) else if (cut t [10]).2.2 = false then ([], 0, false) else
    if ok (cut t [10]).1 = false then ([(cut t [10]).1], 0, false) else
    ((cut t [10]).1 :: (lnG ok f (cut t [10]).2.1).1, if (lnG ok f (cut t [10]).2.1).2.2 = true then 0 else (lnG ok f (cut t [10]).2.1).2.1 + 1, (lnG ok f (cut t [10]).2.1).2.2)
def lnR (ok : List UInt8 → Bool) (t : List UInt8) : List (List UInt8) × Nat × Bool := lnG ok t.length t
theorem cut_true {t : List UInt8} (h : (cut t [10]).2.2 = true) : t = (cut t [10]).1 ++ 10 :: (cut t [10]).2.1 ∧ (10 : UInt8) ∉ (cut t [10]).1 := by
  rcases cut_cases 10 t with ⟨_, e⟩ | ⟨a, b, e1, e2, e3⟩
  · rw [e] at h; cases h
  · rw [e3]; exact ⟨e1, e2⟩
theorem lnG_fuel (ok : List UInt8 → Bool) : ∀ (f g : Nat) (t : List UInt8), t.length ≤ f → t.length ≤ g → lnG ok f t = lnG ok g t
  | 0, 0, _, _, _ => rfl
  | 0, g + 1, t, h, _ => by
    have : t = [] := List.eq_nil_of_length_eq_zero (by omega)
    subst this; rfl
  | f + 1, 0, t, _, h => by
    have : t = [] := List.eq_nil_of_length_eq_zero (by omega)
    subst this; rfl
  | f + 1, g + 1, t, h1, h2 => by
    unfold lnG
    by_cases ht : t = []
    · rw [if_pos ht, if_pos ht]
    · rw [if_neg ht, if_neg ht]
      by_cases hc : (cut t [10]).2.2 = false
      · rw [if_pos hc, if_pos hc]
      · rw [if_neg hc, if_neg hc]
        obtain ⟨e, _⟩ := cut_true (t := t) (by simpa using hc)
        have hl : (cut t [10]).2.1.length < t.length := by
          have := congrArg List.length e
          rw [List.length_append, List.length_cons] at this
          omega
        rw [lnG_fuel ok f g _ (by omega) (by omega)]
theorem lnR_nil (ok : List UInt8 → Bool) : lnR ok [] = ([], 0, true) := rfl
theorem lnR_step (ok : List UInt8 → Bool) {t : List UInt8} (ht : t ≠ []) : lnR ok t = if (cut t [10]).2.2 = false then ([], 0, false) else
    if ok (cut t [10]).1 = false then ([(cut t [10]).1], 0, false) else
    ((cut t [10]).1 :: (lnR ok (cut t [10]).2.1).1, if (lnR ok (cut t [10]).2.1).2.2 = true then 0 else (lnR ok (cut t [10]).2.1).2.1 + 1, (lnR ok (cut t [10]).2.1).2.2) := by
  obtain ⟨n, hn⟩ : ∃ n, t.length = n + 1 := ⟨t.length - 1, by cases t <;> simp_all⟩
  by_cases hc : (cut t [10]).2.2 = false
  · unfold lnR; rw [hn, lnG, if_neg ht, if_pos hc, if_pos hc]
  · rw [if_neg hc]
    obtain ⟨e, _⟩ := cut_true (t := t) (by simpa using hc)
    have hl : (cut t [10]).2.1.length < t.length := by
      have := congrArg List.length e
      rw [List.length_append, List.length_cons] at this
      omega
    have hf : lnG ok n (cut t [10]).2.1 = lnR ok (cut t [10]).2.1 := lnG_fuel ok _ _ _ (by omega) (Nat.le_refl _)
    conv => lhs; unfold lnR; rw [hn, lnG, if_neg ht, if_neg hc, hf]
/-- all lines are right: the text is the lines, each with its end -/
theorem lnR_all (ok : List UInt8 → Bool) : ∀ (n : Nat) (t : List UInt8), t.length ≤ n → (lnR ok t).2.2 = true → t = (lnR ok t).1.flatMap (fun a => a ++ [10]) ∧ ∀ a ∈ (lnR ok t).1, ok a = true ∧ (10 : UInt8) ∉ a := by
  intro n
  induction n with
  | zero =>
    intro t hn h
    have : t = [] := List.eq_nil_of_length_eq_zero (by omega)
    subst this
    rw [lnR_nil]
    exact ⟨rfl, fun a ha => by cases ha⟩
  | succ n ih =>
    intro t hn h
    by_cases ht : t = []
    · subst ht
      rw [lnR_nil]
      exact ⟨rfl, fun a ha => by cases ha⟩
    · have hs := lnR_step ok ht
      rw [hs] at h
      by_cases hc : (cut t [10]).2.2 = false
      · rw [if_pos hc] at h; cases h
      · rw [if_neg hc] at h hs
        by_cases hk : ok (cut t [10]).1 = false
        · rw [if_pos hk] at h; cases h
        · rw [if_neg hk] at h hs
          obtain ⟨e, hno⟩ := cut_true (t := t) (by simpa using hc)
          have hl : (cut t [10]).2.1.length < t.length := by
            have := congrArg List.length e
            rw [List.length_append, List.length_cons] at this
            omega
          obtain ⟨i1, i2⟩ := ih (cut t [10]).2.1 (by omega) h
          rw [hs]
          refine ⟨?_, fun a ha => ?_⟩
          · dsimp only
            rw [List.flatMap_cons, ← i1]
            conv => lhs; rw [e]
            simp
          · rcases List.mem_cons.1 ha with rfl | ha
            · exact ⟨by simpa using hk, hno⟩
            · exact i2 a ha
theorem lnR_idx (ok : List UInt8 → Bool) : ∀ (n : Nat) (t : List UInt8), t.length ≤ n → (lnR ok t).2.1 ≤ t.length ∧ (lnR ok t).1.length ≤ t.length := by
  intro n
  induction n with
  | zero =>
    intro t hn
    have : t = [] := List.eq_nil_of_length_eq_zero (by omega)
    subst this
    rw [lnR_nil]
    exact ⟨Nat.le_refl _, Nat.le_refl _⟩
  | succ n ih =>
    intro t hn
    by_cases ht : t = []
    · subst ht
      rw [lnR_nil]
      exact ⟨Nat.le_refl _, Nat.le_refl _⟩
    · have hp : 0 < t.length := List.length_pos_iff.2 ht
      rw [lnR_step ok ht]
      by_cases hc : (cut t [10]).2.2 = false
      · rw [if_pos hc]; exact ⟨Nat.zero_le _, Nat.zero_le _⟩
      · rw [if_neg hc]
        by_cases hk : ok (cut t [10]).1 = false
        · rw [if_pos hk]; exact ⟨Nat.zero_le _, hp⟩
        · rw [if_neg hk]
          obtain ⟨e, hno⟩ := cut_true (t := t) (by simpa using hc)
          have hl : (cut t [10]).2.1.length < t.length := by
            have := congrArg List.length e
            rw [List.length_append, List.length_cons] at this
            omega
          obtain ⟨i1, i2⟩ := ih (cut t [10]).2.1 (by omega)
          refine ⟨?_, ?_⟩
          · dsimp only
            split
            · exact Nat.zero_le _
            · omega
          · dsimp only
            rw [List.length_cons]; omega
/-- numbers out of words -/
def numsP (l : List (List UInt8)) (most : Nat) : Option (List Int) := match l with
  | [] => some []
  | x :: r => match numP x most, numsP r most with
    | some n, some ns => some (n :: ns)
    | _, _ => none
theorem numsP_iff {most : Nat} : ∀ {l : List (List UInt8)} {ns : List Int}, numsP l most = some ns ↔ l = ns.map itoa ∧ ∀ n ∈ ns, (decDigits n.natAbs).length ≤ most
  | [], ns => by
    constructor
    · intro h
      obtain rfl := (Option.some.inj h : [] = ns)
      exact ⟨rfl, fun n hn => by cases hn⟩
    · rintro ⟨h, _⟩
      have : ns = [] := by simpa using h.symm
      rw [this]; rfl
  | x :: r, ns => by
    unfold numsP
    constructor
    · intro h
      cases h1 : numP x most with
      | none => rw [h1] at h; cases h
      | some n =>
        cases h2 : numsP r most with
        | none => rw [h1, h2] at h; cases h
        | some ms =>
          rw [h1, h2] at h
          obtain rfl := (Option.some.inj h : n :: ms = ns)
          obtain ⟨e1, e2⟩ := num_iff.1 h1
          obtain ⟨e3, e4⟩ := numsP_iff.1 h2
          refine ⟨by rw [List.map_cons, e1, ← e3], fun k hk => ?_⟩
          rcases List.mem_cons.1 hk with rfl | hk
          · exact e2
          · exact e4 k hk
    · rintro ⟨h, h2⟩
      cases ns with
      | nil => cases h
      | cons n ms =>
        rw [List.map_cons] at h
        injection h with e1 e2
        subst e1 e2
        rw [num_iff.2 ⟨rfl, h2 n (List.mem_cons_self ..)⟩, numsP_iff.2 ⟨rfl, fun k hk => h2 k (List.mem_cons_of_mem _ hk)⟩]
/-! texts of records, a line each -/
end Go.Proofs.YtnkhdofcmanipaaGreatDoor
