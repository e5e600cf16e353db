import Derived.Test.YtamcmehmcbjgjaaGreatDoorStructs
import Derived.Test.YtamcmehmcbjgjaaGreatDoorTurns
import Derived.Test.YtamcmehmcbjgjaaGreatDoorLens
import Derived.Test.YtamcmehmcbjgjaaGreatDoorFill
import Derived.Deep.RegionHeld3
import Derived.Laws.StructEq
import Derived.BigGuardPart
import Derived.IntWalk
import Derived.Test.YtamcmehmcbjgjaaGreatDoorDraws
import Derived.Test.YtamcmehmcbjgjaaGreatDoorSplits
import Derived.Test.YtamcmehmcbjgjaaGreatDoorReady4
import Derived.Deep.AppendLies
import Derived.Test.YtamcmehmcbjgjaaGreatDoorRegAp
import Derived.Test.YtamcmehmcbjgjaaGreatDoorRows2
/- Turns: as data; comparison, worth, the check of one turn. -/
namespace Go.Proofs.YtamcmehmcbjgjaaGreatDoor
open Go.RowKit
set_option linter.unusedVariables false

structure Trn where
  stroke : Int
  metres : Int
  num : Int
  den : Int
  fixed : Int
def Trn.cells (t : Trn) : Array Value := #[.int .i64 t.stroke, .int .i64 t.metres, .int .i64 t.num, .int .i64 t.den, .int .i64 t.fixed]
abbrev Trn.val (t : Trn) : Value := .agg t.cells
def trnE (t : Trn) : List Value := [.int .i64 t.stroke, .int .i64 t.metres, .int .i64 t.num, .int .i64 t.den, .int .i64 t.fixed]
theorem trnE_len : ∀ x, (trnE x).length = 5 := fun _ => rfl
/-! ## comparison -/
def cmpV (a b : Int) : Int := if a < b then -1 else if b < a then 1 else 0
theorem compare_c (a b : Int) (w : World) : Calls Tryz.prog 136 #[.int .i64 a, .int .i64 b] w fun e w' => e = .returned (.int .i64 (cmpV a b)) ∧ w = w' :=
  (Tryz.cmp_Compare_int a b w).mono fun e w' ⟨he, hw⟩ => ⟨by rw [he]; rfl, hw.symm⟩
theorem cmpV_bd (a b : Int) : -1 ≤ cmpV a b ∧ cmpV a b ≤ 1 := by unfold cmpV; split <;> (try split) <;> omega
theorem orI_c (A : Option Addr) (n c : Nat) (l : List Int) (w : World) (h : RI 3 w A n l) :
    Calls Tryz.prog 147 #[.slice A n c] w fun e w' => e = .returned (.int .i64 (orV l)) ∧ w = w' := by
  have hl := h.len
  have hb := h.bd
  go_enter Tryz.func147, Tryz.ntmps147
  go_wp2
  go_loop [8] (fun i => ∃ k : Nat, k ≤ n ∧ i = .int .i64 k ∧ Hid (orV (l.drop k) = orV l)) (fun i => n - (intOf i).toNat)
  case atStart => exact ⟨0, Nat.zero_le _, rfl, Lib.hid rfl⟩
  case round =>
    obtain ⟨k, hk, rfl, hF⟩ := hrel
    by_cases hlt : k < n
    · obtain ⟨b, off, x, rfl, _, hx, hcell⟩ := h.at_ hlt
      have hS := Lib.hid (orV_at hx)
      clear hx h hl
      go_wp2
      · go_ret
        exact ⟨ret_i (by rw [← hF.out, hS.out, if_pos (by first | omega | (simp_all; done) | (simp_all; omega))]), rfl⟩
      · go_round
        case rel => exact ⟨k + 1, by omega, by go_num, Lib.hid (by rw [← hF.out, hS.out, if_neg (by first | omega | (simp_all; done) | (simp_all; omega))])⟩
        case measure => simp [intOf]; omega
    · have hS : Hid (orV l = 0) := Lib.hid (by rw [← hF.out, drop_end (by omega)]; rfl)
      clear hl
      go_wp2
      go_ret
      exact ⟨ret_i (by rw [hS.out]), rfl⟩

/-! ## worth -/
def worthV (t : Trn) (n : Int) : Int := n - n * t.num / t.den - t.fixed
def Trn.ok (t : Trn) : Prop := 1 ≤ t.den ∧ t.den ≤ 10000 ∧ 0 ≤ t.num ∧ t.num ≤ t.den ∧ 0 ≤ t.fixed ∧ t.fixed ≤ 6000
/-! ## the check of one turn -/
def turnErr (t : Trn) : Int :=
  if ¬ (1 ≤ t.stroke ∧ t.stroke ≤ 5) then 4
  else if ¬ (50 ≤ t.metres ∧ t.metres ≤ 1500) ∨ ¬ (0 ≤ t.fixed ∧ t.fixed ≤ 6000) then 1
  else if ¬ (1 ≤ t.den ∧ t.den ≤ 10000) ∨ ¬ (0 ≤ t.num ∧ t.num ≤ t.den) ∨ (Int.gcd t.num t.den : Int) ≠ 1 then 3
  else 0
theorem turnErr_ok {t : Trn} (h : turnErr t = 0) : t.ok ∧ 1 ≤ t.stroke ∧ t.stroke ≤ 5 ∧ 50 ≤ t.metres ∧ t.metres ≤ 1500 := by
  unfold turnErr at h
  split at h
  · cases h
  · split at h
    · cases h
    · split at h
      · cases h
      · unfold Trn.ok; omega
theorem frac_same {a b : Int} (h : (Int.gcd a b : Int) = 1) : fracN a b = a ∧ fracD a b = b := by
  unfold fracN fracD; rw [h, Int.ediv_one, Int.ediv_one]; exact ⟨rfl, rfl⟩
theorem frac_diff {a b : Int} (hb : 1 ≤ b) (h : (Int.gcd a b : Int) ≠ 1) : fracD a b ≠ b := by
  unfold fracD
  have hp := gcd_pos (a := a) (b := b) (by omega)
  have : b / (Int.gcd a b : Int) < b := Int.ediv_lt_self_of_pos_of_ne_one (by omega) (by omega)
  omega
theorem within_q (a b c : Int) (w : World) : Calls Tryz.prog 107 #[.int .i64 a, .int .i64 b, .int .i64 c] w fun e w' => e = .returned (.bool (decide (b ≤ a ∧ a ≤ c))) ∧ w' = w := (within_c a b c w).mono fun _ _ ⟨h1, h2⟩ => ⟨h1, h2.symm⟩
end Go.Proofs.YtamcmehmcbjgjaaGreatDoor

/- The stream's turns. -/
namespace Go.Proofs.YtamcmehmcbjgjaaGreatDoor
open Go.RowKit
set_option linter.unusedVariables false

/-- a block of another element type than the row that is written -/
theorem blk_other_type {w w' : World} {base b : Nat} {e t : TypeId} {size n : Nat} {v : Value} {xs : List Value} {cs : Array Value} {fz : Nat × Nat} (h : w.heap[b]? = some (.cells cs t fz)) (hown : w.ownsRow base e size v n xs) (hne : e ≠ t) (hg : w.grownBy w' v.ownBlock) : w'.heap[b]? = some (.cells cs t fz) :=
  blk_grown h hg (fun he => by
    rcases hown.2 with ⟨rfl, _⟩ | ⟨g', cap, cur, rfl, _, hh, _⟩
    · simp [Value.ownBlock] at he
    · have e1 : b = g' := by simpa [Value.ownBlock] using he
      subst e1
      rw [h] at hh
      injection hh with hh
      injection hh with _ ht
      exact hne ht.symm)
theorem heap_alloc_at (w : World) (o : Obj) (z : Nat) (hz : w.heap.size = z) : (w.alloc o).heap[z]? = some o := by subst hz; exact heap_alloc_new w o
theorem trn_set : ∀ (l : List Trn) (k : Nat) (a b c : Int) (t : Trn), l[k]? = some t →
    (((l.flatMap trnE).set (k * 5) (.int .i64 a)).set (k * 5 + 1) (.int .i64 b)).set (k * 5 + 2) (.int .i64 c) = (l.set k ⟨a, b, c, t.den, t.fixed⟩).flatMap trnE
  | [], _, _, _, _, _, h => by simp at h
  | x :: l, 0, a, b, c, t, h => by
    obtain rfl : x = t := by simpa using h
    simp [trnE]
  | x :: l, k + 1, a, b, c, t, h => by
    have ih := trn_set l k a b c t (by simpa using h)
    have e : ∀ (m : List Value) (i : Nat) (v : Value), (trnE x ++ m).set ((k + 1) * 5 + i) v = trnE x ++ m.set (k * 5 + i) v := fun m i v => by
      rw [List.set_append_right _ _ (by show 5 ≤ _; omega)]
      congr 2
      show (k + 1) * 5 + i - 5 = _; omega
    rw [List.set_cons_succ, List.flatMap_cons, List.flatMap_cons, ← ih]
    have e0 := e (l.flatMap trnE) 0 (.int .i64 a)
    simp only [Nat.add_zero] at e0
    rw [e0, e, e]
def C14 (g b nv : Nat) (i : Nat) (w : World) (v : Value) : Prop :=
  match i with
  | 0 | 1 | 2 | 6 | 7 | 13 | 14 | 20 | 23 | 26 => v = .pointer (some ⟨b, nv * 5, none⟩)
  | 3 | 5 | 12 => v = .pointer (some ⟨g, 0, none⟩)
  | 8 | 24 => v = .pointer (some ⟨b, nv * 5 + 1, none⟩)
  | 15 | 16 | 27 | 28 => v = .pointer (some ⟨b, nv * 5 + 2, none⟩)
  | 21 => v = .pointer (some ⟨b, nv * 5, none⟩)
  | 4 | 9 | 11 | 17 | 19 => ∃ x : Int, v = .int .i64 x
  | 10 | 18 => ∃ z l, v = .slice (some ⟨z, 0, none⟩) 3 3 ∧ RI 3 w (some ⟨z, 0, none⟩) 3 l
  | _ => True
theorem C14.mono {g b nv : Nat} {w w1 : World} (hR : ∀ A n l, RI 3 w A n l → RI 3 w1 A n l) (i : Nat) (v : Value) (h : C14 g b nv i w v) : C14 g b nv i w1 v := by
  unfold C14 at h ⊢
  split at h <;> first | exact h | (obtain ⟨z, l, h1, h2⟩ := h; exact ⟨z, l, h1, hR _ _ _ h2⟩)
def rem14 (listed : Array Bool) : Nat := (if listed.getD 4 false then 0 else 2) + (if listed.getD 11 false then 0 else 2) + (if listed.getD 19 false then 0 else 2)
theorem rem14_pos (listed : Array Bool) : 0 ≤ rem14 listed := Nat.zero_le _
theorem rem14_set {listed : Array Bool} {i : Nat} (hi : i ≠ 4 ∧ i ≠ 11 ∧ i ≠ 19) : rem14 (listed.setIfInBounds i true) = rem14 listed := by
  unfold rem14; rw [getD_set_other _ hi.1, getD_set_other _ hi.2.1, getD_set_other _ hi.2.2]
theorem rem14_call {listed : Array Bool} {i : Nat} (hi : i = 4 ∨ i = 11 ∨ i = 19) (h : listed.getD i true = false) : rem14 (listed.setIfInBounds i true) + 2 = rem14 listed := by
  have his : i < listed.size := by
    rcases Nat.lt_or_ge i listed.size with h' | h'
    · exact h'
    · rw [Array.getD_eq_getD_getElem?, Array.getElem?_eq_none h'] at h; cases h
  have hf : listed.getD i false = false := by
    rw [Array.getD_eq_getD_getElem?, Array.getElem?_eq_getElem his] at h ⊢; exact h
  unfold rem14
  rcases hi with rfl | rfl | rfl
  · rw [getD_set_self', if_pos his, getD_set_other _ (by decide), getD_set_other _ (by decide), hf]; simp; omega
  · rw [getD_set_self', if_pos his, getD_set_other _ (by decide), getD_set_other _ (by decide), hf]; simp; omega
  · rw [getD_set_self', if_pos his, getD_set_other _ (by decide), getD_set_other _ (by decide), hf]; simp
/-- a block that is not the stream's own stays when the stream is asked -/
theorem blk_other_int {w w' : World} {b g : Nat} {zs : Zs} {k : Nat} {t : TypeId} {cs : Array Value} (h : w.heap[b]? = some (.cells cs t (0, 0))) (hs : St w g zs k) (hg : w.grownBy w' (some g)) (hne : t ≠ 25) : w'.heap[b]? = some (.cells cs t (0, 0)) := (hs.keep hg) b cs t (0, 0) hne h
end Go.Proofs.YtamcmehmcbjgjaaGreatDoor
