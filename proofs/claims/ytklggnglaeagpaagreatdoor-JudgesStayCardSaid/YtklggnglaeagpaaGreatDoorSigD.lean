import Derived.Shelf.Sort.Plain
import Derived.Test.YtklggnglaeagpaaGreatDoorSeedM
import Derived.Test.YtklggnglaeagpaaGreatDoorFill
import Derived.Deep.RegionHeld3
import Derived.BigGuardPart
/- Signals as data; pad.checkSignal, pad.compare, tumbref1.bySignal, pad.CheckSignals, tumbref1.SignalsFault. Printed by wip/gensig.py. -/
namespace Go.Proofs.YtklggnglaeagpaaGreatDoor
open Go.RowKit Go.Shelf Go.Lib Go.Sort
open Go.Maps (Keyed string_keyed)
open Go.WideMaps (keyOf_string_mk)
set_option linter.unusedVariables false

structure Sg where
  dev : ByteArray
  no : Int
  kind : Int
  tm : Int
  lane : Int
  time : Int
instance : Inhabited Sg := ⟨⟨⟨#[]⟩, 0, 0, 0, 0, 0⟩⟩
def sgE (x : Sg) : List Value := [.string x.dev, .int .i64 x.no, .int .i64 x.kind, .int .i64 x.tm, .int .i64 x.lane, .int .i64 x.time]
theorem sgE_len : ∀ x, (sgE x).length = 6 := fun _ => rfl
def Sg.cells (x : Sg) : Array Value := #[.string x.dev, .int .i64 x.no, .int .i64 x.kind, .int .i64 x.tm, .int .i64 x.lane, .int .i64 x.time]
def Sg.val (x : Sg) : Value := .agg #[.string x.dev, .int .i64 x.no, .int .i64 x.kind, .int .i64 x.tm, .int .i64 x.lane, .int .i64 x.time]
theorem orP_c (A : Option Addr) (n c : Nat) (l : List Int) (w : World) (h : RI 3 w A n l) :
    Calls Tryz.prog 234 #[.slice A n c] w fun e w' => e = .returned (.int .i64 (orV l)) ∧ w = w' := by
  have hl := h.len
  have hb := h.bd
  go_enter Tryz.func234, Tryz.ntmps234
  go_wp2
  go_loop [8] (fun i => ∃ k : Nat, k ≤ n ∧ i = .int .i64 k ∧ Hid (orV (l.drop k) = orV l)) (fun i => n - (intOf i).toNat)
  case atStart => exact ⟨0, Nat.zero_le _, rfl, Lib.hid rfl⟩
  case round =>
    obtain ⟨k, hk, rfl, hF⟩ := hrel
    by_cases hlt : k < n
    · obtain ⟨b, off, x, rfl, _, hx, hcell⟩ := h.at_ hlt
      have hS := Lib.hid (orV_at hx)
      clear hx h hl
      go_wp2
      · go_ret
        exact ⟨ret_i (by rw [← hF.out, hS.out, if_pos (by first | omega | (simp_all; done) | (simp_all; omega))]), rfl⟩
      · go_round
        case rel => exact ⟨k + 1, by omega, by go_num, Lib.hid (by rw [← hF.out, hS.out, if_neg (by first | omega | (simp_all; done) | (simp_all; omega))])⟩
        case measure => simp [intOf]; omega
    · have hS : Hid (orV l = 0) := Lib.hid (by rw [← hF.out, drop_end (by omega)]; rfl)
      clear hl
      go_wp2
      go_ret
      exact ⟨ret_i (by rw [hS.out]), rfl⟩
def cmpB (a b : ByteArray) : Int := Lib.compareBytes a.data.toList b.data.toList
theorem cb_self : ∀ a : List UInt8, Lib.compareBytes a a = 0
  | [] => rfl
  | x :: a => by
    unfold Lib.compareBytes
    have h : ¬ x < x := by simp
    rw [if_neg h, if_neg h]
    exact cb_self a
theorem cb_zero : ∀ a b : List UInt8, Lib.compareBytes a b = 0 → a = b
  | [], [], _ => rfl
  | [], _ :: _, h => by simp [Lib.compareBytes] at h
  | _ :: _, [], h => by simp [Lib.compareBytes] at h
  | x :: a, y :: b, h => by
    unfold Lib.compareBytes at h
    split at h
    · simp at h
    · split at h
      · simp at h
      · rename_i h1 h2
        rw [UInt8.lt_iff_toNat_lt] at h1 h2
        have e : x = y := UInt8.toNat_inj.1 (by omega)
        rw [e, cb_zero a b h]
theorem cb_neg : ∀ a b : List UInt8, Lib.compareBytes a b < 0 ↔ 0 < Lib.compareBytes b a
  | [], [] => by simp [Lib.compareBytes]
  | [], _ :: _ => by simp [Lib.compareBytes]
  | _ :: _, [] => by simp [Lib.compareBytes]
  | x :: a, y :: b => by
    unfold Lib.compareBytes
    by_cases h1 : x < y
    · have h2 : ¬ y < x := by rw [UInt8.lt_iff_toNat_lt] at *; omega
      rw [if_pos h1, if_neg h2, if_pos h1]; omega
    · by_cases h2 : y < x
      · rw [if_neg h1, if_pos h2, if_pos h2]; omega
      · rw [if_neg h1, if_neg h2, if_neg h2, if_neg h1]
        exact cb_neg a b
theorem cb_trans : ∀ a b c : List UInt8, Lib.compareBytes a b < 0 → Lib.compareBytes b c < 0 → Lib.compareBytes a c < 0
  | [], [], c, h1, h2 => by simp [Lib.compareBytes] at h1
  | [], _ :: _, [], h1, h2 => by simp [Lib.compareBytes] at h2
  | [], _ :: _, _ :: _, _, _ => by simp [Lib.compareBytes]
  | _ :: _, [], _, h1, _ => by simp [Lib.compareBytes] at h1
  | _ :: _, _ :: _, [], _, h2 => by simp [Lib.compareBytes] at h2
  | x :: a, y :: b, z :: c, h1, h2 => by
    unfold Lib.compareBytes at *
    simp only [UInt8.lt_iff_toNat_lt] at *
    by_cases a1 : x.toNat < y.toNat
    · by_cases b1 : y.toNat < z.toNat
      · rw [if_pos (by omega)]; omega
      · rw [if_neg b1] at h2
        by_cases b2 : z.toNat < y.toNat
        · rw [if_pos b2] at h2; omega
        · rw [if_pos (by omega)]; omega
    · rw [if_neg a1] at h1
      by_cases a2 : y.toNat < x.toNat
      · rw [if_pos a2] at h1; omega
      · rw [if_neg a2] at h1
        by_cases b1 : y.toNat < z.toNat
        · rw [if_pos (by omega)]; omega
        · rw [if_neg b1] at h2
          by_cases b2 : z.toNat < y.toNat
          · rw [if_pos b2] at h2; omega
          · rw [if_neg b2] at h2
            rw [if_neg (by omega), if_neg (by omega)]
            exact cb_trans a b c h1 h2
theorem cmpB_zero {a b : ByteArray} : cmpB a b = 0 ↔ a = b := by
  constructor
  · intro h
    have h3 := cb_zero _ _ h
    cases a; cases b
    simpa using h3
  · rintro rfl; exact cb_self _
theorem cmpB_neg {a b : ByteArray} : cmpB a b < 0 ↔ 0 < cmpB b a := cb_neg _ _
theorem cmpB_trans {a b c : ByteArray} (h1 : cmpB a b < 0) (h2 : cmpB b c < 0) : cmpB a c < 0 := cb_trans _ _ _ h1 h2
theorem alloc_sizeS (w : World) (o : Obj) : (w.alloc o).heap.size = w.heap.size + 1 := by simp
theorem isMoment_c (n : Int) (w : World) : Calls Tryz.prog 150 #[.int .i64 n] w fun e w' => e = .returned (.bool (decide (0 ≤ n ∧ n ≤ 345686399999))) ∧ w = w' := by
  by_cases h0 : 0 ≤ n
  · by_cases h1 : n < 345686400000
    · have e : decide (0 ≤ n ∧ n ≤ 345686399999) = true := decide_eq_true (by omega)
      rw [e]
      exact moment_c n w h0 h1
    · have e : decide (0 ≤ n ∧ n ≤ 345686399999) = false := decide_eq_false (by omega)
      rw [e]
      clear e
      go_enter Tryz.func150, Tryz.ntmps150
      go_wp2
      go_ret
      exact ⟨rfl, rfl⟩
  · have e : decide (0 ≤ n ∧ n ≤ 345686399999) = false := decide_eq_false (by omega)
    rw [e]
    clear e
    go_enter Tryz.func150, Tryz.ntmps150
    go_wp2
    go_ret
    exact ⟨rfl, rfl⟩
theorem momentFault_c (n : Int) (w : World) : Calls Tryz.prog 176 #[.int .i64 n] w fun e w' => e = .returned (.int .i64 (if 0 ≤ n ∧ n ≤ 345686399999 then 0 else 1)) ∧ w = w' := by
  by_cases h0 : 0 ≤ n ∧ n ≤ 345686399999
  · have e : decide (0 ≤ n ∧ n ≤ 345686399999) = true := decide_eq_true h0
    rw [if_pos h0]
    clear h0
    go_enter Tryz.func176, Tryz.ntmps176
    go_wp2_with (go_at_call 115; refine (in_c _ _ _ _).mono ?_; rintro e w' ⟨rfl, rfl⟩; rw [e])
    go_ret
    exact ⟨rfl, rfl⟩
  · have e : decide (0 ≤ n ∧ n ≤ 345686399999) = false := decide_eq_false h0
    rw [if_neg h0]
    clear h0
    go_enter Tryz.func176, Tryz.ntmps176
    go_wp2_with (go_at_call 115; refine (in_c _ _ _ _).mono ?_; rintro e w' ⟨rfl, rfl⟩; rw [e])
    go_ret
    exact ⟨rfl, rfl⟩
end Go.Proofs.YtklggnglaeagpaaGreatDoor

/- pad.CheckSignals, tumbref1.SignalsFault. Printed by wip/gensig.py. -/
namespace Go.Proofs.YtklggnglaeagpaaGreatDoor
open Go.RowKit Go.Shelf Go.Lib Go.Sort
open Go.Maps (Keyed string_keyed)
open Go.WideMaps (keyOf_string_mk)
set_option linter.unusedVariables false

end Go.Proofs.YtklggnglaeagpaaGreatDoor
