import Derived.Shelf.Sort.Plain
import Derived.Test.YtjafcnblgeibpaaGreatDoorSeedC
import Derived.Test.YtjafcnblgeibpaaGreatDoorFill
import Derived.Deep.RegionHeld3
import Derived.BigGuardPart
/- Signals as data; pad.checkSignal, pad.compare, tumbref1.bySignal, pad.CheckSignals, tumbref1.SignalsFault. Printed by wip/gensig.py. -/
namespace Go.Proofs.YtjafcnblgeibpaaGreatDoor
open Go.RowKit Go.Shelf Go.Lib Go.Sort
open Go.Maps (Keyed string_keyed)
open Go.WideMaps (keyOf_string_mk)
set_option linter.unusedVariables false

structure Sg where
  dev : ByteArray
  no : Int
  kind : Int
  tm : Int
  lane : Int
  time : Int
instance : Inhabited Sg := ⟨⟨⟨#[]⟩, 0, 0, 0, 0, 0⟩⟩
def sgE (x : Sg) : List Value := [.string x.dev, .int .i64 x.no, .int .i64 x.kind, .int .i64 x.tm, .int .i64 x.lane, .int .i64 x.time]
theorem sgE_len : ∀ x, (sgE x).length = 6 := fun _ => rfl
def Sg.cells (x : Sg) : Array Value := #[.string x.dev, .int .i64 x.no, .int .i64 x.kind, .int .i64 x.tm, .int .i64 x.lane, .int .i64 x.time]
def Sg.val (x : Sg) : Value := .agg #[.string x.dev, .int .i64 x.no, .int .i64 x.kind, .int .i64 x.tm, .int .i64 x.lane, .int .i64 x.time]
theorem orP_c (A : Option Addr) (n c : Nat) (l : List Int) (w : World) (h : RI 3 w A n l) :
    Calls Tryz.prog 167 #[.slice A n c] w fun e w' => e = .returned (.int .i64 (orV l)) ∧ w = w' := by
  have hl := h.len
  have hb := h.bd
  go_enter Tryz.func167, Tryz.ntmps167
  go_wp2
  go_loop [8] (fun i => ∃ k : Nat, k ≤ n ∧ i = .int .i64 k ∧ Hid (orV (l.drop k) = orV l)) (fun i => n - (intOf i).toNat)
  case atStart => exact ⟨0, Nat.zero_le _, rfl, Lib.hid rfl⟩
  case round =>
    obtain ⟨k, hk, rfl, hF⟩ := hrel
    by_cases hlt : k < n
    · obtain ⟨b, off, x, rfl, _, hx, hcell⟩ := h.at_ hlt
      have hS := Lib.hid (orV_at hx)
      clear hx h hl
      go_wp2
      · go_ret
        exact ⟨ret_i (by rw [← hF.out, hS.out, if_pos (by first | omega | (simp_all; done) | (simp_all; omega))]), rfl⟩
      · go_round
        case rel => exact ⟨k + 1, by omega, by go_num, Lib.hid (by rw [← hF.out, hS.out, if_neg (by first | omega | (simp_all; done) | (simp_all; omega))])⟩
        case measure => simp [intOf]; omega
    · have hS : Hid (orV l = 0) := Lib.hid (by rw [← hF.out, drop_end (by omega)]; rfl)
      clear hl
      go_wp2
      go_ret
      exact ⟨ret_i (by rw [hS.out]), rfl⟩
def cmpB (a b : ByteArray) : Int := Lib.compareBytes a.data.toList b.data.toList
def sgCf (x y : Sg) : Int := orV [cmpB x.dev y.dev, Lib.compareInt x.no y.no]
theorem sgCf_val (x y : Sg) : sgCf x y = if cmpB x.dev y.dev ≠ 0 then cmpB x.dev y.dev else Lib.compareInt x.no y.no := by
  unfold sgCf
  simp only [orV]
  split
  · rfl
  · split <;> omega
theorem alloc_sizeS (w : World) (o : Obj) : (w.alloc o).heap.size = w.heap.size + 1 := by simp
theorem isMoment_c (n : Int) (w : World) : Calls Tryz.prog 114 #[.int .i64 n] w fun e w' => e = .returned (.bool (decide (0 ≤ n ∧ n ≤ 345686399999))) ∧ w = w' := by
  by_cases h0 : 0 ≤ n
  · by_cases h1 : n < 345686400000
    · have e : decide (0 ≤ n ∧ n ≤ 345686399999) = true := decide_eq_true (by omega)
      rw [e]
      exact moment_c n w h0 h1
    · have e : decide (0 ≤ n ∧ n ≤ 345686399999) = false := decide_eq_false (by omega)
      rw [e]
      clear e
      go_enter Tryz.func114, Tryz.ntmps114
      go_wp2
      go_ret
      exact ⟨rfl, rfl⟩
  · have e : decide (0 ≤ n ∧ n ≤ 345686399999) = false := decide_eq_false (by omega)
    rw [e]
    clear e
    go_enter Tryz.func114, Tryz.ntmps114
    go_wp2
    go_ret
    exact ⟨rfl, rfl⟩
theorem momentFault_c (n : Int) (w : World) : Calls Tryz.prog 46 #[.int .i64 n] w fun e w' => e = .returned (.int .i64 (if 0 ≤ n ∧ n ≤ 345686399999 then 0 else 1)) ∧ w = w' := by
  by_cases h0 : 0 ≤ n ∧ n ≤ 345686399999
  · have e : decide (0 ≤ n ∧ n ≤ 345686399999) = true := decide_eq_true h0
    rw [if_pos h0]
    clear h0
    go_enter Tryz.func46, Tryz.ntmps46
    go_wp2_with (go_at_call 81; refine (in_c _ _ _ _).mono ?_; rintro e w' ⟨rfl, rfl⟩; rw [e])
    go_ret
    exact ⟨rfl, rfl⟩
  · have e : decide (0 ≤ n ∧ n ≤ 345686399999) = false := decide_eq_false h0
    rw [if_neg h0]
    clear h0
    go_enter Tryz.func46, Tryz.ntmps46
    go_wp2_with (go_at_call 81; refine (in_c _ _ _ _).mono ?_; rintro e w' ⟨rfl, rfl⟩; rw [e])
    go_ret
    exact ⟨rfl, rfl⟩
/-- the error of a signal alone -/
def sg1 (x : Sg) : Int :=
  if keyB x.dev = false then 5
  else if ¬ (1 ≤ x.kind ∧ x.kind ≤ 4) then 4
  else if ¬ (1 ≤ x.no ∧ x.no ≤ 3000) then 1
  else if ¬ (0 ≤ x.tm ∧ x.tm ≤ 345686399999) then 1
  else if x.kind = 1 ∧ x.lane ≠ 0 then 1
  else if x.kind ≠ 1 ∧ ¬ (1 ≤ x.lane ∧ x.lane ≤ 10) then 1
  else if x.kind = 4 ∧ ¬ (1 ≤ x.time ∧ x.time ≤ 360000) then 1
  else if x.kind ≠ 4 ∧ x.time ≠ 0 then 3 else 0
theorem sg1_ok {x : Sg} (h : sg1 x = 0) : keyB x.dev = true ∧ (1 ≤ x.kind ∧ x.kind ≤ 4) ∧ (1 ≤ x.no ∧ x.no ≤ 3000) ∧ (0 ≤ x.tm ∧ x.tm ≤ 345686399999) := by
  unfold sg1 at h
  split at h
  · cases h
  split at h
  · cases h
  split at h
  · cases h
  split at h
  · cases h
  rename_i h1 h2 h3 h4
  exact ⟨by simpa using h1, Decidable.not_not.1 h2, Decidable.not_not.1 h3, Decidable.not_not.1 h4⟩
end Go.Proofs.YtjafcnblgeibpaaGreatDoor

/- pad.CheckSignals, tumbref1.SignalsFault. Printed by wip/gensig.py. -/
namespace Go.Proofs.YtjafcnblgeibpaaGreatDoor
open Go.RowKit Go.Shelf Go.Lib Go.Sort
open Go.Maps (Keyed string_keyed)
open Go.WideMaps (keyOf_string_mk)
set_option linter.unusedVariables false

def prevSg (l : List Sg) (k : Nat) : Option Sg := if k = 0 then none else l[k - 1]?
def badSg (o : Option Sg) (x : Sg) : Bool := match o with | some y => decide (0 ≤ sgCf y x) | none => false
/-- signals, one after the other; the map of the devices that were seen -/
def sigGo : DataW Unit → Option Sg → List Sg → Int
  | D, _, [] => if 40 < Go.Maps.size D then 2 else 0
  | D, o, x :: r => if sg1 x ≠ 0 then sg1 x else if badSg o x = true then 7 else sigGo (D.put (.string x.dev.data.toList) (.lit (.bool true))) (some x) r
def sigErr (l : List Sg) : Int := if 3000 < l.length then 2 else sigGo (.map []) none l
theorem sigGo_at {l : List Sg} {k : Nat} {x : Sg} (D : DataW Unit) (h : l[k]? = some x) : sigGo D (prevSg l k) (l.drop k) = if sg1 x ≠ 0 then sg1 x else if badSg (prevSg l k) x = true then 7 else sigGo (D.put (.string x.dev.data.toList) (.lit (.bool true))) (prevSg l (k + 1)) (l.drop (k + 1)) := by
  have e : prevSg l (k + 1) = some x := by unfold prevSg; rw [if_neg (by omega)]; exact h
  rw [drop_at h, e]
  rfl
/-- what is known of the signal ahead -/
def PrevK (w : World) (b off : Nat) (l : List Sg) (k : Nat) : Prop := (k = 0 ∧ prevSg l k = none) ∨ (1 ≤ k ∧ ∃ y, prevSg l k = some y ∧ w.cell? ⟨b, off + (k - 1) * 6, none⟩ = some (.string y.dev) ∧ w.cell? ⟨b, off + (k - 1) * 6 + 1, none⟩ = some (.int .i64 y.no) ∧ w.cell? ⟨b, off + (k - 1) * 6 + 2, none⟩ = some (.int .i64 y.kind) ∧ w.cell? ⟨b, off + (k - 1) * 6 + 3, none⟩ = some (.int .i64 y.tm) ∧ w.cell? ⟨b, off + (k - 1) * 6 + 4, none⟩ = some (.int .i64 y.lane) ∧ w.cell? ⟨b, off + (k - 1) * 6 + 5, none⟩ = some (.int .i64 y.time))
end Go.Proofs.YtjafcnblgeibpaaGreatDoor
