import Derived.Shelf.Sort.Plain
import Derived.Test.YtnkhdofcmanipaaGreatDoorFaSeedM
import Derived.Test.YtnkhdofcmanipaaGreatDoorFaReady4
import Derived.Deep.RegionHeld3
import Derived.BigGuardPart
/- Signals as data; pad.checkSignal, pad.compare, tumbref1.bySignal, pad.CheckSignals, tumbref1.SignalsFault. Printed by wip/gensig.py. -/
namespace Go.Proofs.YtnkhdofcmanipaaGreatDoor
open Go.RowKit Go.Shelf Go.Lib Go.Sort
open Go.Maps (Keyed string_keyed)
open Go.WideMaps (keyOf_string_mk)
set_option linter.unusedVariables false

structure Sg where
  dev : ByteArray
  no : Int
  kind : Int
  tm : Int
  lane : Int
  time : Int
instance : Inhabited Sg := ⟨⟨⟨#[]⟩, 0, 0, 0, 0, 0⟩⟩
def sgE (x : Sg) : List Value := [.string x.dev, .int .i64 x.no, .int .i64 x.kind, .int .i64 x.tm, .int .i64 x.lane, .int .i64 x.time]
theorem sgE_len : ∀ x, (sgE x).length = 6 := fun _ => rfl
def Sg.cells (x : Sg) : Array Value := #[.string x.dev, .int .i64 x.no, .int .i64 x.kind, .int .i64 x.tm, .int .i64 x.lane, .int .i64 x.time]
def Sg.val (x : Sg) : Value := .agg #[.string x.dev, .int .i64 x.no, .int .i64 x.kind, .int .i64 x.tm, .int .i64 x.lane, .int .i64 x.time]
abbrev RSg (w : World) (A : Option Addr) (n : Nat) (l : List Sg) : Prop := RN 6 sgE 89 w A n l
theorem RSg_at6 {w : World} {A : Option Addr} {n : Nat} {l : List Sg} (h : RSg w A n l) {k : Nat} (hk : k < n) : ∃ b off x, A = some ⟨b, off, none⟩ ∧ b < w.heap.size ∧ l[k]? = some x ∧ w.cell? ⟨b, off + k * 6, none⟩ = some (.string x.dev) ∧ w.cell? ⟨b, off + k * 6 + 1, none⟩ = some (.int .i64 x.no) ∧ w.cell? ⟨b, off + k * 6 + 2, none⟩ = some (.int .i64 x.kind) ∧ w.cell? ⟨b, off + k * 6 + 3, none⟩ = some (.int .i64 x.tm) ∧ w.cell? ⟨b, off + k * 6 + 4, none⟩ = some (.int .i64 x.lane) ∧ w.cell? ⟨b, off + k * 6 + 5, none⟩ = some (.int .i64 x.time) := by
  obtain ⟨b, off, x, hA, hb, hx, hc⟩ := h.at_ hk
  exact ⟨b, off, x, hA, hb, hx, hc 0 _ rfl, hc 1 _ rfl, hc 2 _ rfl, hc 3 _ rfl, hc 4 _ rfl, hc 5 _ rfl⟩
theorem info_signal : (Tryz.prog.info? 89).map (fun i => (i.zero, i.size, i.bytes)) = some (some (.agg #[.string ⟨#[]⟩, .int .i64 0, .int .i64 0, .int .i64 0, .int .i64 0, .int .i64 0]), 6, 56) := by kernel_rfl
theorem orP_c (A : Option Addr) (n c : Nat) (l : List Int) (w : World) (h : RI 3 w A n l) :
    Calls Tryz.prog 107 #[.slice A n c] w fun e w' => e = .returned (.int .i64 (orV l)) ∧ w = w' := by
  have hl := h.len
  have hb := h.bd
  go_enter Tryz.func107, Tryz.ntmps107
  go_wp2
  go_loop [8] (fun i => ∃ k : Nat, k ≤ n ∧ i = .int .i64 k ∧ Hid (orV (l.drop k) = orV l)) (fun i => n - (intOf i).toNat)
  case atStart => exact ⟨0, Nat.zero_le _, rfl, Lib.hid rfl⟩
  case round =>
    obtain ⟨k, hk, rfl, hF⟩ := hrel
    by_cases hlt : k < n
    · obtain ⟨b, off, x, rfl, _, hx, hcell⟩ := h.at_ hlt
      have hS := Lib.hid (orV_at hx)
      clear hx h hl
      go_wp2
      · go_ret
        exact ⟨ret_i (by rw [← hF.out, hS.out, if_pos (by first | omega | (simp_all; done) | (simp_all; omega))]), rfl⟩
      · go_round
        case rel => exact ⟨k + 1, by omega, by go_num, Lib.hid (by rw [← hF.out, hS.out, if_neg (by first | omega | (simp_all; done) | (simp_all; omega))])⟩
        case measure => simp [intOf]; omega
    · have hS : Hid (orV l = 0) := Lib.hid (by rw [← hF.out, drop_end (by omega)]; rfl)
      clear hl
      go_wp2
      go_ret
      exact ⟨ret_i (by rw [hS.out]), rfl⟩
def cmpB (a b : ByteArray) : Int := Lib.compareBytes a.data.toList b.data.toList
def sgCf (x y : Sg) : Int := orV [cmpB x.dev y.dev, Lib.compareInt x.no y.no]
theorem cb_self : ∀ a : List UInt8, Lib.compareBytes a a = 0
  | [] => rfl
  | x :: a => by
    unfold Lib.compareBytes
    have h : ¬ x < x := by simp
    rw [if_neg h, if_neg h]
    exact cb_self a
theorem cb_zero : ∀ a b : List UInt8, Lib.compareBytes a b = 0 → a = b
  | [], [], _ => rfl
  | [], _ :: _, h => by simp [Lib.compareBytes] at h
  | _ :: _, [], h => by simp [Lib.compareBytes] at h
  | x :: a, y :: b, h => by
    unfold Lib.compareBytes at h
    split at h
    · simp at h
    · split at h
      · simp at h
      · rename_i h1 h2
        rw [UInt8.lt_iff_toNat_lt] at h1 h2
        have e : x = y := UInt8.toNat_inj.1 (by omega)
        rw [e, cb_zero a b h]
theorem cb_neg : ∀ a b : List UInt8, Lib.compareBytes a b < 0 ↔ 0 < Lib.compareBytes b a
  | [], [] => by simp [Lib.compareBytes]
  | [], _ :: _ => by simp [Lib.compareBytes]
  | _ :: _, [] => by simp [Lib.compareBytes]
  | x :: a, y :: b => by
    unfold Lib.compareBytes
    by_cases h1 : x < y
    · have h2 : ¬ y < x := by rw [UInt8.lt_iff_toNat_lt] at *; omega
      rw [if_pos h1, if_neg h2, if_pos h1]; omega
    · by_cases h2 : y < x
      · rw [if_neg h1, if_pos h2, if_pos h2]; omega
      · rw [if_neg h1, if_neg h2, if_neg h2, if_neg h1]
        exact cb_neg a b
theorem cb_trans : ∀ a b c : List UInt8, Lib.compareBytes a b < 0 → Lib.compareBytes b c < 0 → Lib.compareBytes a c < 0
  | [], [], c, h1, h2 => by simp [Lib.compareBytes] at h1
  | [], _ :: _, [], h1, h2 => by simp [Lib.compareBytes] at h2
  | [], _ :: _, _ :: _, _, _ => by simp [Lib.compareBytes]
  | _ :: _, [], _, h1, _ => by simp [Lib.compareBytes] at h1
  | _ :: _, _ :: _, [], _, h2 => by simp [Lib.compareBytes] at h2
  | x :: a, y :: b, z :: c, h1, h2 => by
    unfold Lib.compareBytes at *
    simp only [UInt8.lt_iff_toNat_lt] at *
    by_cases a1 : x.toNat < y.toNat
    · by_cases b1 : y.toNat < z.toNat
      · rw [if_pos (by omega)]; omega
      · rw [if_neg b1] at h2
        by_cases b2 : z.toNat < y.toNat
        · rw [if_pos b2] at h2; omega
        · rw [if_pos (by omega)]; omega
    · rw [if_neg a1] at h1
      by_cases a2 : y.toNat < x.toNat
      · rw [if_pos a2] at h1; omega
      · rw [if_neg a2] at h1
        by_cases b1 : y.toNat < z.toNat
        · rw [if_pos (by omega)]; omega
        · rw [if_neg b1] at h2
          by_cases b2 : z.toNat < y.toNat
          · rw [if_pos b2] at h2; omega
          · rw [if_neg b2] at h2
            rw [if_neg (by omega), if_neg (by omega)]
            exact cb_trans a b c h1 h2
theorem cmpB_zero {a b : ByteArray} : cmpB a b = 0 ↔ a = b := by
  constructor
  · intro h
    have h3 := cb_zero _ _ h
    cases a; cases b
    simpa using h3
  · rintro rfl; exact cb_self _
theorem cmpB_neg {a b : ByteArray} : cmpB a b < 0 ↔ 0 < cmpB b a := cb_neg _ _
theorem cmpB_trans {a b c : ByteArray} (h1 : cmpB a b < 0) (h2 : cmpB b c < 0) : cmpB a c < 0 := cb_trans _ _ _ h1 h2
theorem alloc_sizeS (w : World) (o : Obj) : (w.alloc o).heap.size = w.heap.size + 1 := by simp
theorem isMoment_c (n : Int) (w : World) : Calls Tryz.prog 123 #[.int .i64 n] w fun e w' => e = .returned (.bool (decide (0 ≤ n ∧ n ≤ 345686399999))) ∧ w = w' := by
  by_cases h0 : 0 ≤ n
  · by_cases h1 : n < 345686400000
    · have e : decide (0 ≤ n ∧ n ≤ 345686399999) = true := decide_eq_true (by omega)
      rw [e]
      exact moment_c n w h0 h1
    · have e : decide (0 ≤ n ∧ n ≤ 345686399999) = false := decide_eq_false (by omega)
      rw [e]
      clear e
      go_enter Tryz.func123, Tryz.ntmps123
      go_wp2
      go_ret
      exact ⟨rfl, rfl⟩
  · have e : decide (0 ≤ n ∧ n ≤ 345686399999) = false := decide_eq_false (by omega)
    rw [e]
    clear e
    go_enter Tryz.func123, Tryz.ntmps123
    go_wp2
    go_ret
    exact ⟨rfl, rfl⟩
theorem momentFault_c (n : Int) (w : World) : Calls Tryz.prog 82 #[.int .i64 n] w fun e w' => e = .returned (.int .i64 (if 0 ≤ n ∧ n ≤ 345686399999 then 0 else 1)) ∧ w = w' := by
  by_cases h0 : 0 ≤ n ∧ n ≤ 345686399999
  · have e : decide (0 ≤ n ∧ n ≤ 345686399999) = true := decide_eq_true h0
    rw [if_pos h0]
    clear h0
    go_enter Tryz.func82, Tryz.ntmps82
    go_wp2_with (go_at_call 50; refine (in_c _ _ _ _).mono ?_; rintro e w' ⟨rfl, rfl⟩; rw [e])
    go_ret
    exact ⟨rfl, rfl⟩
  · have e : decide (0 ≤ n ∧ n ≤ 345686399999) = false := decide_eq_false h0
    rw [if_neg h0]
    clear h0
    go_enter Tryz.func82, Tryz.ntmps82
    go_wp2_with (go_at_call 50; refine (in_c _ _ _ _).mono ?_; rintro e w' ⟨rfl, rfl⟩; rw [e])
    go_ret
    exact ⟨rfl, rfl⟩
set_option maxRecDepth 100000 in
theorem sgCompare_c (x y : Sg) (W : World) : Calls Tryz.prog 113 #[.agg (sgE x).toArray, .agg (sgE y).toArray] W fun e w' => e = .returned (.int .i64 (sgCf x y)) ∧ Below W.heap.size W w' ∧ W.drawn ≤ w'.drawn := by
  have hV := Lib.hid (show sgCf x y = orV [cmpB x.dev y.dev, Lib.compareInt x.no y.no] from rfl)
  generalize sgCf x y = V at *
  obtain ⟨a, b, c, d, f, t⟩ := x
  obtain ⟨a', b', c', d', f', t'⟩ := y
  dsimp only [sgE] at *
  have hC := Lib.hid (fun W => show Calls Tryz.prog 56 #[.int .i64 b, .int .i64 b'] W fun e w' => e = .returned (.int .i64 (Lib.compareInt b b')) ∧ W = w' from (Tryz.cmp_Compare_int b b' W).mono fun _ _ ⟨h1, h2⟩ => ⟨h1, h2.symm⟩)
  have hS := Lib.hid (fun W => show Calls Tryz.prog 75 #[.string a, .string a'] W fun e w' => e = .returned (.int .i64 (cmpB a a')) ∧ W = w' from (Tryz.strings_Compare a a' W).mono fun _ _ ⟨h1, h2⟩ => ⟨h1, h2.symm⟩)
  generalize hu : cmpB a a' = u at *
  generalize hv : Lib.compareInt b b' = v at *
  clear hu hv
  have hb0 := heap_alloc_new W (.cells #[.string a, .int .i64 b, .int .i64 c, .int .i64 d, .int .i64 f, .int .i64 t] 89)
  have hb1 := blk_alloc hb0 (.cells #[.string a', .int .i64 b', .int .i64 c', .int .i64 d', .int .i64 f', .int .i64 t'] 89)
  have hb2 := heap_alloc_new (W.alloc (.cells #[.string a, .int .i64 b, .int .i64 c, .int .i64 d, .int .i64 f, .int .i64 t] 89)) (.cells #[.string a', .int .i64 b', .int .i64 c', .int .i64 d', .int .i64 f', .int .i64 t'] 89)
  rw [alloc_sizeS] at hb2
  have hBB := below_box (below_box (Below.refl ((W.alloc (.cells #[.string a, .int .i64 b, .int .i64 c, .int .i64 d, .int .i64 f, .int .i64 t] 89)).alloc (.cells #[.string a', .int .i64 b', .int .i64 c', .int .i64 d', .int .i64 f', .int .i64 t'] 89)).heap.size _))
  have hD : ((W.alloc (.cells #[.string a, .int .i64 b, .int .i64 c, .int .i64 d, .int .i64 f, .int .i64 t] 89)).alloc (.cells #[.string a', .int .i64 b', .int .i64 c', .int .i64 d', .int .i64 f', .int .i64 t'] 89)).drawn = W.drawn := rfl
  go_enter Tryz.func113, Tryz.ntmps113
  go_wp2_with fail
  generalize (W.alloc (.cells #[.string a, .int .i64 b, .int .i64 c, .int .i64 d, .int .i64 f, .int .i64 t] 89)).alloc (.cells #[.string a', .int .i64 b', .int .i64 c', .int .i64 d', .int .i64 f', .int .i64 t'] 89) = w5 at *
  generalize hbx : W.heap.size = bx at *
  have z0 := (blk_facts hb1).1 0
  have z1 := (blk_facts hb1).1 1
  have y0 := (blk_facts hb2).1 0
  have y1 := (blk_facts hb2).1 1
  clear hb0
  go_region_held3 (fun w' => w'.cell? ⟨bx, 0, none⟩ = some (.string a) ∧ w'.cell? ⟨bx, 1, none⟩ = some (.int .i64 b) ∧ w'.cell? ⟨bx + 1, 0, none⟩ = some (.string a') ∧ w'.cell? ⟨bx + 1, 1, none⟩ = some (.int .i64 b')) (go_keep)
    (first
      | (go_at_call 75; refine (hS.out _).mono ?_; rintro e w' ⟨rfl, rfl⟩)
      | (go_at_call 56; refine (hC.out _).mono ?_; rintro e w' ⟨rfl, rfl⟩)
      | (go_at_call 107; refine (orP_c _ _ _ [u, v] _ (R1.litAt _ _ _ _ (by simp) rfl (by simp)).drew).mono ?_; rintro e w' ⟨rfl, rfl⟩))
  have hz := below_drewN (hBB.alloc (by have := hBB.size; omega) (.cells #[.int .i64 u, .int .i64 v] 3)) 1
  go_wp2
  go_ret
  exact ⟨ret_i hV.out.symm, hbx ▸ hz, by show W.drawn ≤ w5.drawn + 1; omega⟩
set_option maxRecDepth 100000 in
theorem bySignal_c (x y : Sg) (W : World) : Calls Tryz.prog 83 #[.agg (sgE x).toArray, .agg (sgE y).toArray] W fun e w' => e = .returned (.int .i64 (sgCf x y)) ∧ Below W.heap.size W w' ∧ W.drawn ≤ w'.drawn := by
  have hV := Lib.hid (show sgCf x y = orV [cmpB x.dev y.dev, Lib.compareInt x.no y.no] from rfl)
  generalize sgCf x y = V at *
  obtain ⟨a, b, c, d, f, t⟩ := x
  obtain ⟨a', b', c', d', f', t'⟩ := y
  dsimp only [sgE] at *
  have hC := Lib.hid (fun W => show Calls Tryz.prog 56 #[.int .i64 b, .int .i64 b'] W fun e w' => e = .returned (.int .i64 (Lib.compareInt b b')) ∧ W = w' from (Tryz.cmp_Compare_int b b' W).mono fun _ _ ⟨h1, h2⟩ => ⟨h1, h2.symm⟩)
  have hS := Lib.hid (fun W => show Calls Tryz.prog 75 #[.string a, .string a'] W fun e w' => e = .returned (.int .i64 (cmpB a a')) ∧ W = w' from (Tryz.strings_Compare a a' W).mono fun _ _ ⟨h1, h2⟩ => ⟨h1, h2.symm⟩)
  generalize hu : cmpB a a' = u at *
  generalize hv : Lib.compareInt b b' = v at *
  clear hu hv
  have hb0 := heap_alloc_new W (.cells #[.string a, .int .i64 b, .int .i64 c, .int .i64 d, .int .i64 f, .int .i64 t] 89)
  have hb1 := blk_alloc hb0 (.cells #[.string a', .int .i64 b', .int .i64 c', .int .i64 d', .int .i64 f', .int .i64 t'] 89)
  have hb2 := heap_alloc_new (W.alloc (.cells #[.string a, .int .i64 b, .int .i64 c, .int .i64 d, .int .i64 f, .int .i64 t] 89)) (.cells #[.string a', .int .i64 b', .int .i64 c', .int .i64 d', .int .i64 f', .int .i64 t'] 89)
  rw [alloc_sizeS] at hb2
  have hBB := below_box (below_box (Below.refl ((W.alloc (.cells #[.string a, .int .i64 b, .int .i64 c, .int .i64 d, .int .i64 f, .int .i64 t] 89)).alloc (.cells #[.string a', .int .i64 b', .int .i64 c', .int .i64 d', .int .i64 f', .int .i64 t'] 89)).heap.size _))
  have hD : ((W.alloc (.cells #[.string a, .int .i64 b, .int .i64 c, .int .i64 d, .int .i64 f, .int .i64 t] 89)).alloc (.cells #[.string a', .int .i64 b', .int .i64 c', .int .i64 d', .int .i64 f', .int .i64 t'] 89)).drawn = W.drawn := rfl
  go_enter Tryz.func83, Tryz.ntmps83
  go_wp2_with fail
  generalize (W.alloc (.cells #[.string a, .int .i64 b, .int .i64 c, .int .i64 d, .int .i64 f, .int .i64 t] 89)).alloc (.cells #[.string a', .int .i64 b', .int .i64 c', .int .i64 d', .int .i64 f', .int .i64 t'] 89) = w5 at *
  generalize hbx : W.heap.size = bx at *
  have z0 := (blk_facts hb1).1 0
  have z1 := (blk_facts hb1).1 1
  have y0 := (blk_facts hb2).1 0
  have y1 := (blk_facts hb2).1 1
  clear hb0
  go_region_held3 (fun w' => w'.cell? ⟨bx, 0, none⟩ = some (.string a) ∧ w'.cell? ⟨bx, 1, none⟩ = some (.int .i64 b) ∧ w'.cell? ⟨bx + 1, 0, none⟩ = some (.string a') ∧ w'.cell? ⟨bx + 1, 1, none⟩ = some (.int .i64 b')) (go_keep)
    (first
      | (go_at_call 75; refine (hS.out _).mono ?_; rintro e w' ⟨rfl, rfl⟩)
      | (go_at_call 56; refine (hC.out _).mono ?_; rintro e w' ⟨rfl, rfl⟩)
      | (go_at_call 107; refine (orP_c _ _ _ [u, v] _ (R1.litAt _ _ _ _ (by simp) rfl (by simp)).drew).mono ?_; rintro e w' ⟨rfl, rfl⟩))
  have hz := below_drewN (hBB.alloc (by have := hBB.size; omega) (.cells #[.int .i64 u, .int .i64 v] 3)) 1
  go_wp2
  go_ret
  exact ⟨ret_i hV.out.symm, hbx ▸ hz, by show W.drawn ≤ w5.drawn + 1; omega⟩
/-- the error of a signal alone -/
def sg1 (x : Sg) : Int :=
  if keyB x.dev = false then 5
  else if ¬ (1 ≤ x.kind ∧ x.kind ≤ 4) then 4
  else if ¬ (1 ≤ x.no ∧ x.no ≤ 3000) then 1
  else if ¬ (0 ≤ x.tm ∧ x.tm ≤ 345686399999) then 1
  else if x.kind = 1 ∧ x.lane ≠ 0 then 1
  else if x.kind ≠ 1 ∧ ¬ (1 ≤ x.lane ∧ x.lane ≤ 10) then 1
  else if x.kind = 4 ∧ ¬ (1 ≤ x.time ∧ x.time ≤ 360000) then 1
  else if x.kind ≠ 4 ∧ x.time ≠ 0 then 3 else 0
theorem sg1_ok {x : Sg} (h : sg1 x = 0) : keyB x.dev = true ∧ (1 ≤ x.kind ∧ x.kind ≤ 4) ∧ (1 ≤ x.no ∧ x.no ≤ 3000) ∧ (0 ≤ x.tm ∧ x.tm ≤ 345686399999) := by
  unfold sg1 at h
  split at h
  · cases h
  split at h
  · cases h
  split at h
  · cases h
  split at h
  · cases h
  rename_i h1 h2 h3 h4
  exact ⟨by simpa using h1, Decidable.not_not.1 h2, Decidable.not_not.1 h3, Decidable.not_not.1 h4⟩
set_option maxHeartbeats 3200000 in
set_option maxRecDepth 100000 in
theorem checkSignal_c (x : Sg) (w : World) : Calls Tryz.prog 112 #[x.val] w fun e w' => e = .returned (.int .i64 (sg1 x)) ∧ Below w.heap.size w w' := by
  obtain ⟨dev, no, kind, tm, lane, time⟩ := x
  dsimp only [Sg.val]
  have hE := Lib.hid (show sg1 ⟨dev, no, kind, tm, lane, time⟩ = if keyB dev = false then 5
    else if ¬ (1 ≤ kind ∧ kind ≤ 4) then 4
    else if ¬ (1 ≤ no ∧ no ≤ 3000) then 1
    else if ¬ (0 ≤ tm ∧ tm ≤ 345686399999) then 1
    else if kind = 1 ∧ lane ≠ 0 then 1
    else if kind ≠ 1 ∧ ¬ (1 ≤ lane ∧ lane ≤ 10) then 1
    else if kind = 4 ∧ ¬ (1 ≤ time ∧ time ≤ 360000) then 1
    else if kind ≠ 4 ∧ time ≠ 0 then 3 else 0 from rfl)
  generalize sg1 ⟨dev, no, kind, tm, lane, time⟩ = E at *
  have hkey := Lib.hid (fun W => isKey_c dev W)
  generalize keyB dev = kb at *
  have hb0 := heap_alloc_new w (.cells #[.string dev, .int .i64 no, .int .i64 kind, .int .i64 tm, .int .i64 lane, .int .i64 time] 89)
  have hB0 := below_new w (.cells #[.string dev, .int .i64 no, .int .i64 kind, .int .i64 tm, .int .i64 lane, .int .i64 time] 89)
  have z2 := (blk_facts hb0).1 2
  go_enter Tryz.func112, Tryz.ntmps112
  go_wp2_with fail
  go_quiet (fail)
  go_wp2_with fail
  refine (hkey.out _).mono ?_; rintro e w6 ⟨rfl, B6⟩
  have hb6 := (B6.block w.heap.size (lt_of_heap hb0)).trans hb0
  have hB6 : Below w.heap.size w w6 := below_next (below_drewN hB0 _) B6
  have x1 := (blk_facts hb6).1 1
  have x2 := (blk_facts hb6).1 2
  have x3 := (blk_facts hb6).1 3
  have x4 := (blk_facts hb6).1 4
  have x5 := (blk_facts hb6).1 5
  clear hb0 hB0 z2 B6 hkey
  go_wp2_with (first
    | (go_at_call 60; refine (within_c _ _ _ _).mono ?_; rintro e w' ⟨rfl, rfl⟩)
    | (go_at_call 123; refine (isMoment_c _ _).mono ?_; rintro e w' ⟨rfl, rfl⟩))
  all_goals (go_ret; refine ⟨ret_i ?_, hB6⟩; rw [hE.out]; clear hE hB6 hb6 x1 x2 x3 x4 x5; cases kb <;> simp at * <;> (repeat' split) <;> first | rfl | omega)
end Go.Proofs.YtnkhdofcmanipaaGreatDoor

/- pad.CheckSignals, tumbref1.SignalsFault. Printed by wip/gensig.py. -/
namespace Go.Proofs.YtnkhdofcmanipaaGreatDoor
open Go.RowKit Go.Shelf Go.Lib Go.Sort
open Go.Maps (Keyed string_keyed)
open Go.WideMaps (keyOf_string_mk)
set_option linter.unusedVariables false

def prevSg (l : List Sg) (k : Nat) : Option Sg := if k = 0 then none else l[k - 1]?
def badSg (o : Option Sg) (x : Sg) : Bool := match o with | some y => decide (0 ≤ sgCf y x) | none => false
/-- signals, one after the other; the map of the devices that were seen -/
def sigGo : DataW Unit → Option Sg → List Sg → Int
  | D, _, [] => if 40 < Go.Maps.size D then 2 else 0
  | D, o, x :: r => if sg1 x ≠ 0 then sg1 x else if badSg o x = true then 7 else sigGo (D.put (.string x.dev.data.toList) (.lit (.bool true))) (some x) r
def sigErr (l : List Sg) : Int := if 3000 < l.length then 2 else sigGo (.map []) none l
theorem sigGo_at {l : List Sg} {k : Nat} {x : Sg} (D : DataW Unit) (h : l[k]? = some x) : sigGo D (prevSg l k) (l.drop k) = if sg1 x ≠ 0 then sg1 x else if badSg (prevSg l k) x = true then 7 else sigGo (D.put (.string x.dev.data.toList) (.lit (.bool true))) (prevSg l (k + 1)) (l.drop (k + 1)) := by
  have e : prevSg l (k + 1) = some x := by unfold prevSg; rw [if_neg (by omega)]; exact h
  rw [drop_at h, e]
  rfl
/-- what is known of the signal ahead -/
def PrevK (w : World) (b off : Nat) (l : List Sg) (k : Nat) : Prop := (k = 0 ∧ prevSg l k = none) ∨ (1 ≤ k ∧ ∃ y, prevSg l k = some y ∧ w.cell? ⟨b, off + (k - 1) * 6, none⟩ = some (.string y.dev) ∧ w.cell? ⟨b, off + (k - 1) * 6 + 1, none⟩ = some (.int .i64 y.no) ∧ w.cell? ⟨b, off + (k - 1) * 6 + 2, none⟩ = some (.int .i64 y.kind) ∧ w.cell? ⟨b, off + (k - 1) * 6 + 3, none⟩ = some (.int .i64 y.tm) ∧ w.cell? ⟨b, off + (k - 1) * 6 + 4, none⟩ = some (.int .i64 y.lane) ∧ w.cell? ⟨b, off + (k - 1) * 6 + 5, none⟩ = some (.int .i64 y.time))
theorem prevK_of {w : World} {b off n : Nat} {l : List Sg} (h : RSg w (some ⟨b, off, none⟩) n l) {k : Nat} (hk : k < n) : PrevK w b off l k := by
  by_cases h0 : k = 0
  · exact .inl ⟨h0, if_pos h0⟩
  · obtain ⟨b', off', y, hA, _, hy, d⟩ := RSg_at6 h (k := k - 1) (by omega)
    injection hA with hA
    injection hA with e1 e2
    subst e1 e2
    exact .inr ⟨by omega, y, by unfold prevSg; rw [if_neg h0]; exact hy, d⟩
set_option maxHeartbeats 6400000 in
set_option maxRecDepth 100000 in
theorem checkSignals_c (A : Option Addr) (n c : Nat) (l : List Sg) (w : World) (h : RSg w A n l) :
    Calls Tryz.prog 76 #[.slice A n c] w fun e w' => e = .returned (.int .i64 (sigErr l)) ∧ Below w.heap.size w w' := by
  have hR := Lib.hid (fun W B => h.below (w' := W) B)
  have hbd := h.bd
  have hl := Lib.hid h.len
  have hE := Lib.hid (show sigErr l = if 3000 < n then 2 else sigGo (.map []) none l by unfold sigErr; rw [h.len])
  have hGa := Lib.hid (fun D k x (h : l[k]? = some x) => sigGo_at D h)
  have hG0 := Lib.hid (fun D o => show sigGo D o [] = if 40 < Go.Maps.size D then 2 else 0 from rfl)
  have hPk := Lib.hid (fun (W : World) b off k (h : RSg W (some ⟨b, off, none⟩) n l) (hk : k < n) => prevK_of h hk)
  have hKs := Lib.hid (fun s (h : keyB s = true) => key_small h)
  have hCk := Lib.hid (fun x W => checkSignal_c x W)
  generalize sigErr l = E at *
  generalize sigGo = SG at *
  clear h
  by_cases hbig : 3000 < n
  · obtain rfl : E = 2 := by rw [hE.out, if_pos hbig]
    clear hE
    go_enter Tryz.func76, Tryz.ntmps76
    go_wp2
    go_ret
    exact ⟨rfl, Below.refl _ _⟩
  have hE2 := Lib.hid (show E = SG (.map []) none l by rw [hE.out, if_neg hbig])
  clear hE
  have hmm := @run_makeMap Tryz.prog
  have hm0 := mb_new w
  have hB0 := below_new w (.map #[] 0)
  go_enter Tryz.func76, Tryz.ntmps76
  go_wp2
  go_loopw [13] (fun i wr => ∃ (k q : Nat) (D : DataW Unit), k ≤ n ∧ i = .int .i64 k ∧ q ≤ k ∧ MB wr w.heap.size q D ∧ Below w.heap.size w wr ∧ Hid (SG D (prevSg l k) (l.drop k) = SG (.map []) none l)) (fun i _ => n - (intOf i).toNat)
  case atStart => exact ⟨0, 0, .map [], Nat.zero_le _, rfl, Nat.le_refl _, hm0, hB0, Lib.hid rfl⟩
  case round =>
    clear hm0 hB0
    obtain ⟨k, q, D, hk, rfl, hq, hm, hB, hF⟩ := hrel
    by_cases hlt : k < n
    · obtain ⟨b, off, x, rfl, hbl, hx, c0, c1, c2, c3, c4, c5⟩ := RSg_at6 (hR.out _ hB) hlt
      have hP := hPk.out _ _ _ _ (hR.out _ hB) hlt
      have hS := Lib.hid ((hGa.out D k x hx).symm.trans hF.out)
      have hok := Lib.hid (sg1_ok (x := x))
      have hmw := hB.size
      have hmz := hm.lt
      clear hx hF
      obtain ⟨dev, no, kind, tm, lane, time⟩ := x
      dsimp only at *
      have hCx := Lib.hid (fun W => hCk.out ⟨dev, no, kind, tm, lane, time⟩ W)
      dsimp only [Sg.val] at hCx
      have hn0 := heap_alloc_new wr (.cells #[.string dev, .int .i64 no, .int .i64 kind, .int .i64 tm, .int .i64 lane, .int .i64 time] 89)
      generalize hsg : sg1 ⟨dev, no, kind, tm, lane, time⟩ = e1 at *
      go_wp2_with fail
      refine (hCx.out _).mono ?_; rintro e w6 ⟨rfl, B6⟩
      have hm6 : MB w6 w.heap.size q D := (hm.alloc _).kept (row := none) (grown_of_below B6) (by simp)
      have hb6 := blk_below hn0 B6
      have hB6 := below_nextBox hB B6
      have hB6x := below_box B6
      clear hCx hn0 B6 hm
      by_cases h1 : e1 = 0
      rotate_left
      · obtain rfl : E = e1 := by rw [hE2.out, ← hS.out, if_pos h1]
        have h1' : (E != 0) = true := by simpa using h1
        clear hE2 hS h1
        go_wp2
        go_ret
        exact ⟨rfl, hB6⟩
      have hS1 := Lib.hid (hS.out.symm.trans (if_neg (fun h => h h1))).symm
      subst h1
      have hsz := hKs.out dev (hok.out rfl).1
      have x0 := (blk_facts hb6).1 0
      have x1 := (blk_facts hb6).1 1
      have x2 := (blk_facts hb6).1 2
      have x3 := (blk_facts hb6).1 3
      have x4 := (blk_facts hb6).1 4
      have x5 := (blk_facts hb6).1 5
      clear hS hok
      go_wp2_with fail
      rcases hP with ⟨h0, hn0⟩ | ⟨h0, y, hy, d0, d1, d2, d3, d4, d5⟩
      · have hS2 := Lib.hid (show SG (D.put (.string dev.data.toList) (.lit (.bool true))) (prevSg l (k + 1)) (l.drop (k + 1)) = SG (.map []) none l by rw [← hS1.out, hn0]; rfl)
        have e8 : decide (0 < k) = false := decide_eq_false (by omega)
        have e9 : decide ((0 : Int) < (k : Int)) = false := decide_eq_false (by omega)
        clear hn0 h0 hS1
        go_quiet (fail)
        clear e8 e9
        go_wp2_with (at_mapUpdate; refine wpList_mapUpdate_own _ rfl _ _ _ 137 rfl 9 4 (string_keyed Tryz.underlying9) Tryz.underlying137 _ _ q _ rfl hm6 (by unfold maxLen; omega) _ _ _ rfl rfl (keyOf_string_mk Tryz.underlying9 (by unfold maxLen; omega)) _ [] (plainElem_bool Tryz.underlying4 true) ?_; intro w2 hown2 hg2)
        have hB2 := (below_drewN hB6 _).trans (grown_below hg2 (Nat.le_refl _) hB6.size)
        go_roundw
        case rel => exact ⟨k + 1, q + 1, _, by omega, by go_num, by omega, hown2, hB2, hS2⟩
        case measure => simp [intOf]; omega
      · rw [hy] at hS1
        have hCy := Lib.hid (fun W => sgCompare_c y ⟨dev, no, kind, tm, lane, time⟩ W)
        have hbv := Lib.hid (show badSg (some y) ⟨dev, no, kind, tm, lane, time⟩ = decide (0 ≤ sgCf y ⟨dev, no, kind, tm, lane, time⟩) from rfl)
        generalize badSg (some y) ⟨dev, no, kind, tm, lane, time⟩ = bv at *
        obtain ⟨dev2, no2, kind2, tm2, lane2, time2⟩ := y
        dsimp only [sgE] at *
        generalize sgCf ⟨dev2, no2, kind2, tm2, lane2, time2⟩ ⟨dev, no, kind, tm, lane, time⟩ = V at *
        have e8 : decide (0 < k) = true := decide_eq_true (by omega)
        have e9 : decide ((0 : Int) < (k : Int)) = true := decide_eq_true (by omega)
        have u1 : IntKind.i64.wrap ((k : Int) - 1) = (k : Int) - 1 := IntWalk.i64_in _ (by omega)
        have u2 : 0 ≤ (k : Int) - 1 := by omega
        have u3 : ((k : Int) - 1).toNat = k - 1 := by omega
        have u4 : (k : Int) - 1 < n := by omega
        have u5 : (1 : Int) ≤ (k : Int) := by omega
        have u6 : (k : Int) - 1 < 9223372036854775808 := by omega
        have p0 := (hB6x.cell (p := ⟨b, off + (k - 1) * 6, none⟩) hbl).trans d0
        have p1 := (hB6x.cell (p := ⟨b, off + (k - 1) * 6 + 1, none⟩) hbl).trans d1
        have p2 := (hB6x.cell (p := ⟨b, off + (k - 1) * 6 + 2, none⟩) hbl).trans d2
        have p3 := (hB6x.cell (p := ⟨b, off + (k - 1) * 6 + 3, none⟩) hbl).trans d3
        have p4 := (hB6x.cell (p := ⟨b, off + (k - 1) * 6 + 4, none⟩) hbl).trans d4
        have p5 := (hB6x.cell (p := ⟨b, off + (k - 1) * 6 + 5, none⟩) hbl).trans d5
        have hbl6 : b < w6.heap.size := Nat.lt_of_lt_of_le hbl hB6x.size
        have lb6 := lt_of_heap hb6
        clear hy h0 c0 c1 c2 c3 c4 c5 d0 d1 d2 d3 d4 d5
        generalize wr.heap.size = b7 at *
        go_region_held3 (fun w' => w'.cell? ⟨b, off + (k - 1) * 6, none⟩ = some (.string dev2) ∧ w'.cell? ⟨b, off + (k - 1) * 6 + 1, none⟩ = some (.int .i64 no2) ∧ w'.cell? ⟨b, off + (k - 1) * 6 + 2, none⟩ = some (.int .i64 kind2) ∧ w'.cell? ⟨b, off + (k - 1) * 6 + 3, none⟩ = some (.int .i64 tm2) ∧ w'.cell? ⟨b, off + (k - 1) * 6 + 4, none⟩ = some (.int .i64 lane2) ∧ w'.cell? ⟨b, off + (k - 1) * 6 + 5, none⟩ = some (.int .i64 time2) ∧ w'.cell? ⟨b7, 0, none⟩ = some (.string dev) ∧ w'.cell? ⟨b7, 1, none⟩ = some (.int .i64 no) ∧ w'.cell? ⟨b7, 2, none⟩ = some (.int .i64 kind) ∧ w'.cell? ⟨b7, 3, none⟩ = some (.int .i64 tm) ∧ w'.cell? ⟨b7, 4, none⟩ = some (.int .i64 lane) ∧ w'.cell? ⟨b7, 5, none⟩ = some (.int .i64 time))
          (first | go_keep | with_reducible exact ⟨g0, g1, g2, g3, g4, g5, g6, g7, g8, g9, ga, gb⟩)
          (first
            | (go_at_call 113; refine (hCy.out _).mono ?_; rintro e w8 ⟨rfl, B8, _⟩; have g0 := (B8.cell (p := ⟨b, off + (k - 1) * 6, none⟩) hbl6).trans p0; have g1 := (B8.cell (p := ⟨b, off + (k - 1) * 6 + 1, none⟩) hbl6).trans p1; have g2 := (B8.cell (p := ⟨b, off + (k - 1) * 6 + 2, none⟩) hbl6).trans p2; have g3 := (B8.cell (p := ⟨b, off + (k - 1) * 6 + 3, none⟩) hbl6).trans p3; have g4 := (B8.cell (p := ⟨b, off + (k - 1) * 6 + 4, none⟩) hbl6).trans p4; have g5 := (B8.cell (p := ⟨b, off + (k - 1) * 6 + 5, none⟩) hbl6).trans p5; have g6 := (B8.cell (p := ⟨b7, 0, none⟩) lb6).trans x0; have g7 := (B8.cell (p := ⟨b7, 1, none⟩) lb6).trans x1; have g8 := (B8.cell (p := ⟨b7, 2, none⟩) lb6).trans x2; have g9 := (B8.cell (p := ⟨b7, 3, none⟩) lb6).trans x3; have ga := (B8.cell (p := ⟨b7, 4, none⟩) lb6).trans x4; have gb := (B8.cell (p := ⟨b7, 5, none⟩) lb6).trans x5))
        have hB8 := below_next (below_drewN hB6 1) B8
        have hb8 := (B8.block b7 lb6).trans hb6
        have hm8 : MB w8 w.heap.size q D := hm6.drew.kept (row := none) (grown_of_below B8) (by simp)
        have y0 := (blk_facts hb8).1 0
        clear g0 g1 g2 g3 g4 g5 g6 g7 g8 g9 ga gb p0 p1 p2 p3 p4 p5 x0 x1 x2 x3 x4 x5 e8 e9 B8 hB6 hm6
        by_cases hv : 0 ≤ V
        · obtain rfl : E = 7 := by rw [hE2.out, ← hS1.out, if_pos (by rw [hbv.out]; exact decide_eq_true hv)]
          clear hE2 hS1 hbv
          go_wp2
          go_ret
          exact ⟨rfl, hB8⟩
        · have hS2 := Lib.hid (show SG (D.put (.string dev.data.toList) (.lit (.bool true))) (prevSg l (k + 1)) (l.drop (k + 1)) = SG (.map []) none l by rw [← hS1.out, if_neg (by rw [hbv.out]; simpa using hv)])
          clear hS1 hbv
          go_wp2_with (at_mapUpdate; refine wpList_mapUpdate_own _ rfl _ _ _ 137 rfl 9 4 (string_keyed Tryz.underlying9) Tryz.underlying137 _ _ q _ rfl hm8 (by unfold maxLen; omega) _ _ _ rfl rfl (keyOf_string_mk Tryz.underlying9 (by unfold maxLen; omega)) _ [] (plainElem_bool Tryz.underlying4 true) ?_; intro w2 hown2 hg2)
          have hB2 := hB8.trans (grown_below hg2 (Nat.le_refl _) hB8.size)
          go_roundw
          case rel => exact ⟨k + 1, q + 1, _, by omega, by go_num, by omega, hown2, hB2, hS2⟩
          case measure => simp [intOf]; omega
    · obtain rfl : k = n := by omega
      have hln := hm.len Tryz.underlying137
      have hS : Hid (SG (.map []) none l = if 40 < Go.Maps.size D then 2 else 0) := Lib.hid (by rw [← hF.out, drop_end (by rw [hl.out]; exact Nat.le_refl _), hG0.out])
      clear hF hm
      have hbs : (0 : Int) ≤ (Go.Maps.size D : Nat) := by omega
      by_cases h40 : 40 < Go.Maps.size D
      · obtain rfl : E = 2 := by rw [hE2.out, hS.out, if_pos h40]
        have h40' : (40 : Int) < (Go.Maps.size D : Nat) := by omega
        clear hE2 hS
        go_wp2
        go_ret
        exact ⟨rfl, hB⟩
      · obtain rfl : E = 0 := by rw [hE2.out, hS.out, if_neg h40]
        have h40' : ¬ (40 : Int) < (Go.Maps.size D : Nat) := by omega
        clear hE2 hS
        go_wp2
        go_ret
        exact ⟨rfl, hB⟩
set_option maxHeartbeats 6400000 in
set_option maxRecDepth 100000 in
theorem signalsFault_c (A : Option Addr) (n c : Nat) (l : List Sg) (w : World) (h : RSg w A n l) :
    Calls Tryz.prog 36 #[.slice A n c] w fun e w' => e = .returned (.int .i64 (sigErr l)) ∧ Below w.heap.size w w' := by
  have hR := Lib.hid (fun W B => h.below (w' := W) B)
  have hbd := h.bd
  have hl := Lib.hid h.len
  have hE := Lib.hid (show sigErr l = if 3000 < n then 2 else sigGo (.map []) none l by unfold sigErr; rw [h.len])
  have hGa := Lib.hid (fun D k x (h : l[k]? = some x) => sigGo_at D h)
  have hG0 := Lib.hid (fun D o => show sigGo D o [] = if 40 < Go.Maps.size D then 2 else 0 from rfl)
  have hPk := Lib.hid (fun (W : World) b off k (h : RSg W (some ⟨b, off, none⟩) n l) (hk : k < n) => prevK_of h hk)
  have hKs := Lib.hid (fun s (h : keyB s = true) => key_small h)
  generalize sigErr l = E at *
  generalize sigGo = SG at *
  clear h
  by_cases hbig : 3000 < n
  · obtain rfl : E = 2 := by rw [hE.out, if_pos hbig]
    clear hE
    go_enter Tryz.func36, Tryz.ntmps36
    go_wp2
    go_ret
    exact ⟨rfl, Below.refl _ _⟩
  have hE2 := Lib.hid (show E = SG (.map []) none l by rw [hE.out, if_neg hbig])
  clear hE
  have hmm := @run_makeMap Tryz.prog
  have hm0 := mb_new w
  have hB0 := below_new w (.map #[] 0)
  go_enter Tryz.func36, Tryz.ntmps36
  go_wp2
  go_loopw [14] (fun i wr => ∃ (k q : Nat) (D : DataW Unit), k ≤ n ∧ i = .int .i64 k ∧ q ≤ k ∧ MB wr w.heap.size q D ∧ Below w.heap.size w wr ∧ Hid (SG D (prevSg l k) (l.drop k) = SG (.map []) none l)) (fun i _ => n - (intOf i).toNat)
  case atStart => exact ⟨0, 0, .map [], Nat.zero_le _, rfl, Nat.le_refl _, hm0, hB0, Lib.hid rfl⟩
  case round =>
    clear hm0 hB0
    obtain ⟨k, q, D, hk, rfl, hq, hm, hB, hF⟩ := hrel
    by_cases hlt : k < n
    · obtain ⟨b, off, x, rfl, hbl, hx, c0, c1, c2, c3, c4, c5⟩ := RSg_at6 (hR.out _ hB) hlt
      have hP := hPk.out _ _ _ _ (hR.out _ hB) hlt
      have hS := Lib.hid ((hGa.out D k x hx).symm.trans hF.out)
      have hok := Lib.hid (sg1_ok (x := x))
      have hmw := hB.size
      have hmz := hm.lt
      clear hx hF
      obtain ⟨dev, no, kind, tm, lane, time⟩ := x
      dsimp only at *
      have hsg := Lib.hid (show sg1 ⟨dev, no, kind, tm, lane, time⟩ = if keyB dev = false then 5
        else if ¬ (1 ≤ kind ∧ kind ≤ 4) then 4
        else if ¬ (1 ≤ no ∧ no ≤ 3000) then 1
        else if ¬ (0 ≤ tm ∧ tm ≤ 345686399999) then 1
        else if kind = 1 ∧ lane ≠ 0 then 1
        else if kind ≠ 1 ∧ ¬ (1 ≤ lane ∧ lane ≤ 10) then 1
        else if kind = 4 ∧ ¬ (1 ≤ time ∧ time ≤ 360000) then 1
        else if kind ≠ 4 ∧ time ≠ 0 then 3 else 0 from rfl)
      generalize sg1 ⟨dev, no, kind, tm, lane, time⟩ = e1 at *
      have hkey := Lib.hid (fun W => key_c dev W)
      have hsz := Lib.hid (hKs.out dev)
      have hret := Lib.hid (fun (v r : Int) (h1 : v ≠ 0) (h2 : v = e1) => show v = if e1 ≠ 0 then e1 else r by subst h2; rw [if_pos h1])
      generalize keyB dev = kb at *
      have hn0 := heap_alloc_new wr (.cells #[.string dev, .int .i64 no, .int .i64 kind, .int .i64 tm, .int .i64 lane, .int .i64 time] 89)
      have z2 := (blk_facts hn0).1 2
      have hBn := below_new wr (.cells #[.string dev, .int .i64 no, .int .i64 kind, .int .i64 tm, .int .i64 lane, .int .i64 time] 89)
      clear hok
      go_wp2_with fail
      go_quiet (fail)
      go_wp2_with fail
      refine (hkey.out _).mono ?_; rintro e w6 ⟨rfl, B6⟩
      have hm6 : MB w6 w.heap.size q D := World.ownsMap.kept (w := (wr.alloc (.cells #[.string dev, .int .i64 no, .int .i64 kind, .int .i64 tm, .int .i64 lane, .int .i64 time] 89)).drewN _) (hm.alloc _) (row := none) (grown_of_below B6) (by simp)
      have hb6 := (B6.block wr.heap.size (lt_of_heap hn0)).trans hn0
      have hB6x : Below wr.heap.size wr w6 := below_next (below_drewN hBn _) B6
      have hB6 := below_next hB hB6x
      have x0 := (blk_facts hb6).1 0
      have x1 := (blk_facts hb6).1 1
      have x2 := (blk_facts hb6).1 2
      have x3 := (blk_facts hb6).1 3
      have x4 := (blk_facts hb6).1 4
      have x5 := (blk_facts hb6).1 5
      clear hkey hn0 z2 hBn B6 hm
      go_wp2_with (first
        | (go_at_call 50; refine (in_c _ _ _ _).mono ?_; rintro e w' ⟨rfl, rfl⟩)
        | (go_at_call 82; refine (momentFault_c _ _).mono ?_; rintro e w' ⟨rfl, rfl⟩))
      all_goals try (go_ret; refine ⟨ret_i ?_, hB6⟩; rw [hE2.out, ← hS.out]; refine hret.out _ _ (by decide) ?_; rw [hsg.out]; clear hret hsg hS hE2 hB6 hB6x hb6 hm6 x0 x1 x2 x3 x4 x5 hsz c0 c1 c2 c3 c4 c5 hP hR hPk hKs hGa hG0 hl hB hmm hbig hmw hmz hbl hbd; cases kb <;> simp at * <;> (repeat' split) <;> first | rfl | omega)
      all_goals
        have hz : e1 = 0 := by
          rw [hsg.out]; clear hret hsg hS hE2 hB6 hB6x hb6 hm6 x0 x1 x2 x3 x4 x5 hsz c0 c1 c2 c3 c4 c5 hP hR hPk hKs hGa hG0 hl hB hmm hbig hmw hmz hbl hbd; cases kb <;> simp at * <;> (repeat' split) <;> first | rfl | omega
        have hkt : kb = true := by
          clear hret hsg hS hE2 hB6 hB6x hb6 hm6 x0 x1 x2 x3 x4 x5 hsz c0 c1 c2 c3 c4 c5 hP hR hPk hKs hGa hG0 hl hB hmm hbig hmw hmz hbl hbd hz; cases kb <;> simp_all
        rename_i g1 g2 g3 g4 g5 g6 g7 g8 gK gA
        clear g1 g2 g3 g4 g5 g6 g7 g8
        replace hsz := hsz.out hkt
        have hS1 := Lib.hid (hS.out.symm.trans (if_neg (fun h => h hz))).symm
        clear hsg hS hret hz hkt
        rcases hP with ⟨h0, hn0⟩ | ⟨h0, y, hy, d0, d1, d2, d3, d4, d5⟩
        · have hS2 := Lib.hid (show SG (D.put (.string dev.data.toList) (.lit (.bool true))) (prevSg l (k + 1)) (l.drop (k + 1)) = SG (.map []) none l by rw [← hS1.out, hn0]; rfl)
          have e8 : decide (0 < k) = false := decide_eq_false (by omega)
          have e9 : decide ((0 : Int) < (k : Int)) = false := decide_eq_false (by omega)
          clear hn0 h0 hS1
          go_quiet (fail)
          clear e8 e9
          go_wp2_with (at_mapUpdate; refine wpList_mapUpdate_own _ rfl _ _ _ 137 rfl 9 4 (string_keyed Tryz.underlying9) Tryz.underlying137 _ _ q _ rfl hm6 (by unfold maxLen; omega) _ _ _ rfl rfl (keyOf_string_mk Tryz.underlying9 (by unfold maxLen; omega)) _ [] (plainElem_bool Tryz.underlying4 true) ?_; intro w2 hown2 hg2)
          have hB2 := (below_drewN hB6 _).trans (grown_below hg2 (Nat.le_refl _) hB6.size)
          go_roundw
          case rel => exact ⟨k + 1, q + 1, _, by omega, by go_num, by omega, hown2, hB2, hS2⟩
          case measure => simp [intOf]; omega
        · rw [hy] at hS1
          have hCy := Lib.hid (fun W => bySignal_c y ⟨dev, no, kind, tm, lane, time⟩ W)
          have hbv := Lib.hid (show badSg (some y) ⟨dev, no, kind, tm, lane, time⟩ = decide (0 ≤ sgCf y ⟨dev, no, kind, tm, lane, time⟩) from rfl)
          generalize badSg (some y) ⟨dev, no, kind, tm, lane, time⟩ = bv at *
          obtain ⟨dev2, no2, kind2, tm2, lane2, time2⟩ := y
          dsimp only [sgE] at *
          generalize sgCf ⟨dev2, no2, kind2, tm2, lane2, time2⟩ ⟨dev, no, kind, tm, lane, time⟩ = V at *
          have e8 : decide (0 < k) = true := decide_eq_true (by omega)
          have e9 : decide ((0 : Int) < (k : Int)) = true := decide_eq_true (by omega)
          have u1 : IntKind.i64.wrap ((k : Int) - 1) = (k : Int) - 1 := IntWalk.i64_in _ (by omega)
          have u2 : 0 ≤ (k : Int) - 1 := by omega
          have u3 : ((k : Int) - 1).toNat = k - 1 := by omega
          have u4 : (k : Int) - 1 < n := by omega
          have u5 : (1 : Int) ≤ (k : Int) := by omega
          have u6 : (k : Int) - 1 < 9223372036854775808 := by omega
          have p0 := (hB6x.cell (p := ⟨b, off + (k - 1) * 6, none⟩) hbl).trans d0
          have p1 := (hB6x.cell (p := ⟨b, off + (k - 1) * 6 + 1, none⟩) hbl).trans d1
          have p2 := (hB6x.cell (p := ⟨b, off + (k - 1) * 6 + 2, none⟩) hbl).trans d2
          have p3 := (hB6x.cell (p := ⟨b, off + (k - 1) * 6 + 3, none⟩) hbl).trans d3
          have p4 := (hB6x.cell (p := ⟨b, off + (k - 1) * 6 + 4, none⟩) hbl).trans d4
          have p5 := (hB6x.cell (p := ⟨b, off + (k - 1) * 6 + 5, none⟩) hbl).trans d5
          have hbl6 : b < w6.heap.size := Nat.lt_of_lt_of_le hbl hB6x.size
          have lb6 := lt_of_heap hb6
          clear hy h0 c0 c1 c2 c3 c4 c5 d0 d1 d2 d3 d4 d5
          generalize wr.heap.size = b7 at *
          go_region_held3 (fun w' => w'.cell? ⟨b, off + (k - 1) * 6, none⟩ = some (.string dev2) ∧ w'.cell? ⟨b, off + (k - 1) * 6 + 1, none⟩ = some (.int .i64 no2) ∧ w'.cell? ⟨b, off + (k - 1) * 6 + 2, none⟩ = some (.int .i64 kind2) ∧ w'.cell? ⟨b, off + (k - 1) * 6 + 3, none⟩ = some (.int .i64 tm2) ∧ w'.cell? ⟨b, off + (k - 1) * 6 + 4, none⟩ = some (.int .i64 lane2) ∧ w'.cell? ⟨b, off + (k - 1) * 6 + 5, none⟩ = some (.int .i64 time2) ∧ w'.cell? ⟨b7, 0, none⟩ = some (.string dev) ∧ w'.cell? ⟨b7, 1, none⟩ = some (.int .i64 no) ∧ w'.cell? ⟨b7, 2, none⟩ = some (.int .i64 kind) ∧ w'.cell? ⟨b7, 3, none⟩ = some (.int .i64 tm) ∧ w'.cell? ⟨b7, 4, none⟩ = some (.int .i64 lane) ∧ w'.cell? ⟨b7, 5, none⟩ = some (.int .i64 time))
            (first | go_keep | with_reducible exact ⟨g0, g1, g2, g3, g4, g5, g6, g7, g8, g9, ga, gb⟩)
            (first
              | (go_at_call 83; refine (hCy.out _).mono ?_; rintro e w8 ⟨rfl, B8, _⟩; have g0 := (B8.cell (p := ⟨b, off + (k - 1) * 6, none⟩) hbl6).trans p0; have g1 := (B8.cell (p := ⟨b, off + (k - 1) * 6 + 1, none⟩) hbl6).trans p1; have g2 := (B8.cell (p := ⟨b, off + (k - 1) * 6 + 2, none⟩) hbl6).trans p2; have g3 := (B8.cell (p := ⟨b, off + (k - 1) * 6 + 3, none⟩) hbl6).trans p3; have g4 := (B8.cell (p := ⟨b, off + (k - 1) * 6 + 4, none⟩) hbl6).trans p4; have g5 := (B8.cell (p := ⟨b, off + (k - 1) * 6 + 5, none⟩) hbl6).trans p5; have g6 := (B8.cell (p := ⟨b7, 0, none⟩) lb6).trans x0; have g7 := (B8.cell (p := ⟨b7, 1, none⟩) lb6).trans x1; have g8 := (B8.cell (p := ⟨b7, 2, none⟩) lb6).trans x2; have g9 := (B8.cell (p := ⟨b7, 3, none⟩) lb6).trans x3; have ga := (B8.cell (p := ⟨b7, 4, none⟩) lb6).trans x4; have gb := (B8.cell (p := ⟨b7, 5, none⟩) lb6).trans x5))
          have hB8 := below_next (below_drewN hB6 1) B8
          have hb8 := (B8.block b7 lb6).trans hb6
          have hm8 : MB w8 w.heap.size q D := hm6.drew.kept (row := none) (grown_of_below B8) (by simp)
          have y0 := (blk_facts hb8).1 0
          clear g0 g1 g2 g3 g4 g5 g6 g7 g8 g9 ga gb p0 p1 p2 p3 p4 p5 x0 x1 x2 x3 x4 x5 e8 e9 B8 hB6 hm6
          by_cases hv : 0 ≤ V
          · obtain rfl : E = 7 := by rw [hE2.out, ← hS1.out, if_pos (by rw [hbv.out]; exact decide_eq_true hv)]
            clear hE2 hS1 hbv
            go_wp2
            go_ret
            exact ⟨rfl, hB8⟩
          · have hS2 := Lib.hid (show SG (D.put (.string dev.data.toList) (.lit (.bool true))) (prevSg l (k + 1)) (l.drop (k + 1)) = SG (.map []) none l by rw [← hS1.out, if_neg (by rw [hbv.out]; simpa using hv)])
            clear hS1 hbv
            go_wp2_with (at_mapUpdate; refine wpList_mapUpdate_own _ rfl _ _ _ 137 rfl 9 4 (string_keyed Tryz.underlying9) Tryz.underlying137 _ _ q _ rfl hm8 (by unfold maxLen; omega) _ _ _ rfl rfl (keyOf_string_mk Tryz.underlying9 (by unfold maxLen; omega)) _ [] (plainElem_bool Tryz.underlying4 true) ?_; intro w2 hown2 hg2)
            have hB2 := hB8.trans (grown_below hg2 (Nat.le_refl _) hB8.size)
            go_roundw
            case rel => exact ⟨k + 1, q + 1, _, by omega, by go_num, by omega, hown2, hB2, hS2⟩
            case measure => simp [intOf]; omega
    · obtain rfl : k = n := by omega
      have hln := hm.len Tryz.underlying137
      have hS : Hid (SG (.map []) none l = if 40 < Go.Maps.size D then 2 else 0) := Lib.hid (by rw [← hF.out, drop_end (by rw [hl.out]; exact Nat.le_refl _), hG0.out])
      clear hF hm
      have hbs : (0 : Int) ≤ (Go.Maps.size D : Nat) := by omega
      by_cases h40 : 40 < Go.Maps.size D
      · obtain rfl : E = 2 := by rw [hE2.out, hS.out, if_pos h40]
        have h40' : (40 : Int) < (Go.Maps.size D : Nat) := by omega
        clear hE2 hS
        go_wp2
        go_ret
        exact ⟨rfl, hB⟩
      · obtain rfl : E = 0 := by rw [hE2.out, hS.out, if_neg h40]
        have h40' : ¬ (40 : Int) < (Go.Maps.size D : Nat) := by omega
        clear hE2 hS
        go_wp2
        go_ret
        exact ⟨rfl, hB⟩
end Go.Proofs.YtnkhdofcmanipaaGreatDoor
