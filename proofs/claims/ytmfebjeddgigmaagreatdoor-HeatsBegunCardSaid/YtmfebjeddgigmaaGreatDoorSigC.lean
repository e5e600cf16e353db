/- Signals as data; pad.checkSignal, pad.compare, tumbref1.bySignal, pad.CheckSignals, tumbref1.SignalsFault. Printed by wip/gensig.py. -/
import Derived.Test.YtmfebjeddgigmaaGreatDoorSeedC
import Derived.Test.YtmfebjeddgigmaaGreatDoorFill
import Derived.Deep.RegionHeld3
import Derived.BigGuardPart
namespace Go.Proofs.YtmfebjeddgigmaaGreatDoor
open Go.RowKit Go.Shelf Go.Lib Go.Sort
open Go.Maps (Keyed string_keyed)
open Go.WideMaps (keyOf_string_mk)
set_option linter.unusedVariables false

structure Sg where
  dev : ByteArray
  no : Int
  kind : Int
  tm : Int
  lane : Int
  time : Int
instance : Inhabited Sg := ⟨⟨⟨#[]⟩, 0, 0, 0, 0, 0⟩⟩
def sgE (x : Sg) : List Value := [.string x.dev, .int .i64 x.no, .int .i64 x.kind, .int .i64 x.tm, .int .i64 x.lane, .int .i64 x.time]
theorem sgE_len : ∀ x, (sgE x).length = 6 := fun _ => rfl
def Sg.cells (x : Sg) : Array Value := #[.string x.dev, .int .i64 x.no, .int .i64 x.kind, .int .i64 x.tm, .int .i64 x.lane, .int .i64 x.time]
def Sg.val (x : Sg) : Value := .agg #[.string x.dev, .int .i64 x.no, .int .i64 x.kind, .int .i64 x.tm, .int .i64 x.lane, .int .i64 x.time]
abbrev RSg (w : World) (A : Option Addr) (n : Nat) (l : List Sg) : Prop := RN 6 sgE 155 w A n l
theorem RSg_at6 {w : World} {A : Option Addr} {n : Nat} {l : List Sg} (h : RSg w A n l) {k : Nat} (hk : k < n) : ∃ b off x, A = some ⟨b, off, none⟩ ∧ b < w.heap.size ∧ l[k]? = some x ∧ w.cell? ⟨b, off + k * 6, none⟩ = some (.string x.dev) ∧ w.cell? ⟨b, off + k * 6 + 1, none⟩ = some (.int .i64 x.no) ∧ w.cell? ⟨b, off + k * 6 + 2, none⟩ = some (.int .i64 x.kind) ∧ w.cell? ⟨b, off + k * 6 + 3, none⟩ = some (.int .i64 x.tm) ∧ w.cell? ⟨b, off + k * 6 + 4, none⟩ = some (.int .i64 x.lane) ∧ w.cell? ⟨b, off + k * 6 + 5, none⟩ = some (.int .i64 x.time) := by
  obtain ⟨b, off, x, hA, hb, hx, hc⟩ := h.at_ hk
  exact ⟨b, off, x, hA, hb, hx, hc 0 _ rfl, hc 1 _ rfl, hc 2 _ rfl, hc 3 _ rfl, hc 4 _ rfl, hc 5 _ rfl⟩
theorem info_signal : (Tryz.prog.info? 155).map (fun i => (i.zero, i.size, i.bytes)) = some (some (.agg #[.string ⟨#[]⟩, .int .i64 0, .int .i64 0, .int .i64 0, .int .i64 0, .int .i64 0]), 6, 56) := by kernel_rfl
theorem orP_c (A : Option Addr) (n c : Nat) (l : List Int) (w : World) (h : RI 3 w A n l) :
    Calls Tryz.prog 107 #[.slice A n c] w fun e w' => e = .returned (.int .i64 (orV l)) ∧ w = w' := by
  have hl := h.len
  have hb := h.bd
  go_enter Tryz.func107, Tryz.ntmps107
  go_wp2
  go_loop [8] (fun i => ∃ k : Nat, k ≤ n ∧ i = .int .i64 k ∧ Hid (orV (l.drop k) = orV l)) (fun i => n - (intOf i).toNat)
  case atStart => exact ⟨0, Nat.zero_le _, rfl, Lib.hid rfl⟩
  case round =>
    obtain ⟨k, hk, rfl, hF⟩ := hrel
    by_cases hlt : k < n
    · obtain ⟨b, off, x, rfl, _, hx, hcell⟩ := h.at_ hlt
      have hS := Lib.hid (orV_at hx)
      clear hx h hl
      go_wp2
      · go_ret
        exact ⟨ret_i (by rw [← hF.out, hS.out, if_pos (by first | omega | (simp_all; done) | (simp_all; omega))]), rfl⟩
      · go_round
        case rel => exact ⟨k + 1, by omega, by go_num, Lib.hid (by rw [← hF.out, hS.out, if_neg (by first | omega | (simp_all; done) | (simp_all; omega))])⟩
        case measure => simp [intOf]; omega
    · have hS : Hid (orV l = 0) := Lib.hid (by rw [← hF.out, drop_end (by omega)]; rfl)
      clear hl
      go_wp2
      go_ret
      exact ⟨ret_i (by rw [hS.out]), rfl⟩
def cmpB (a b : ByteArray) : Int := Lib.compareBytes a.data.toList b.data.toList
def sgCf (x y : Sg) : Int := orV [cmpB x.dev y.dev, Lib.compareInt x.no y.no]
theorem sgCf_val (x y : Sg) : sgCf x y = if cmpB x.dev y.dev ≠ 0 then cmpB x.dev y.dev else Lib.compareInt x.no y.no := by
  unfold sgCf
  simp only [orV]
  split
  · rfl
  · split <;> omega
theorem alloc_sizeS (w : World) (o : Obj) : (w.alloc o).heap.size = w.heap.size + 1 := by simp
theorem isMoment_c (n : Int) (w : World) : Calls Tryz.prog 115 #[.int .i64 n] w fun e w' => e = .returned (.bool (decide (0 ≤ n ∧ n ≤ 345686399999))) ∧ w = w' := by
  by_cases h0 : 0 ≤ n
  · by_cases h1 : n < 345686400000
    · have e : decide (0 ≤ n ∧ n ≤ 345686399999) = true := decide_eq_true (by omega)
      rw [e]
      exact moment_c n w h0 h1
    · have e : decide (0 ≤ n ∧ n ≤ 345686399999) = false := decide_eq_false (by omega)
      rw [e]
      clear e
      go_enter Tryz.func115, Tryz.ntmps115
      go_wp2
      go_ret
      exact ⟨rfl, rfl⟩
  · have e : decide (0 ≤ n ∧ n ≤ 345686399999) = false := decide_eq_false (by omega)
    rw [e]
    clear e
    go_enter Tryz.func115, Tryz.ntmps115
    go_wp2
    go_ret
    exact ⟨rfl, rfl⟩
theorem momentFault_c (n : Int) (w : World) : Calls Tryz.prog 22 #[.int .i64 n] w fun e w' => e = .returned (.int .i64 (if 0 ≤ n ∧ n ≤ 345686399999 then 0 else 1)) ∧ w = w' := by
  by_cases h0 : 0 ≤ n ∧ n ≤ 345686399999
  · have e : decide (0 ≤ n ∧ n ≤ 345686399999) = true := decide_eq_true h0
    rw [if_pos h0]
    clear h0
    go_enter Tryz.func22, Tryz.ntmps22
    go_wp2_with (go_at_call 106; refine (in_c _ _ _ _).mono ?_; rintro e w' ⟨rfl, rfl⟩; rw [e])
    go_ret
    exact ⟨rfl, rfl⟩
  · have e : decide (0 ≤ n ∧ n ≤ 345686399999) = false := decide_eq_false h0
    rw [if_neg h0]
    clear h0
    go_enter Tryz.func22, Tryz.ntmps22
    go_wp2_with (go_at_call 106; refine (in_c _ _ _ _).mono ?_; rintro e w' ⟨rfl, rfl⟩; rw [e])
    go_ret
    exact ⟨rfl, rfl⟩
set_option maxRecDepth 100000 in
theorem sgCompare_c (x y : Sg) (W : World) : Calls Tryz.prog 279 #[.agg (sgE x).toArray, .agg (sgE y).toArray] W fun e w' => e = .returned (.int .i64 (sgCf x y)) ∧ Below W.heap.size W w' ∧ W.drawn ≤ w'.drawn := by
  have hV := Lib.hid (show sgCf x y = orV [cmpB x.dev y.dev, Lib.compareInt x.no y.no] from rfl)
  generalize sgCf x y = V at *
  obtain ⟨a, b, c, d, f, t⟩ := x
  obtain ⟨a', b', c', d', f', t'⟩ := y
  dsimp only [sgE] at *
  have hC := Lib.hid (fun W => show Calls Tryz.prog 108 #[.int .i64 b, .int .i64 b'] W fun e w' => e = .returned (.int .i64 (Lib.compareInt b b')) ∧ W = w' from (Tryz.cmp_Compare_int b b' W).mono fun _ _ ⟨h1, h2⟩ => ⟨h1, h2.symm⟩)
  have hS := Lib.hid (fun W => show Calls Tryz.prog 102 #[.string a, .string a'] W fun e w' => e = .returned (.int .i64 (cmpB a a')) ∧ W = w' from (Tryz.strings_Compare a a' W).mono fun _ _ ⟨h1, h2⟩ => ⟨h1, h2.symm⟩)
  generalize hu : cmpB a a' = u at *
  generalize hv : Lib.compareInt b b' = v at *
  clear hu hv
  have hb0 := heap_alloc_new W (.cells #[.string a, .int .i64 b, .int .i64 c, .int .i64 d, .int .i64 f, .int .i64 t] 155)
  have hb1 := blk_alloc hb0 (.cells #[.string a', .int .i64 b', .int .i64 c', .int .i64 d', .int .i64 f', .int .i64 t'] 155)
  have hb2 := heap_alloc_new (W.alloc (.cells #[.string a, .int .i64 b, .int .i64 c, .int .i64 d, .int .i64 f, .int .i64 t] 155)) (.cells #[.string a', .int .i64 b', .int .i64 c', .int .i64 d', .int .i64 f', .int .i64 t'] 155)
  rw [alloc_sizeS] at hb2
  have hBB := below_box (below_box (Below.refl ((W.alloc (.cells #[.string a, .int .i64 b, .int .i64 c, .int .i64 d, .int .i64 f, .int .i64 t] 155)).alloc (.cells #[.string a', .int .i64 b', .int .i64 c', .int .i64 d', .int .i64 f', .int .i64 t'] 155)).heap.size _))
  have hD : ((W.alloc (.cells #[.string a, .int .i64 b, .int .i64 c, .int .i64 d, .int .i64 f, .int .i64 t] 155)).alloc (.cells #[.string a', .int .i64 b', .int .i64 c', .int .i64 d', .int .i64 f', .int .i64 t'] 155)).drawn = W.drawn := rfl
  go_enter Tryz.func279, Tryz.ntmps279
  go_wp2_with fail
  generalize (W.alloc (.cells #[.string a, .int .i64 b, .int .i64 c, .int .i64 d, .int .i64 f, .int .i64 t] 155)).alloc (.cells #[.string a', .int .i64 b', .int .i64 c', .int .i64 d', .int .i64 f', .int .i64 t'] 155) = w5 at *
  generalize hbx : W.heap.size = bx at *
  have z0 := (blk_facts hb1).1 0
  have z1 := (blk_facts hb1).1 1
  have y0 := (blk_facts hb2).1 0
  have y1 := (blk_facts hb2).1 1
  clear hb0
  go_region_held3 (fun w' => w'.cell? ⟨bx, 0, none⟩ = some (.string a) ∧ w'.cell? ⟨bx, 1, none⟩ = some (.int .i64 b) ∧ w'.cell? ⟨bx + 1, 0, none⟩ = some (.string a') ∧ w'.cell? ⟨bx + 1, 1, none⟩ = some (.int .i64 b')) (go_keep)
    (first
      | (go_at_call 102; refine (hS.out _).mono ?_; rintro e w' ⟨rfl, rfl⟩)
      | (go_at_call 108; refine (hC.out _).mono ?_; rintro e w' ⟨rfl, rfl⟩)
      | (go_at_call 107; refine (orP_c _ _ _ [u, v] _ (R1.litAt _ _ _ _ (by simp) rfl (by simp)).drew).mono ?_; rintro e w' ⟨rfl, rfl⟩))
  have hz := below_drewN (hBB.alloc (by have := hBB.size; omega) (.cells #[.int .i64 u, .int .i64 v] 3)) 1
  go_wp2
  go_ret
  exact ⟨ret_i hV.out.symm, hbx ▸ hz, by show W.drawn ≤ w5.drawn + 1; omega⟩
set_option maxRecDepth 100000 in
theorem bySignal_c (x y : Sg) (W : World) : Calls Tryz.prog 109 #[.agg (sgE x).toArray, .agg (sgE y).toArray] W fun e w' => e = .returned (.int .i64 (sgCf x y)) ∧ Below W.heap.size W w' ∧ W.drawn ≤ w'.drawn := by
  have hV := Lib.hid (show sgCf x y = orV [cmpB x.dev y.dev, Lib.compareInt x.no y.no] from rfl)
  generalize sgCf x y = V at *
  obtain ⟨a, b, c, d, f, t⟩ := x
  obtain ⟨a', b', c', d', f', t'⟩ := y
  dsimp only [sgE] at *
  have hC := Lib.hid (fun W => show Calls Tryz.prog 108 #[.int .i64 b, .int .i64 b'] W fun e w' => e = .returned (.int .i64 (Lib.compareInt b b')) ∧ W = w' from (Tryz.cmp_Compare_int b b' W).mono fun _ _ ⟨h1, h2⟩ => ⟨h1, h2.symm⟩)
  have hS := Lib.hid (fun W => show Calls Tryz.prog 102 #[.string a, .string a'] W fun e w' => e = .returned (.int .i64 (cmpB a a')) ∧ W = w' from (Tryz.strings_Compare a a' W).mono fun _ _ ⟨h1, h2⟩ => ⟨h1, h2.symm⟩)
  generalize hu : cmpB a a' = u at *
  generalize hv : Lib.compareInt b b' = v at *
  clear hu hv
  have hb0 := heap_alloc_new W (.cells #[.string a, .int .i64 b, .int .i64 c, .int .i64 d, .int .i64 f, .int .i64 t] 155)
  have hb1 := blk_alloc hb0 (.cells #[.string a', .int .i64 b', .int .i64 c', .int .i64 d', .int .i64 f', .int .i64 t'] 155)
  have hb2 := heap_alloc_new (W.alloc (.cells #[.string a, .int .i64 b, .int .i64 c, .int .i64 d, .int .i64 f, .int .i64 t] 155)) (.cells #[.string a', .int .i64 b', .int .i64 c', .int .i64 d', .int .i64 f', .int .i64 t'] 155)
  rw [alloc_sizeS] at hb2
  have hBB := below_box (below_box (Below.refl ((W.alloc (.cells #[.string a, .int .i64 b, .int .i64 c, .int .i64 d, .int .i64 f, .int .i64 t] 155)).alloc (.cells #[.string a', .int .i64 b', .int .i64 c', .int .i64 d', .int .i64 f', .int .i64 t'] 155)).heap.size _))
  have hD : ((W.alloc (.cells #[.string a, .int .i64 b, .int .i64 c, .int .i64 d, .int .i64 f, .int .i64 t] 155)).alloc (.cells #[.string a', .int .i64 b', .int .i64 c', .int .i64 d', .int .i64 f', .int .i64 t'] 155)).drawn = W.drawn := rfl
  go_enter Tryz.func109, Tryz.ntmps109
  go_wp2_with fail
  generalize (W.alloc (.cells #[.string a, .int .i64 b, .int .i64 c, .int .i64 d, .int .i64 f, .int .i64 t] 155)).alloc (.cells #[.string a', .int .i64 b', .int .i64 c', .int .i64 d', .int .i64 f', .int .i64 t'] 155) = w5 at *
  generalize hbx : W.heap.size = bx at *
  have z0 := (blk_facts hb1).1 0
  have z1 := (blk_facts hb1).1 1
  have y0 := (blk_facts hb2).1 0
  have y1 := (blk_facts hb2).1 1
  clear hb0
  go_region_held3 (fun w' => w'.cell? ⟨bx, 0, none⟩ = some (.string a) ∧ w'.cell? ⟨bx, 1, none⟩ = some (.int .i64 b) ∧ w'.cell? ⟨bx + 1, 0, none⟩ = some (.string a') ∧ w'.cell? ⟨bx + 1, 1, none⟩ = some (.int .i64 b')) (go_keep)
    (first
      | (go_at_call 102; refine (hS.out _).mono ?_; rintro e w' ⟨rfl, rfl⟩)
      | (go_at_call 108; refine (hC.out _).mono ?_; rintro e w' ⟨rfl, rfl⟩)
      | (go_at_call 107; refine (orP_c _ _ _ [u, v] _ (R1.litAt _ _ _ _ (by simp) rfl (by simp)).drew).mono ?_; rintro e w' ⟨rfl, rfl⟩))
  have hz := below_drewN (hBB.alloc (by have := hBB.size; omega) (.cells #[.int .i64 u, .int .i64 v] 3)) 1
  go_wp2
  go_ret
  exact ⟨ret_i hV.out.symm, hbx ▸ hz, by show W.drawn ≤ w5.drawn + 1; omega⟩
/-- the error of a signal alone -/
def sg1 (x : Sg) : Int :=
  if keyB x.dev = false then 5
  else if ¬ (1 ≤ x.kind ∧ x.kind ≤ 4) then 4
  else if ¬ (1 ≤ x.no ∧ x.no ≤ 3000) then 1
  else if ¬ (0 ≤ x.tm ∧ x.tm ≤ 345686399999) then 1
  else if x.kind = 1 ∧ x.lane ≠ 0 then 1
  else if x.kind ≠ 1 ∧ ¬ (1 ≤ x.lane ∧ x.lane ≤ 10) then 1
  else if x.kind = 4 ∧ ¬ (1 ≤ x.time ∧ x.time ≤ 360000) then 1
  else if x.kind ≠ 4 ∧ x.time ≠ 0 then 3 else 0
theorem sg1_ok {x : Sg} (h : sg1 x = 0) : keyB x.dev = true ∧ (1 ≤ x.kind ∧ x.kind ≤ 4) ∧ (1 ≤ x.no ∧ x.no ≤ 3000) ∧ (0 ≤ x.tm ∧ x.tm ≤ 345686399999) := by
  unfold sg1 at h
  split at h
  · cases h
  split at h
  · cases h
  split at h
  · cases h
  split at h
  · cases h
  rename_i h1 h2 h3 h4
  exact ⟨by simpa using h1, Decidable.not_not.1 h2, Decidable.not_not.1 h3, Decidable.not_not.1 h4⟩
set_option maxHeartbeats 3200000 in
set_option maxRecDepth 100000 in
theorem checkSignal_c (x : Sg) (w : World) : Calls Tryz.prog 278 #[x.val] w fun e w' => e = .returned (.int .i64 (sg1 x)) ∧ Below w.heap.size w w' := by
  obtain ⟨dev, no, kind, tm, lane, time⟩ := x
  dsimp only [Sg.val]
  have hE := Lib.hid (show sg1 ⟨dev, no, kind, tm, lane, time⟩ = if keyB dev = false then 5
    else if ¬ (1 ≤ kind ∧ kind ≤ 4) then 4
    else if ¬ (1 ≤ no ∧ no ≤ 3000) then 1
    else if ¬ (0 ≤ tm ∧ tm ≤ 345686399999) then 1
    else if kind = 1 ∧ lane ≠ 0 then 1
    else if kind ≠ 1 ∧ ¬ (1 ≤ lane ∧ lane ≤ 10) then 1
    else if kind = 4 ∧ ¬ (1 ≤ time ∧ time ≤ 360000) then 1
    else if kind ≠ 4 ∧ time ≠ 0 then 3 else 0 from rfl)
  generalize sg1 ⟨dev, no, kind, tm, lane, time⟩ = E at *
  have hkey := Lib.hid (fun W => isKey_c dev W)
  generalize keyB dev = kb at *
  have hb0 := heap_alloc_new w (.cells #[.string dev, .int .i64 no, .int .i64 kind, .int .i64 tm, .int .i64 lane, .int .i64 time] 155)
  have hB0 := below_new w (.cells #[.string dev, .int .i64 no, .int .i64 kind, .int .i64 tm, .int .i64 lane, .int .i64 time] 155)
  have z2 := (blk_facts hb0).1 2
  go_enter Tryz.func278, Tryz.ntmps278
  go_wp2_with fail
  go_quiet (fail)
  go_wp2_with fail
  refine (hkey.out _).mono ?_; rintro e w6 ⟨rfl, B6⟩
  have hb6 := (B6.block w.heap.size (lt_of_heap hb0)).trans hb0
  have hB6 : Below w.heap.size w w6 := below_next (below_drewN hB0 _) B6
  have x1 := (blk_facts hb6).1 1
  have x2 := (blk_facts hb6).1 2
  have x3 := (blk_facts hb6).1 3
  have x4 := (blk_facts hb6).1 4
  have x5 := (blk_facts hb6).1 5
  clear hb0 hB0 z2 B6 hkey
  go_wp2_with (first
    | (go_at_call 139; refine (within_c _ _ _ _).mono ?_; rintro e w' ⟨rfl, rfl⟩)
    | (go_at_call 115; refine (isMoment_c _ _).mono ?_; rintro e w' ⟨rfl, rfl⟩))
  all_goals (go_ret; refine ⟨ret_i ?_, hB6⟩; rw [hE.out]; clear hE hB6 hb6 x1 x2 x3 x4 x5; cases kb <;> simp at * <;> (repeat' split) <;> first | rfl | omega)
end Go.Proofs.YtmfebjeddgigmaaGreatDoor
