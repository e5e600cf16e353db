/- pad.heatOf, tumbref1.HeatAt, pad.checkBoth, pad.checkHeat, tumbref1.LaneFault, pad.Starts, pad.HeatOf. Printed by wip/genpadc.py. -/
import Derived.Test.YtmfebjeddgigmaaGreatDoorPadB
namespace Go.Proofs.YtmfebjeddgigmaaGreatDoor
open Go.RowKit Go.Shelf Go.Lib Go.Sort
set_option linter.unusedVariables false

/-- how many of a list are not later -/
def ct (tm : Int) : List Int → Nat
  | [] => 0
  | x :: r => (if x ≤ tm then 1 else 0) + ct tm r
/-- how many of a list, from its start on, are not later -/
def tw (tm : Int) : List Int → Nat
  | [] => 0
  | x :: r => if x ≤ tm then 1 + tw tm r else 0
theorem tw_le (tm : Int) : ∀ l, tw tm l ≤ l.length
  | [] => Nat.le_refl _
  | x :: r => by
    have := tw_le tm r
    unfold tw
    split <;> (rw [List.length_cons]; omega)
theorem ct_le (tm : Int) : ∀ l, ct tm l ≤ l.length
  | [] => Nat.le_refl _
  | x :: r => by
    have := ct_le tm r
    unfold ct
    split <;> (rw [List.length_cons]; omega)
theorem ct_zero {tm : Int} : ∀ {l : List Int}, (∀ x ∈ l, ¬ x ≤ tm) → ct tm l = 0
  | [], _ => rfl
  | x :: r, h => by
    unfold ct
    rw [if_neg (h x (List.mem_cons_self)), ct_zero (fun y hy => h y (List.mem_cons_of_mem _ hy))]
theorem tw_ct (tm : Int) : ∀ {l : List Int}, l.Pairwise (· ≤ ·) → tw tm l = ct tm l
  | [], _ => rfl
  | x :: r, h => by
    rw [List.pairwise_cons] at h
    unfold tw ct
    by_cases hx : x ≤ tm
    · rw [if_pos hx, if_pos hx, tw_ct tm h.2]
    · rw [if_neg hx, if_neg hx, ct_zero (fun y hy hle => hx (Int.le_trans (h.1 y hy) hle))]
theorem compact_sub {α : Type} [Inhabited α] [DecidableEq α] (zs : List α) : (Lib.compact zs).Sublist zs := by
  have h1 : (List.range zs.length).map (fun j => zs.toArray[j]!) = zs := by
    apply List.ext_getElem?
    intro i
    rw [List.getElem?_map]
    by_cases hi : i < zs.length
    · rw [List.getElem?_range hi]; simp [hi]
    · rw [List.getElem?_eq_none (by simpa using hi), List.getElem?_eq_none (by simpa using hi)]; rfl
  show (((List.range zs.length).filter (Lib.keeps zs.toArray)).map (fun j => zs.toArray[j]!)).Sublist zs
  have h2 := (List.filter_sublist (p := Lib.keeps zs.toArray) (l := List.range zs.length)).map (fun j => zs.toArray[j]!)
  rw [h1] at h2
  exact h2
theorem startsV_sorted (cl : List Ck) (l : List Sg) : (startsV cl l).Pairwise (· ≤ ·) := by
  refine List.Pairwise.sublist (compact_sub _) ?_
  have h := List.pairwise_mergeSort (le := fun x y : Int => decide (x ≤ y)) (fun a b c h1 h2 => by simp at *; omega) (fun a b => by simp; omega) (stGo cl l)
  exact h.imp (fun h => by simpa using h)
theorem tw_at {tm : Int} {l : List Int} {k : Nat} {x : Int} (h : l[k]? = some x) : tw tm (l.drop k) = if x ≤ tm then 1 + tw tm (l.drop (k + 1)) else 0 := by rw [drop_at h]; rfl
theorem ct_at {tm : Int} {l : List Int} {k : Nat} {x : Int} (h : l[k]? = some x) : ct tm (l.drop k) = (if x ≤ tm then 1 else 0) + ct tm (l.drop (k + 1)) := by rw [drop_at h]; rfl
/-- the heat at a moment; 0: there is none -/
def heatV (cl : List Ck) (l : List Sg) (tm : Int) : Nat := ct tm (startsV cl l)
theorem heatV_le (cl : List Ck) (l : List Sg) (tm : Int) : heatV cl l tm ≤ (startsV cl l).length := ct_le _ _
set_option maxHeartbeats 1600000 in
theorem padHeatOf_c (A : Option Addr) (n c : Nat) (l : List Int) (tm : Int) (w : World) (h : RI 3 w A n l) :
    Calls Tryz.prog 116 #[.slice A n c, .int .i64 tm] w fun e w' => e = .returned (.int .i64 (tw tm l : Nat)) ∧ w = w' := by
  have hl := Lib.hid h.len
  have hbd := h.bd
  have hGa := Lib.hid (fun k x (h : l[k]? = some x) => tw_at (tm := tm) h)
  have hG0 := Lib.hid (show tw tm [] = 0 from rfl)
  generalize tw tm = TW at *
  go_enter Tryz.func116, Tryz.ntmps116
  go_wp2_with fail
  go_loop [5] (fun i => ∃ k : Nat, k ≤ n ∧ i = .int .i64 k ∧ Hid (k + TW (l.drop k) = TW l)) (fun i => n - (intOf i).toNat)
  case atStart => exact ⟨0, Nat.zero_le _, rfl, Lib.hid (by rw [Nat.zero_add]; rfl)⟩
  case round =>
    obtain ⟨k, hk, rfl, hF⟩ := hrel
    by_cases hlt : k < n
    · obtain ⟨b, off, x, rfl, _, hx, hcell⟩ := h.at_ hlt
      have hS := Lib.hid (hGa.out k x hx)
      have hlti : (k : Int) < n := by omega
      clear hx h hGa
      by_cases hxt : x ≤ tm
      · have hS2 := Lib.hid (show (k + 1) + TW (l.drop (k + 1)) = TW l by rw [← hF.out, hS.out, if_pos hxt]; omega)
        clear hS hF
        go_wp2
        go_round
        case rel => exact ⟨k + 1, by omega, by go_num, hS2⟩
        case measure => simp [intOf]; omega
      · have hS2 := Lib.hid (show TW l = k by rw [← hF.out, hS.out, if_neg hxt]; omega)
        clear hS hF
        go_wp2
        go_ret
        exact ⟨ret_i (by rw [hS2.out]), rfl⟩
    · obtain rfl : k = n := by omega
      have hS2 := Lib.hid (show TW l = k by rw [← hF.out, drop_end (by rw [hl.out]; exact Nat.le_refl _), hG0.out]; omega)
      clear hF h
      go_wp2
      go_ret
      exact ⟨ret_i (by rw [hS2.out]), rfl⟩
set_option maxHeartbeats 1600000 in
theorem heatAt_c (Ac : Option Addr) (nc cc : Nat) (cl : List Ck) (A : Option Addr) (n c : Nat) (l : List Sg) (tm : Int) (w : World) (hc : RCk w Ac nc cl) (h : RSg w A n l) (hcb : CkBd cl) (hsb : SgBd l) (hn : n ≤ 3000) :
    Calls Tryz.prog 23 #[.slice Ac nc cc, .slice A n c, .int .i64 tm] w fun e w' => e = .returned (.int .i64 (heatV cl l tm : Nat)) ∧ Below w.heap.size w w' := by
  have hSt := Lib.hid (startsOf_c Ac nc cc cl A n c l w hc h hcb hsb hn)
  have hV := Lib.hid (show heatV cl l tm = ct tm (startsV cl l) from rfl)
  have hsl := startsV_len cl l
  rw [h.len] at hsl
  generalize heatV cl l tm = V at *
  generalize startsV cl l = S at *
  have hGa := Lib.hid (fun k x (h : S[k]? = some x) => ct_at (tm := tm) h)
  have hG0 := Lib.hid (show ct tm [] = 0 from rfl)
  have hGl := Lib.hid (ct_le tm)
  generalize ct tm = CT at *
  clear hc h hcb hsb
  go_enter Tryz.func23, Tryz.ntmps23
  go_wp2_with fail
  refine hSt.out.mono ?_; rintro e w1 ⟨A1, c1, rfl, ho, hB1⟩
  have hR1 := R1.of_own ho (by omega)
  have hbd := hR1.bd
  clear hSt ho
  go_wp2_with fail
  go_loopw [7, 14] (fun nv i wr => ∃ (k q : Nat), k ≤ S.length ∧ i = .int .i64 k ∧ nv = .int .i64 q ∧ q ≤ k ∧ wr = w1 ∧ Hid (q + CT (S.drop k) = CT S)) (fun _ i _ => S.length - (intOf i).toNat)
  case atStart => exact ⟨0, 0, Nat.zero_le _, rfl, rfl, Nat.le_refl _, rfl, Lib.hid (by rw [Nat.zero_add]; rfl)⟩
  case round =>
    obtain ⟨k, q, hk, rfl, rfl, hq, rfl, hF⟩ := hrel
    by_cases hlt : k < S.length
    · obtain ⟨b, off, x, rfl, _, hx, hcell⟩ := hR1.at_ hlt
      have hS := Lib.hid (hGa.out k x hx)
      have hlti : (k : Int) < (S.length : Nat) := by omega
      clear hx hGa
      by_cases hxt : x ≤ tm
      · have hS2 := Lib.hid (show (q + 1) + CT (S.drop (k + 1)) = CT S by rw [← hF.out, hS.out, if_pos hxt]; omega)
        clear hS hF
        go_wp2
        go_roundw
        case rel => exact ⟨k + 1, q + 1, by omega, by go_num, by go_num, by omega, trivial, hS2⟩
        case measure => simp [intOf]; omega
      · have hS2 := Lib.hid (show q + CT (S.drop (k + 1)) = CT S by rw [← hF.out, hS.out, if_neg hxt]; omega)
        clear hS hF
        go_wp2
        go_roundw
        case rel => exact ⟨k + 1, q, by omega, by go_num, rfl, by omega, trivial, hS2⟩
        case measure => simp [intOf]; omega
    · obtain rfl : k = S.length := by omega
      have hS2 := Lib.hid (show V = q by rw [hV.out, ← hF.out, drop_end (Nat.le_refl _), hG0.out]; rfl)
      clear hF hV
      go_wp2
      go_ret
      exact ⟨ret_i (by rw [hS2.out]), hB1⟩
def bothErr (cl : List Ck) (l : List Sg) : Int := if clkErr cl ≠ 0 then clkErr cl else sigErr l
theorem sigGo_ok : ∀ (l : List Sg) (D : DataW Unit) (o : Option Sg), sigGo D o l = 0 → ∀ x ∈ l, sg1 x = 0
  | [], _, _, _, _, h => by cases h
  | x :: l, D, o, h, y, hy => by
    have h1 : sg1 x = 0 := by
      unfold sigGo at h
      split at h
      · rename_i h9; exact absurd h h9
      · rename_i h9; exact Decidable.not_not.1 h9
    unfold sigGo at h
    rw [if_neg (fun h9 => h9 h1)] at h
    split at h
    · cases h
    rcases List.mem_cons.1 hy with rfl | hy
    · exact h1
    · exact sigGo_ok l _ _ h y hy
theorem sig_ok {l : List Sg} (h : sigErr l = 0) : l.length ≤ 3000 ∧ SgBd l := by
  unfold sigErr at h
  split at h
  · cases h
  · exact ⟨by omega, fun x hx => (sg1_ok (sigGo_ok l _ _ h x hx)).2.2.2⟩
theorem both_ok {cl : List Ck} {l : List Sg} (h : bothErr cl l = 0) : CkBd cl ∧ SgBd l ∧ l.length ≤ 3000 ∧ cl.length ≤ 400 := by
  unfold bothErr at h
  split at h
  · rename_i h1; exact absurd h h1
  · rename_i h1
    have h2 := clk_ok (Decidable.not_not.1 h1)
    have h3 := sig_ok h
    exact ⟨fun x hx => (h2.2 x hx).2, h3.2, h3.1, h2.1⟩
theorem checkBoth_c (Ac : Option Addr) (nc cc : Nat) (cl : List Ck) (A : Option Addr) (n c : Nat) (l : List Sg) (w : World) (hc : RCk w Ac nc cl) (h : RSg w A n l) :
    Calls Tryz.prog 110 #[.slice Ac nc cc, .slice A n c] w fun e w' => e = .returned (.int .i64 (bothErr cl l)) ∧ Below w.heap.size w w' := by
  have h1 := Lib.hid (checkClocks_c Ac nc cc cl w hc)
  have h2 := Lib.hid (fun W B => checkSignals_c A n c l W (h.below (w' := W) B))
  have hV := Lib.hid (show bothErr cl l = if clkErr cl ≠ 0 then clkErr cl else sigErr l from rfl)
  generalize bothErr cl l = V at *
  generalize clkErr cl = E1 at *
  generalize sigErr l = E2 at *
  clear hc h
  go_enter Tryz.func110, Tryz.ntmps110
  go_wp2_with fail
  refine h1.out.mono ?_; rintro e w1 ⟨rfl, B1⟩
  by_cases h0 : E1 = 0
  · subst h0
    obtain rfl : V = E2 := by rw [hV.out, if_neg (fun h => h rfl)]
    clear hV
    go_wp2_with fail
    refine (h2.out _ B1).mono ?_; rintro e w2 ⟨rfl, B2⟩
    have hB2 := below_next B1 B2
    go_wp2
    go_ret
    exact ⟨rfl, hB2⟩
  · obtain rfl : V = E1 := by rw [hV.out, if_pos h0]
    have hd : (V != 0) = true := by simpa using h0
    clear hV h0
    go_wp2
    go_ret
    exact ⟨rfl, B1⟩
def laneErr (cl : List Ck) (l : List Sg) (heat lane : Int) : Int := if ¬ (1 ≤ heat ∧ heat ≤ 60) ∨ ¬ (1 ≤ lane ∧ lane ≤ 10) then 1 else if ((startsV cl l).length : Int) < heat then 8 else 0
theorem laneFault_c (Ac : Option Addr) (nc cc : Nat) (cl : List Ck) (A : Option Addr) (n c : Nat) (l : List Sg) (heat lane : Int) (w : World) (hc : RCk w Ac nc cl) (h : RSg w A n l) (hcb : CkBd cl) (hsb : SgBd l) (hn : n ≤ 3000) :
    Calls Tryz.prog 25 #[.slice Ac nc cc, .slice A n c, .int .i64 heat, .int .i64 lane] w fun e w' => e = .returned (.int .i64 (laneErr cl l heat lane)) ∧ Below w.heap.size w w' := by
  have hSt := Lib.hid (startsOf_c Ac nc cc cl A n c l w hc h hcb hsb hn)
  have hV := Lib.hid (show laneErr cl l heat lane = if ¬ (1 ≤ heat ∧ heat ≤ 60) ∨ ¬ (1 ≤ lane ∧ lane ≤ 10) then 1 else if ((startsV cl l).length : Int) < heat then 8 else 0 from rfl)
  generalize laneErr cl l heat lane = V at *
  generalize startsV cl l = S at *
  clear hc h hcb hsb
  by_cases h1 : 1 ≤ heat ∧ heat ≤ 60
  · have d1 : decide (1 ≤ heat ∧ heat ≤ 60) = true := decide_eq_true h1
    by_cases h2 : 1 ≤ lane ∧ lane ≤ 10
    · have d2 : decide (1 ≤ lane ∧ lane ≤ 10) = true := decide_eq_true h2
      have hV2 := Lib.hid (show V = noneErr (decide ((S.length : Int) < heat)) by
        rw [hV.out, if_neg (by omega)]
        by_cases h3 : (S.length : Int) < heat
        · rw [if_pos h3, decide_eq_true h3]; rfl
        · rw [if_neg h3, decide_eq_false h3]; rfl)
      clear hV h1 h2
      go_enter Tryz.func25, Tryz.ntmps25
      go_wp2_with (go_at_call 106; refine (in_c _ _ _ _).mono ?_; rintro e w' ⟨rfl, rfl⟩; first | rw [d1] | rw [d2])
      refine hSt.out.mono ?_; rintro e w1 ⟨A1, c1, rfl, ho, hB1⟩
      clear hSt ho d1 d2
      go_wp2_with fail
      refine (noneFault_c _ _).mono ?_; rintro e w' ⟨rfl, rfl⟩
      go_wp2
      go_ret
      exact ⟨ret_i (by rw [hV2.out]), hB1⟩
    · have d2 : decide (1 ≤ lane ∧ lane ≤ 10) = false := decide_eq_false h2
      obtain rfl : V = 1 := by rw [hV.out, if_pos (.inr h2)]
      clear hV h1 h2 hSt
      go_enter Tryz.func25, Tryz.ntmps25
      go_wp2_with (go_at_call 106; refine (in_c _ _ _ _).mono ?_; rintro e w' ⟨rfl, rfl⟩; first | rw [d1] | rw [d2])
      go_ret
      exact ⟨rfl, Below.refl _ _⟩
  · have d1 : decide (1 ≤ heat ∧ heat ≤ 60) = false := decide_eq_false h1
    obtain rfl : V = 1 := by rw [hV.out, if_pos (.inl h1)]
    clear hV h1 hSt
    go_enter Tryz.func25, Tryz.ntmps25
    go_wp2_with (go_at_call 106; refine (in_c _ _ _ _).mono ?_; rintro e w' ⟨rfl, rfl⟩; rw [d1])
    go_ret
    exact ⟨rfl, Below.refl _ _⟩
theorem checkHeat_c (Ac : Option Addr) (nc cc : Nat) (cl : List Ck) (A : Option Addr) (n c : Nat) (l : List Sg) (heat lane : Int) (w : World) (hc : RCk w Ac nc cl) (h : RSg w A n l) :
    Calls Tryz.prog 117 #[.slice Ac nc cc, .slice A n c, .int .i64 heat, .int .i64 lane] w fun e w' => e = .returned (.int .i64 (if bothErr cl l ≠ 0 then bothErr cl l else laneErr cl l heat lane)) ∧ Below w.heap.size w w' := by
  have hCb := Lib.hid (checkBoth_c Ac nc cc cl A n c l w hc h)
  have hSt := Lib.hid (fun (h0 : bothErr cl l = 0) W (B : Below w.heap.size w W) => padStarts_c Ac nc cc cl A n c l W (hc.below B) (h.below B) (both_ok h0).1 (both_ok h0).2.1 (by rw [← h.len]; exact (both_ok h0).2.2.1))
  have hV := Lib.hid (show laneErr cl l heat lane = if ¬ (1 ≤ heat ∧ heat ≤ 60) ∨ ¬ (1 ≤ lane ∧ lane ≤ 10) then 1 else if ((startsV cl l).length : Int) < heat then 8 else 0 from rfl)
  generalize laneErr cl l heat lane = V at *
  generalize startsV cl l = S at *
  generalize bothErr cl l = E at *
  clear hc h
  by_cases h0 : E = 0
  rotate_left
  · have hd : (E != 0) = true := by simpa using h0
    rw [if_pos h0]
    clear hV h0 hSt
    go_enter Tryz.func117, Tryz.ntmps117
    go_wp2_with fail
    refine hCb.out.mono ?_; rintro e w1 ⟨rfl, B1⟩
    go_wp2
    go_ret
    exact ⟨rfl, B1⟩
  subst h0
  rw [if_neg (fun h => h rfl)]
  have hSt2 := Lib.hid (fun W B => hSt.out rfl W B)
  clear hSt
  by_cases h1 : 1 ≤ heat ∧ heat ≤ 60
  · have d1 : decide (1 ≤ heat ∧ heat ≤ 60) = true := decide_eq_true h1
    by_cases h2 : 1 ≤ lane ∧ lane ≤ 10
    · have d2 : decide (1 ≤ lane ∧ lane ≤ 10) = true := decide_eq_true h2
      have hV2 := Lib.hid (show V = if ((S.length : Nat) : Int) < heat then 8 else 0 by rw [hV.out, if_neg (by omega)])
      clear hV h1 h2
      go_enter Tryz.func117, Tryz.ntmps117
      go_wp2_with fail
      refine hCb.out.mono ?_; rintro e w1 ⟨rfl, B1⟩
      clear hCb
      go_wp2_with (go_at_call 139; refine (within_c _ _ _ _).mono ?_; rintro e w' ⟨rfl, rfl⟩; first | rw [d1] | rw [d2])
      refine (hSt2.out _ B1).mono ?_; rintro e w2 ⟨A1, c1, rfl, ho, hB2⟩
      have hB := below_next B1 hB2
      clear hSt2 ho d1 d2 B1 hB2
      by_cases h3 : ((S.length : Nat) : Int) < heat
      · obtain rfl : V = 8 := by rw [hV2.out, if_pos h3]
        go_wp2
        go_ret
        exact ⟨rfl, hB⟩
      · obtain rfl : V = 0 := by rw [hV2.out, if_neg h3]
        go_wp2
        go_ret
        exact ⟨rfl, hB⟩
    · have d2 : decide (1 ≤ lane ∧ lane ≤ 10) = false := decide_eq_false h2
      obtain rfl : V = 1 := by rw [hV.out, if_pos (.inr h2)]
      clear hV h1 h2 hSt2
      go_enter Tryz.func117, Tryz.ntmps117
      go_wp2_with fail
      refine hCb.out.mono ?_; rintro e w1 ⟨rfl, B1⟩
      go_wp2_with (go_at_call 139; refine (within_c _ _ _ _).mono ?_; rintro e w' ⟨rfl, rfl⟩; first | rw [d1] | rw [d2])
      go_ret
      exact ⟨rfl, B1⟩
  · have d1 : decide (1 ≤ heat ∧ heat ≤ 60) = false := decide_eq_false h1
    obtain rfl : V = 1 := by rw [hV.out, if_pos (.inl h1)]
    clear hV h1 hSt2
    go_enter Tryz.func117, Tryz.ntmps117
    go_wp2_with fail
    refine hCb.out.mono ?_; rintro e w1 ⟨rfl, B1⟩
    go_wp2_with (go_at_call 139; refine (within_c _ _ _ _).mono ?_; rintro e w' ⟨rfl, rfl⟩; rw [d1])
    go_ret
    exact ⟨rfl, B1⟩
/-- what Starts hands back -/
def RetSt2 (w : World) (E : Int) (L : List Int) (e : Ending) (w' : World) : Prop := ∃ A c, e = .returned (.tuple #[.slice A L.length c, .int .i64 E]) ∧ RI 3 w' A L.length L ∧ Below w.heap.size w w'
theorem starts20_c (Ac : Option Addr) (nc cc : Nat) (cl : List Ck) (A : Option Addr) (n c : Nat) (l : List Sg) (w : World) (hc : RCk w Ac nc cl) (h : RSg w A n l) :
    Calls Tryz.prog 18 #[.slice Ac nc cc, .slice A n c] w (RetSt2 w (bothErr cl l) (if bothErr cl l = 0 then startsV cl l else [])) := by
  have hCb := Lib.hid (checkBoth_c Ac nc cc cl A n c l w hc h)
  have hSt := Lib.hid (fun (h0 : bothErr cl l = 0) W (B : Below w.heap.size w W) => padStarts_c Ac nc cc cl A n c l W (hc.below B) (h.below B) (both_ok h0).1 (both_ok h0).2.1 (by rw [← h.len]; exact (both_ok h0).2.2.1))
  have hsl := startsV_len cl l
  rw [h.len] at hsl
  have hbd := h.bd
  generalize startsV cl l = S at *
  generalize bothErr cl l = E at *
  clear hc h
  by_cases h0 : E = 0
  rotate_left
  · have hd : (E != 0) = true := by simpa using h0
    rw [if_neg h0]
    clear h0 hSt
    go_enter Tryz.func18, Tryz.ntmps18
    go_wp2_with fail
    refine hCb.out.mono ?_; rintro e w1 ⟨rfl, B1⟩
    go_wp2
    go_ret2
    exact ⟨none, 0, rfl, R1.nil_ _ _ _ _, B1⟩
  subst h0
  rw [if_pos rfl]
  have hSt2 := Lib.hid (fun W B => hSt.out rfl W B)
  clear hSt
  go_enter Tryz.func18, Tryz.ntmps18
  go_wp2_with fail
  refine hCb.out.mono ?_; rintro e w1 ⟨rfl, B1⟩
  clear hCb
  go_wp2_with fail
  refine (hSt2.out _ B1).mono ?_; rintro e w2 ⟨A1, c1, rfl, ho, hB2⟩
  have hB := below_next B1 hB2
  have hR := R1.of_own ho (by omega)
  clear hSt2 ho B1 hB2
  go_wp2
  go_ret2
  exact ⟨A1, c1, rfl, hR, hB⟩
def momErr (tm : Int) : Int := if 0 ≤ tm ∧ tm ≤ 345686399999 then 0 else 1
def hofE (cl : List Ck) (l : List Sg) (tm : Int) : Int := if bothErr cl l ≠ 0 then bothErr cl l else momErr tm
def hofV (cl : List Ck) (l : List Sg) (tm : Int) : Nat := if hofE cl l tm = 0 then heatV cl l tm else 0
set_option maxHeartbeats 1600000 in
theorem heatOf23_c (Ac : Option Addr) (nc cc : Nat) (cl : List Ck) (A : Option Addr) (n c : Nat) (l : List Sg) (tm : Int) (w : World) (hc : RCk w Ac nc cl) (h : RSg w A n l) :
    Calls Tryz.prog 21 #[.slice Ac nc cc, .slice A n c, .int .i64 tm] w fun e w' => e = .returned (.tuple #[.int .i64 (hofV cl l tm : Nat), .bool (decide (0 < hofV cl l tm)), .int .i64 (hofE cl l tm)]) ∧ Below w.heap.size w w' := by
  have hCb := Lib.hid (checkBoth_c Ac nc cc cl A n c l w hc h)
  have hSt := Lib.hid (fun (h0 : bothErr cl l = 0) W (B : Below w.heap.size w W) => padStarts_c Ac nc cc cl A n c l W (hc.below B) (h.below B) (both_ok h0).1 (both_ok h0).2.1 (by rw [← h.len]; exact (both_ok h0).2.2.1))
  have hsl := startsV_len cl l
  rw [h.len] at hsl
  have hbd := h.bd
  have hVE := Lib.hid (show hofE cl l tm = if bothErr cl l ≠ 0 then bothErr cl l else if 0 ≤ tm ∧ tm ≤ 345686399999 then 0 else 1 from rfl)
  have hVV := Lib.hid (show hofV cl l tm = if hofE cl l tm = 0 then tw tm (startsV cl l) else 0 by unfold hofV heatV; rw [tw_ct tm (startsV_sorted cl l)])
  have htl := tw_le tm (startsV cl l)
  have hHo := Lib.hid (fun S A n c W h => padHeatOf_c A n c S tm W h)
  generalize hofV cl l tm = VV at *
  generalize hofE cl l tm = VE at *
  generalize startsV cl l = S at *
  generalize bothErr cl l = E at *
  generalize tw tm = TW at *
  clear hc h
  by_cases h0 : E = 0
  rotate_left
  · have hd : (E != 0) = true := by simpa using h0
    obtain rfl : VE = E := by rw [hVE.out, if_pos h0]
    obtain rfl : VV = 0 := by rw [hVV.out, if_neg h0]
    clear h0 hSt hVE hVV hHo
    go_enter Tryz.func21, Tryz.ntmps21
    go_wp2_with fail
    refine hCb.out.mono ?_; rintro e w1 ⟨rfl, B1⟩
    go_wp2
    go_ret3
    exact ⟨rfl, B1⟩
  subst h0
  have hSt2 := Lib.hid (fun W B => hSt.out rfl W B)
  clear hSt
  by_cases h1 : 0 ≤ tm ∧ tm ≤ 345686399999
  · have d1 : decide (0 ≤ tm ∧ tm ≤ 345686399999) = true := decide_eq_true h1
    obtain rfl : VE = 0 := by rw [hVE.out, if_neg (fun h => h rfl), if_pos h1]
    have hVV2 := Lib.hid (show VV = TW S by rw [hVV.out, if_pos rfl])
    clear hVE hVV h1
    go_enter Tryz.func21, Tryz.ntmps21
    go_wp2_with fail
    refine hCb.out.mono ?_; rintro e w1 ⟨rfl, B1⟩
    clear hCb
    go_wp2_with (go_at_call 115; refine (isMoment_c _ _).mono ?_; rintro e w' ⟨rfl, rfl⟩; rw [d1])
    refine (hSt2.out _ B1).mono ?_; rintro e w2 ⟨A1, c1, rfl, ho, hB2⟩
    have hB := below_next B1 hB2
    have hR := R1.of_own ho (by omega)
    have hH := Lib.hid (hHo.out S A1 S.length c1 w2 hR)
    rw [← hVV2.out] at hH
    clear hSt2 ho B1 hB2 d1 hHo hR
    go_wp2_with fail
    refine hH.out.mono ?_; rintro e w' ⟨rfl, rfl⟩
    have e1 : decide ((0 : Int) < (VV : Nat)) = decide (0 < VV) := by by_cases h : 0 < VV <;> simp [h]
    generalize decide (0 < VV) = dd at *
    go_wp2
    go_ret3
    exact ⟨by first | rfl | (rw [e1]; rfl) | (rw [e1]), hB⟩
  · have d1 : decide (0 ≤ tm ∧ tm ≤ 345686399999) = false := decide_eq_false h1
    obtain rfl : VE = 1 := by rw [hVE.out, if_neg (fun h => h rfl), if_neg h1]
    obtain rfl : VV = 0 := by rw [hVV.out, if_neg (by decide)]
    clear hVE hVV h1 hSt2 hHo
    go_enter Tryz.func21, Tryz.ntmps21
    go_wp2_with fail
    refine hCb.out.mono ?_; rintro e w1 ⟨rfl, B1⟩
    clear hCb
    go_wp2_with (go_at_call 115; refine (isMoment_c _ _).mono ?_; rintro e w' ⟨rfl, rfl⟩; rw [d1])
    go_ret3
    exact ⟨rfl, B1⟩
end Go.Proofs.YtmfebjeddgigmaaGreatDoor
