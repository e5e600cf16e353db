import Derived.Test.YtpepdkgkdbnakaaGreatDoorClkC
import Derived.Test.YtpepdkgkdbnakaaGreatDoorSigD
import Derived.Test.YtpepdkgkdbnakaaGreatDoorSortB
/- pad.right, tumbref1.RightAt; pad.starts, tumbref1.StartsOf; pad.heatOf, tumbref1.HeatAt. Printed by wip/genpad.py. -/
namespace Go.Proofs.YtpepdkgkdbnakaaGreatDoor
open Go.RowKit Go.Shelf Go.Lib Go.Sort
set_option linter.unusedVariables false

def CkBd (cl : List Ck) : Prop := ∀ x ∈ cl, -3600000 ≤ x.ahead ∧ x.ahead ≤ 3600000
def SgBd (l : List Sg) : Prop := ∀ x ∈ l, 0 ≤ x.tm ∧ x.tm ≤ 345686399999
def aheadGo (dev : ByteArray) (tm : Int) : Int → List Ck → Int
  | a, [] => a
  | a, x :: r => aheadGo dev tm (if x.dev.toList = dev.toList ∧ x.from_ ≤ tm then x.ahead else a) r
theorem aheadGo_at {dev : ByteArray} {tm : Int} {l : List Ck} {k : Nat} {x : Ck} (a : Int) (h : l[k]? = some x) : aheadGo dev tm a (l.drop k) = aheadGo dev tm (if x.dev.toList = dev.toList ∧ x.from_ ≤ tm then x.ahead else a) (l.drop (k + 1)) := by rw [drop_at h]; rfl
/-- the moment of the pool -/
def rightV (cl : List Ck) (dev : ByteArray) (tm : Int) : Int := min (max (tm - aheadGo dev tm 0 cl) 0) 345686399999
theorem rightV_bd (cl : List Ck) (dev : ByteArray) (tm : Int) : 0 ≤ rightV cl dev tm ∧ rightV cl dev tm ≤ 345686399999 := by unfold rightV; omega
set_option maxHeartbeats 3200000 in
set_option maxRecDepth 100000 in
theorem padRight_c (A : Option Addr) (n c : Nat) (l : List Ck) (dev : ByteArray) (tm : Int) (w : World) (h : RCk w A n l) (hb : CkBd l) (ht : 0 ≤ tm ∧ tm ≤ 345686399999) :
    Calls Tryz.prog 227 #[.slice A n c, .string dev, .int .i64 tm] w fun e w' => e = .returned (.int .i64 (rightV l dev tm)) ∧ Below w.heap.size w w' := by
  have hbd := h.bd
  have hR := Lib.hid (fun W B => h.below (w' := W) B)
  have hl := Lib.hid h.len
  have hGa := Lib.hid (fun a k x (h : l[k]? = some x) => aheadGo_at (dev := dev) (tm := tm) a h)
  have hG0 := Lib.hid (fun a => show aheadGo dev tm a [] = a from rfl)
  have hb' := Lib.hid (fun k x (h : l[k]? = some x) => hb x (List.mem_of_getElem? h))
  have hV := Lib.hid (show rightV l dev tm = min (max (tm - aheadGo dev tm 0 l) 0) 345686399999 from rfl)
  generalize rightV l dev tm = V at *
  generalize aheadGo dev tm = SG at *
  have hB0 := Below.refl w.heap.size w
  clear h hb
  go_enter Tryz.func227, Tryz.ntmps227
  go_wp2_with fail
  go_loopw [7, 12] (fun av i wr => ∃ (k : Nat) (a : Int), k ≤ n ∧ i = .int .i64 k ∧ av = .int .i64 a ∧ (-3600000 ≤ a ∧ a ≤ 3600000) ∧ Below w.heap.size w wr ∧ Hid (SG a (l.drop k) = SG 0 l)) (fun _ i _ => n - (intOf i).toNat)
  case atStart => exact ⟨0, 0, Nat.zero_le _, rfl, rfl, by omega, hB0, Lib.hid rfl⟩
  case round =>
    clear hB0
    obtain ⟨k, a, hk, rfl, rfl, ha, hB, hF⟩ := hrel
    by_cases hlt : k < n
    · obtain ⟨b, off, x, rfl, hbl, hx, c0, c1, c2⟩ := RCk_at3 (hR.out _ hB) hlt
      have hS := Lib.hid ((hGa.out a k x hx).symm.trans hF.out)
      have hxb := hb'.out k x hx
      have hmw := hB.size
      clear hx hF
      obtain ⟨dev2, fr, ah⟩ := x
      dsimp only at *
      have hBn := hB.alloc hB.size (.cells #[.string dev2, .int .i64 fr, .int .i64 ah] 212)
      have hn0 := heap_alloc_new wr (.cells #[.string dev2, .int .i64 fr, .int .i64 ah] 212)
      by_cases hd : dev2.toList = dev.toList
      · by_cases hf : fr ≤ tm
        · have hS2 := Lib.hid (show SG ah (l.drop (k + 1)) = SG 0 l by rw [← hS.out, if_pos ⟨hd, hf⟩])
          clear hS hB
          go_wp2
          go_roundw
          case rel => exact ⟨k + 1, ah, by omega, by go_num, rfl, hxb, hBn, hS2⟩
          case measure => simp [intOf]; omega
        · have hS2 := Lib.hid (show SG a (l.drop (k + 1)) = SG 0 l by rw [← hS.out, if_neg (fun h => hf h.2)])
          clear hS hB
          go_wp2
          go_roundw
          case rel => exact ⟨k + 1, a, by omega, by go_num, rfl, ha, hBn, hS2⟩
          case measure => simp [intOf]; omega
      · have hS2 := Lib.hid (show SG a (l.drop (k + 1)) = SG 0 l by rw [← hS.out, if_neg (fun h => hd h.1)])
        clear hS hB
        go_wp2
        go_roundw
        case rel => exact ⟨k + 1, a, by omega, by go_num, rfl, ha, hBn, hS2⟩
        case measure => simp [intOf]; omega
    · obtain rfl : k = n := by omega
      have hE : Hid (V = min (max (tm - a) 0) 345686399999) := Lib.hid (by rw [hV.out, ← hF.out, drop_end (by rw [hl.out]; exact Nat.le_refl _), hG0.out])
      have u1 : IntKind.i64.wrap (tm - a) = tm - a := IntWalk.i64_in _ (by omega)
      clear hF hV
      go_wp2
      go_ret
      exact ⟨ret_i (by rw [hE.out]), hB⟩
end Go.Proofs.YtpepdkgkdbnakaaGreatDoor

/- pad.starts, tumbref1.StartsOf; pad.heatOf, tumbref1.HeatAt. Printed by wip/genpad.py. -/
namespace Go.Proofs.YtpepdkgkdbnakaaGreatDoor
open Go.RowKit Go.Shelf Go.Lib Go.Sort
set_option linter.unusedVariables false

theorem sortAny_c (base : Nat) (A : Option Addr) (n c : Nat) (l : List Int) (w : World) (h : w.ownsRow base 3 1 (.slice A n c) n (ints l)) (hn : n ≤ 100000) :
    Calls Tryz.prog 244 #[.slice A n c] w fun e w' => e = .returned (.tuple #[]) ∧ w'.ownsRow base 3 1 (.slice A n c) n (ints (l.mergeSort fun x y => decide (x ≤ y))) ∧ w.grownBy w' (Value.slice A n c).ownBlock := by
  rcases Nat.eq_zero_or_pos n with h0 | h0
  · subst h0
    have hl : l = [] := by have := h.1; rw [ints_len] at this; exact List.eq_nil_of_length_eq_zero (by omega)
    subst hl
    refine (Tryz.slices_Sort_int_none A c w).mono ?_
    rintro e w' ⟨he, hw⟩
    subst hw
    exact ⟨he, by rw [List.mergeSort_nil]; exact h, grown_refl _ _⟩
  · exact sortOwn_c base A n c l w h h0 hn
theorem compactAny_c (base : Nat) (A : Option Addr) (n c : Nat) (l : List Int) (w : World) (h : w.ownsRow base 3 1 (.slice A n c) n (ints l)) (hn : n ≤ 100000) :
    Calls Tryz.prog 245 #[.slice A n c] w fun e w' => e = .returned (.slice A (Lib.compact l).length c) ∧ w'.ownsRow base 3 1 (.slice A (Lib.compact l).length c) (Lib.compact l).length (ints (Lib.compact l)) ∧ w.grownBy w' (Value.slice A n c).ownBlock := by
  rcases Nat.eq_zero_or_pos n with h0 | h0
  · subst h0
    have hl : l = [] := by have := h.1; rw [ints_len] at this; exact List.eq_nil_of_length_eq_zero (by omega)
    subst hl
    refine (Tryz.slices_Compact_int_empty A c w).mono ?_
    rintro e w' ⟨he, hw⟩
    subst hw
    exact ⟨he, h, grown_refl _ _⟩
  · exact compactOwn_c base A n c l w h h0 hn
/-- the ints under way -/
structure IL (w : World) (u : Value) (L : List Int) (wx : World) : Prop where
  own : wx.ownsRow w.heap.size 3 1 u L.length (ints L)
  bel : Below w.heap.size w wx
theorem IL.below {w wx w' : World} {u : Value} {L : List Int} (h : IL w u L wx) (B : Below wx.heap.size wx w') : IL w u L w' := ⟨own_below h.own B, below_next h.bel B⟩
theorem IL.app {w wx w' : World} {u v' : Value} {L : List Int} {x : Int} (h : IL w u L wx) (ho : w'.ownsRow w.heap.size 3 1 v' (L.length + 1) (ints L ++ [.int .i64 x])) (hg : wx.grownBy w' u.ownBlock) : IL w v' (L ++ [x]) w' :=
  ⟨by rw [ints_app, List.length_append]; exact ho, below_own h.bel h.own hg h.bel.size (Nat.le_refl _)⟩
theorem IL.start (w : World) : IL w (.slice none 0 0) [] w := ⟨World.ownsRow_nil _ _ _ _, Below.refl _ _⟩
def RetI (w : World) (L : List Int) (e : Ending) (w' : World) : Prop := ∃ A c, e = .returned (.slice A L.length c) ∧ w'.ownsRow w.heap.size 3 1 (.slice A L.length c) L.length (ints L) ∧ Below w.heap.size w w'
/-- the moments at which heats begin, as they come -/
def stGo (cl : List Ck) : List Sg → List Int
  | [] => []
  | x :: r => if x.kind = 1 then rightV cl x.dev x.tm :: stGo cl r else stGo cl r
theorem stGo_at {cl : List Ck} {l : List Sg} {k : Nat} {x : Sg} (h : l[k]? = some x) : stGo cl (l.drop k) = if x.kind = 1 then rightV cl x.dev x.tm :: stGo cl (l.drop (k + 1)) else stGo cl (l.drop (k + 1)) := by rw [drop_at h]; rfl
def startsV (cl : List Ck) (l : List Sg) : List Int := Lib.compact ((stGo cl l).mergeSort fun x y => decide (x ≤ y))
theorem stGo_len (cl : List Ck) : ∀ l : List Sg, (stGo cl l).length ≤ l.length
  | [] => Nat.le_refl _
  | x :: r => by
    have := stGo_len cl r
    unfold stGo
    split
    · rw [List.length_cons, List.length_cons]; omega
    · rw [List.length_cons]; omega
theorem startsV_len (cl : List Ck) (l : List Sg) : (startsV cl l).length ≤ l.length := by
  have h1 := Lib.compact_length_le ((stGo cl l).mergeSort fun x y => decide (x ≤ y))
  rw [List.length_mergeSort] at h1
  exact Nat.le_trans h1 (stGo_len cl l)
set_option maxHeartbeats 3200000 in
set_option maxRecDepth 100000 in
theorem padStarts_c (Ac : Option Addr) (nc cc : Nat) (cl : List Ck) (A : Option Addr) (n c : Nat) (l : List Sg) (w : World) (hc : RCk w Ac nc cl) (h : RSg w A n l) (hcb : CkBd cl) (hsb : SgBd l) (hn : n ≤ 3000) :
    Calls Tryz.prog 187 #[.slice Ac nc cc, .slice A n c] w (RetI w (startsV cl l)) := by
  have hR := Lib.hid (fun W B => h.below (w' := W) B)
  have hl := Lib.hid h.len
  have hGa := Lib.hid (fun k x (h : l[k]? = some x) => stGo_at (cl := cl) h)
  have hG0 := Lib.hid (show stGo cl [] = [] from rfl)
  have hGl := stGo_len cl l
  have hRt := Lib.hid (fun k x (h : l[k]? = some x) W B => padRight_c Ac nc cc cl x.dev x.tm W (hc.below (w' := W) B) hcb (hsb x (List.mem_of_getElem? h)))
  have hV := Lib.hid (show startsV cl l = Lib.compact ((stGo cl l).mergeSort fun x y => decide (x ≤ y)) from rfl)
  have hln := h.len
  generalize startsV cl l = V at *
  generalize stGo cl = SG at *
  generalize rightV cl = RV at *
  have hI0 := IL.start w
  clear h hc hcb hsb
  go_enter Tryz.func187, Tryz.ntmps187
  go_wp2_with fail
  go_loopw [5, 10] (fun out i wr => ∃ (k : Nat) (acc : List Int), k ≤ n ∧ i = .int .i64 k ∧ IL w out acc wr ∧ acc.length ≤ k ∧ Hid (acc ++ SG (l.drop k) = SG l)) (fun _ i _ => n - (intOf i).toNat)
  case atStart => exact ⟨0, [], Nat.zero_le _, rfl, hI0, Nat.le_refl _, Lib.hid rfl⟩
  case round =>
    clear hI0
    obtain ⟨k, acc, hk, rfl, hI, hac, hF⟩ := hrel
    by_cases hlt : k < n
    · obtain ⟨b, off, x, rfl, hbl, hx, c0, c1, c2, c3, c4, c5⟩ := RSg_at6 (hR.out _ hI.bel) hlt
      have hS := Lib.hid (hGa.out k x hx)
      have hRx := Lib.hid (fun W B => hRt.out k x hx W B)
      have hmw := hI.bel.size
      clear hx
      obtain ⟨dev, no, kind, tm, lane, time⟩ := x
      dsimp only at *
      have hIn := hI.below (below_new wr (.cells #[.string dev, .int .i64 no, .int .i64 kind, .int .i64 tm, .int .i64 lane, .int .i64 time] 133))
      by_cases hkd : kind = 1
      · subst hkd
        have hS2 := Lib.hid (show SG (l.drop k) = RV dev tm :: SG (l.drop (k + 1)) by rw [hS.out, if_pos rfl])
        clear hS hI
        generalize RV dev tm = rv at *
        go_wp2_with fail
        refine (hRx.out _ hIn.bel).mono ?_; rintro e w6 ⟨rfl, B6⟩
        have hI6 := hIn.below B6
        have hz6 := hI6.bel.size
        have hw6 := Lib.hid hI6.own
        clear hIn B6
        go_wp2_with (at_builtin; refine wpList_app rfl (.tmp 17) (.tmp 24) 22 rfl Tryz.underlying22 info_int rfl (by omega) (by omega) hw6.out rfl rfl (by first | rfl | (simp; done)) (by rfl) (by simp [Value.oneCell']) (by omega) hz6 ?_; intro v7 w7 hown7 hg7)
        have hI7 := hI6.app hown7 hg7
        clear hI6 hown7 hg7 hw6
        go_roundw
        case rel => exact ⟨k + 1, _, by omega, by go_num, hI7, by rw [List.length_append]; simp; omega, Lib.hid (by rw [← hF.out, hS2.out, List.append_assoc]; rfl)⟩
        case measure => simp [intOf]; omega
      · have hS2 := Lib.hid (show SG (l.drop k) = SG (l.drop (k + 1)) by rw [hS.out, if_neg hkd])
        clear hS hI
        go_wp2
        go_roundw
        case rel => exact ⟨k + 1, acc, by omega, by go_num, hIn, by omega, Lib.hid (by rw [← hF.out, hS2.out])⟩
        case measure => simp [intOf]; omega
    · obtain rfl : k = n := by omega
      have hA : Hid (acc = SG l) := Lib.hid (by rw [← hF.out, drop_end (by rw [hl.out]; exact Nat.le_refl _), hG0.out, List.append_nil])
      obtain ⟨A', c', rfl⟩ := own_shape hI.own
      have hbel := hI.bel
      have hown := Lib.hid hI.own
      have hS1 := Lib.hid (fun n' (hn' : n' = acc.length) => sortAny_c w.heap.size A' n' c' acc wr (by rw [hn']; exact hown.out) (by omega))
      generalize hal : acc.length = m at *
      clear hF hI
      go_wp2_with fail
      refine (hS1.out m rfl).mono ?_; rintro e w6 ⟨rfl, ho6, hg6⟩
      have hb6 := below_own hbel hown.out hg6 hbel.size (Nat.le_refl _)
      have hC1 := Lib.hid (compactAny_c w.heap.size A' m c' _ w6 ho6 (by omega))
      rw [hA.out] at hC1
      have hV' := hV.out.symm
      rw [hV'] at hC1
      clear hS1 hown hg6 hbel hV hA hV'
      go_wp2_with fail
      refine hC1.out.mono ?_; rintro e w7 ⟨rfl, ho7, hg7⟩
      have hb7 := below_own hb6 ho6 hg7 hb6.size (Nat.le_refl _)
      clear hC1 ho6 hg7 hb6
      go_wp2
      go_ret
      exact ⟨A', c', rfl, ho7, hb7⟩
end Go.Proofs.YtpepdkgkdbnakaaGreatDoor

/- pad.heatOf, tumbref1.HeatAt, pad.checkBoth, pad.checkHeat, tumbref1.LaneFault, pad.Starts, pad.HeatOf. Printed by wip/genpadc.py. -/
namespace Go.Proofs.YtpepdkgkdbnakaaGreatDoor
open Go.RowKit Go.Shelf Go.Lib Go.Sort
set_option linter.unusedVariables false

/-- how many of a list are not later -/
def ct (tm : Int) : List Int → Nat
  | [] => 0
  | x :: r => (if x ≤ tm then 1 else 0) + ct tm r
/-- how many of a list, from its start on, are not later -/
def tw (tm : Int) : List Int → Nat
  | [] => 0
  | x :: r => if x ≤ tm then 1 + tw tm r else 0
theorem tw_le (tm : Int) : ∀ l, tw tm l ≤ l.length
  | [] => Nat.le_refl _
  | x :: r => by
    have := tw_le tm r
    unfold tw
    split <;> (rw [List.length_cons]; omega)
theorem ct_le (tm : Int) : ∀ l, ct tm l ≤ l.length
  | [] => Nat.le_refl _
  | x :: r => by
    have := ct_le tm r
    unfold ct
    split <;> (rw [List.length_cons]; omega)
theorem ct_zero {tm : Int} : ∀ {l : List Int}, (∀ x ∈ l, ¬ x ≤ tm) → ct tm l = 0
  | [], _ => rfl
  | x :: r, h => by
    unfold ct
    rw [if_neg (h x (List.mem_cons_self)), ct_zero (fun y hy => h y (List.mem_cons_of_mem _ hy))]
theorem tw_ct (tm : Int) : ∀ {l : List Int}, l.Pairwise (· ≤ ·) → tw tm l = ct tm l
  | [], _ => rfl
  | x :: r, h => by
    rw [List.pairwise_cons] at h
    unfold tw ct
    by_cases hx : x ≤ tm
    · rw [if_pos hx, if_pos hx, tw_ct tm h.2]
    · rw [if_neg hx, if_neg hx, ct_zero (fun y hy hle => hx (Int.le_trans (h.1 y hy) hle))]
theorem compact_sub {α : Type} [Inhabited α] [DecidableEq α] (zs : List α) : (Lib.compact zs).Sublist zs := by
  have h1 : (List.range zs.length).map (fun j => zs.toArray[j]!) = zs := by
    apply List.ext_getElem?
    intro i
    rw [List.getElem?_map]
    by_cases hi : i < zs.length
    · rw [List.getElem?_range hi]; simp [hi]
    · rw [List.getElem?_eq_none (by simpa using hi), List.getElem?_eq_none (by simpa using hi)]; rfl
  show (((List.range zs.length).filter (Lib.keeps zs.toArray)).map (fun j => zs.toArray[j]!)).Sublist zs
  have h2 := (List.filter_sublist (p := Lib.keeps zs.toArray) (l := List.range zs.length)).map (fun j => zs.toArray[j]!)
  rw [h1] at h2
  exact h2
theorem startsV_sorted (cl : List Ck) (l : List Sg) : (startsV cl l).Pairwise (· ≤ ·) := by
  refine List.Pairwise.sublist (compact_sub _) ?_
  have h := List.pairwise_mergeSort (le := fun x y : Int => decide (x ≤ y)) (fun a b c h1 h2 => by simp at *; omega) (fun a b => by simp; omega) (stGo cl l)
  exact h.imp (fun h => by simpa using h)
theorem tw_at {tm : Int} {l : List Int} {k : Nat} {x : Int} (h : l[k]? = some x) : tw tm (l.drop k) = if x ≤ tm then 1 + tw tm (l.drop (k + 1)) else 0 := by rw [drop_at h]; rfl
theorem ct_at {tm : Int} {l : List Int} {k : Nat} {x : Int} (h : l[k]? = some x) : ct tm (l.drop k) = (if x ≤ tm then 1 else 0) + ct tm (l.drop (k + 1)) := by rw [drop_at h]; rfl
/-- the heat at a moment; 0: there is none -/
def heatV (cl : List Ck) (l : List Sg) (tm : Int) : Nat := ct tm (startsV cl l)
theorem heatV_le (cl : List Ck) (l : List Sg) (tm : Int) : heatV cl l tm ≤ (startsV cl l).length := ct_le _ _
set_option maxHeartbeats 1600000 in
theorem padHeatOf_c (A : Option Addr) (n c : Nat) (l : List Int) (tm : Int) (w : World) (h : RI 3 w A n l) :
    Calls Tryz.prog 308 #[.slice A n c, .int .i64 tm] w fun e w' => e = .returned (.int .i64 (tw tm l : Nat)) ∧ w = w' := by
  have hl := Lib.hid h.len
  have hbd := h.bd
  have hGa := Lib.hid (fun k x (h : l[k]? = some x) => tw_at (tm := tm) h)
  have hG0 := Lib.hid (show tw tm [] = 0 from rfl)
  generalize tw tm = TW at *
  go_enter Tryz.func308, Tryz.ntmps308
  go_wp2_with fail
  go_loop [5] (fun i => ∃ k : Nat, k ≤ n ∧ i = .int .i64 k ∧ Hid (k + TW (l.drop k) = TW l)) (fun i => n - (intOf i).toNat)
  case atStart => exact ⟨0, Nat.zero_le _, rfl, Lib.hid (by rw [Nat.zero_add]; rfl)⟩
  case round =>
    obtain ⟨k, hk, rfl, hF⟩ := hrel
    by_cases hlt : k < n
    · obtain ⟨b, off, x, rfl, _, hx, hcell⟩ := h.at_ hlt
      have hS := Lib.hid (hGa.out k x hx)
      have hlti : (k : Int) < n := by omega
      clear hx h hGa
      by_cases hxt : x ≤ tm
      · have hS2 := Lib.hid (show (k + 1) + TW (l.drop (k + 1)) = TW l by rw [← hF.out, hS.out, if_pos hxt]; omega)
        clear hS hF
        go_wp2
        go_round
        case rel => exact ⟨k + 1, by omega, by go_num, hS2⟩
        case measure => simp [intOf]; omega
      · have hS2 := Lib.hid (show TW l = k by rw [← hF.out, hS.out, if_neg hxt]; omega)
        clear hS hF
        go_wp2
        go_ret
        exact ⟨ret_i (by rw [hS2.out]), rfl⟩
    · obtain rfl : k = n := by omega
      have hS2 := Lib.hid (show TW l = k by rw [← hF.out, drop_end (by rw [hl.out]; exact Nat.le_refl _), hG0.out]; omega)
      clear hF h
      go_wp2
      go_ret
      exact ⟨ret_i (by rw [hS2.out]), rfl⟩
def bothErr (cl : List Ck) (l : List Sg) : Int := if clkErr cl ≠ 0 then clkErr cl else sigErr l
theorem sigGo_ok : ∀ (l : List Sg) (D : DataW Unit) (o : Option Sg), sigGo D o l = 0 → ∀ x ∈ l, sg1 x = 0
  | [], _, _, _, _, h => by cases h
  | x :: l, D, o, h, y, hy => by
    have h1 : sg1 x = 0 := by
      unfold sigGo at h
      split at h
      · rename_i h9; exact absurd h h9
      · rename_i h9; exact Decidable.not_not.1 h9
    unfold sigGo at h
    rw [if_neg (fun h9 => h9 h1)] at h
    split at h
    · cases h
    rcases List.mem_cons.1 hy with rfl | hy
    · exact h1
    · exact sigGo_ok l _ _ h y hy
theorem sig_ok {l : List Sg} (h : sigErr l = 0) : l.length ≤ 3000 ∧ SgBd l := by
  unfold sigErr at h
  split at h
  · cases h
  · exact ⟨by omega, fun x hx => (sg1_ok (sigGo_ok l _ _ h x hx)).2.2.2⟩
theorem both_ok {cl : List Ck} {l : List Sg} (h : bothErr cl l = 0) : CkBd cl ∧ SgBd l ∧ l.length ≤ 3000 ∧ cl.length ≤ 400 := by
  unfold bothErr at h
  split at h
  · rename_i h1; exact absurd h h1
  · rename_i h1
    have h2 := clk_ok (Decidable.not_not.1 h1)
    have h3 := sig_ok h
    exact ⟨fun x hx => (h2.2 x hx).2, h3.2, h3.1, h2.1⟩
theorem checkBoth_c (Ac : Option Addr) (nc cc : Nat) (cl : List Ck) (A : Option Addr) (n c : Nat) (l : List Sg) (w : World) (hc : RCk w Ac nc cl) (h : RSg w A n l) :
    Calls Tryz.prog 186 #[.slice Ac nc cc, .slice A n c] w fun e w' => e = .returned (.int .i64 (bothErr cl l)) ∧ Below w.heap.size w w' := by
  have h1 := Lib.hid (checkClocks_c Ac nc cc cl w hc)
  have h2 := Lib.hid (fun W B => checkSignals_c A n c l W (h.below (w' := W) B))
  have hV := Lib.hid (show bothErr cl l = if clkErr cl ≠ 0 then clkErr cl else sigErr l from rfl)
  generalize bothErr cl l = V at *
  generalize clkErr cl = E1 at *
  generalize sigErr l = E2 at *
  clear hc h
  go_enter Tryz.func186, Tryz.ntmps186
  go_wp2_with fail
  refine h1.out.mono ?_; rintro e w1 ⟨rfl, B1⟩
  by_cases h0 : E1 = 0
  · subst h0
    obtain rfl : V = E2 := by rw [hV.out, if_neg (fun h => h rfl)]
    clear hV
    go_wp2_with fail
    refine (h2.out _ B1).mono ?_; rintro e w2 ⟨rfl, B2⟩
    have hB2 := below_next B1 B2
    go_wp2
    go_ret
    exact ⟨rfl, hB2⟩
  · obtain rfl : V = E1 := by rw [hV.out, if_pos h0]
    have hd : (V != 0) = true := by simpa using h0
    clear hV h0
    go_wp2
    go_ret
    exact ⟨rfl, B1⟩
def laneErr (cl : List Ck) (l : List Sg) (heat lane : Int) : Int := if ¬ (1 ≤ heat ∧ heat ≤ 60) ∨ ¬ (1 ≤ lane ∧ lane ≤ 10) then 1 else if ((startsV cl l).length : Int) < heat then 8 else 0
theorem checkHeat_c (Ac : Option Addr) (nc cc : Nat) (cl : List Ck) (A : Option Addr) (n c : Nat) (l : List Sg) (heat lane : Int) (w : World) (hc : RCk w Ac nc cl) (h : RSg w A n l) :
    Calls Tryz.prog 188 #[.slice Ac nc cc, .slice A n c, .int .i64 heat, .int .i64 lane] w fun e w' => e = .returned (.int .i64 (if bothErr cl l ≠ 0 then bothErr cl l else laneErr cl l heat lane)) ∧ Below w.heap.size w w' := by
  have hCb := Lib.hid (checkBoth_c Ac nc cc cl A n c l w hc h)
  have hSt := Lib.hid (fun (h0 : bothErr cl l = 0) W (B : Below w.heap.size w W) => padStarts_c Ac nc cc cl A n c l W (hc.below B) (h.below B) (both_ok h0).1 (both_ok h0).2.1 (by rw [← h.len]; exact (both_ok h0).2.2.1))
  have hV := Lib.hid (show laneErr cl l heat lane = if ¬ (1 ≤ heat ∧ heat ≤ 60) ∨ ¬ (1 ≤ lane ∧ lane ≤ 10) then 1 else if ((startsV cl l).length : Int) < heat then 8 else 0 from rfl)
  generalize laneErr cl l heat lane = V at *
  generalize startsV cl l = S at *
  generalize bothErr cl l = E at *
  clear hc h
  by_cases h0 : E = 0
  rotate_left
  · have hd : (E != 0) = true := by simpa using h0
    rw [if_pos h0]
    clear hV h0 hSt
    go_enter Tryz.func188, Tryz.ntmps188
    go_wp2_with fail
    refine hCb.out.mono ?_; rintro e w1 ⟨rfl, B1⟩
    go_wp2
    go_ret
    exact ⟨rfl, B1⟩
  subst h0
  rw [if_neg (fun h => h rfl)]
  have hSt2 := Lib.hid (fun W B => hSt.out rfl W B)
  clear hSt
  by_cases h1 : 1 ≤ heat ∧ heat ≤ 60
  · have d1 : decide (1 ≤ heat ∧ heat ≤ 60) = true := decide_eq_true h1
    by_cases h2 : 1 ≤ lane ∧ lane ≤ 10
    · have d2 : decide (1 ≤ lane ∧ lane ≤ 10) = true := decide_eq_true h2
      have hV2 := Lib.hid (show V = if ((S.length : Nat) : Int) < heat then 8 else 0 by rw [hV.out, if_neg (by omega)])
      clear hV h1 h2
      go_enter Tryz.func188, Tryz.ntmps188
      go_wp2_with fail
      refine hCb.out.mono ?_; rintro e w1 ⟨rfl, B1⟩
      clear hCb
      go_wp2_with (go_at_call 105; refine (within_c _ _ _ _).mono ?_; rintro e w' ⟨rfl, rfl⟩; first | rw [d1] | rw [d2])
      refine (hSt2.out _ B1).mono ?_; rintro e w2 ⟨A1, c1, rfl, ho, hB2⟩
      have hB := below_next B1 hB2
      clear hSt2 ho d1 d2 B1 hB2
      by_cases h3 : ((S.length : Nat) : Int) < heat
      · obtain rfl : V = 8 := by rw [hV2.out, if_pos h3]
        go_wp2
        go_ret
        exact ⟨rfl, hB⟩
      · obtain rfl : V = 0 := by rw [hV2.out, if_neg h3]
        go_wp2
        go_ret
        exact ⟨rfl, hB⟩
    · have d2 : decide (1 ≤ lane ∧ lane ≤ 10) = false := decide_eq_false h2
      obtain rfl : V = 1 := by rw [hV.out, if_pos (.inr h2)]
      clear hV h1 h2 hSt2
      go_enter Tryz.func188, Tryz.ntmps188
      go_wp2_with fail
      refine hCb.out.mono ?_; rintro e w1 ⟨rfl, B1⟩
      go_wp2_with (go_at_call 105; refine (within_c _ _ _ _).mono ?_; rintro e w' ⟨rfl, rfl⟩; first | rw [d1] | rw [d2])
      go_ret
      exact ⟨rfl, B1⟩
  · have d1 : decide (1 ≤ heat ∧ heat ≤ 60) = false := decide_eq_false h1
    obtain rfl : V = 1 := by rw [hV.out, if_pos (.inl h1)]
    clear hV h1 hSt2
    go_enter Tryz.func188, Tryz.ntmps188
    go_wp2_with fail
    refine hCb.out.mono ?_; rintro e w1 ⟨rfl, B1⟩
    go_wp2_with (go_at_call 105; refine (within_c _ _ _ _).mono ?_; rintro e w' ⟨rfl, rfl⟩; rw [d1])
    go_ret
    exact ⟨rfl, B1⟩
/-- what Starts hands back -/
def RetSt2 (w : World) (E : Int) (L : List Int) (e : Ending) (w' : World) : Prop := ∃ A c, e = .returned (.tuple #[.slice A L.length c, .int .i64 E]) ∧ RI 3 w' A L.length L ∧ Below w.heap.size w w'
theorem starts20_c (Ac : Option Addr) (nc cc : Nat) (cl : List Ck) (A : Option Addr) (n c : Nat) (l : List Sg) (w : World) (hc : RCk w Ac nc cl) (h : RSg w A n l) :
    Calls Tryz.prog 89 #[.slice Ac nc cc, .slice A n c] w (RetSt2 w (bothErr cl l) (if bothErr cl l = 0 then startsV cl l else [])) := by
  have hCb := Lib.hid (checkBoth_c Ac nc cc cl A n c l w hc h)
  have hSt := Lib.hid (fun (h0 : bothErr cl l = 0) W (B : Below w.heap.size w W) => padStarts_c Ac nc cc cl A n c l W (hc.below B) (h.below B) (both_ok h0).1 (both_ok h0).2.1 (by rw [← h.len]; exact (both_ok h0).2.2.1))
  have hsl := startsV_len cl l
  rw [h.len] at hsl
  have hbd := h.bd
  generalize startsV cl l = S at *
  generalize bothErr cl l = E at *
  clear hc h
  by_cases h0 : E = 0
  rotate_left
  · have hd : (E != 0) = true := by simpa using h0
    rw [if_neg h0]
    clear h0 hSt
    go_enter Tryz.func89, Tryz.ntmps89
    go_wp2_with fail
    refine hCb.out.mono ?_; rintro e w1 ⟨rfl, B1⟩
    go_wp2
    go_ret2
    exact ⟨none, 0, rfl, R1.nil_ _ _ _ _, B1⟩
  subst h0
  rw [if_pos rfl]
  have hSt2 := Lib.hid (fun W B => hSt.out rfl W B)
  clear hSt
  go_enter Tryz.func89, Tryz.ntmps89
  go_wp2_with fail
  refine hCb.out.mono ?_; rintro e w1 ⟨rfl, B1⟩
  clear hCb
  go_wp2_with fail
  refine (hSt2.out _ B1).mono ?_; rintro e w2 ⟨A1, c1, rfl, ho, hB2⟩
  have hB := below_next B1 hB2
  have hR := R1.of_own ho (by omega)
  clear hSt2 ho B1 hB2
  go_wp2
  go_ret2
  exact ⟨A1, c1, rfl, hR, hB⟩
def momErr (tm : Int) : Int := if 0 ≤ tm ∧ tm ≤ 345686399999 then 0 else 1
def hofE (cl : List Ck) (l : List Sg) (tm : Int) : Int := if bothErr cl l ≠ 0 then bothErr cl l else momErr tm
def hofV (cl : List Ck) (l : List Sg) (tm : Int) : Nat := if hofE cl l tm = 0 then heatV cl l tm else 0
end Go.Proofs.YtpepdkgkdbnakaaGreatDoor
