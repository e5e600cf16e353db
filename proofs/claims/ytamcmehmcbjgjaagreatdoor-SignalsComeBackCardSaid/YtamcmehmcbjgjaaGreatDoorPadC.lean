import Derived.Test.YtamcmehmcbjgjaaGreatDoorClkC
import Derived.Test.YtamcmehmcbjgjaaGreatDoorSigD
import Derived.Test.YtamcmehmcbjgjaaGreatDoorSortB
/- pad.right, tumbref1.RightAt; pad.starts, tumbref1.StartsOf; pad.heatOf, tumbref1.HeatAt. Printed by wip/genpad.py. -/
namespace Go.Proofs.YtamcmehmcbjgjaaGreatDoor
open Go.RowKit Go.Shelf Go.Lib Go.Sort
set_option linter.unusedVariables false

def CkBd (cl : List Ck) : Prop := ∀ x ∈ cl, -3600000 ≤ x.ahead ∧ x.ahead ≤ 3600000
def SgBd (l : List Sg) : Prop := ∀ x ∈ l, 0 ≤ x.tm ∧ x.tm ≤ 345686399999
def aheadGo (dev : ByteArray) (tm : Int) : Int → List Ck → Int
  | a, [] => a
  | a, x :: r => aheadGo dev tm (if x.dev.toList = dev.toList ∧ x.from_ ≤ tm then x.ahead else a) r
theorem aheadGo_at {dev : ByteArray} {tm : Int} {l : List Ck} {k : Nat} {x : Ck} (a : Int) (h : l[k]? = some x) : aheadGo dev tm a (l.drop k) = aheadGo dev tm (if x.dev.toList = dev.toList ∧ x.from_ ≤ tm then x.ahead else a) (l.drop (k + 1)) := by rw [drop_at h]; rfl
/-- the moment of the pool -/
def rightV (cl : List Ck) (dev : ByteArray) (tm : Int) : Int := min (max (tm - aheadGo dev tm 0 cl) 0) 345686399999
theorem rightV_bd (cl : List Ck) (dev : ByteArray) (tm : Int) : 0 ≤ rightV cl dev tm ∧ rightV cl dev tm ≤ 345686399999 := by unfold rightV; omega
set_option maxHeartbeats 3200000 in
set_option maxRecDepth 100000 in
theorem padRight_c (A : Option Addr) (n c : Nat) (l : List Ck) (dev : ByteArray) (tm : Int) (w : World) (h : RCk w A n l) (hb : CkBd l) (ht : 0 ≤ tm ∧ tm ≤ 345686399999) :
    Calls Tryz.prog 120 #[.slice A n c, .string dev, .int .i64 tm] w fun e w' => e = .returned (.int .i64 (rightV l dev tm)) ∧ Below w.heap.size w w' := by
  have hbd := h.bd
  have hR := Lib.hid (fun W B => h.below (w' := W) B)
  have hl := Lib.hid h.len
  have hGa := Lib.hid (fun a k x (h : l[k]? = some x) => aheadGo_at (dev := dev) (tm := tm) a h)
  have hG0 := Lib.hid (fun a => show aheadGo dev tm a [] = a from rfl)
  have hb' := Lib.hid (fun k x (h : l[k]? = some x) => hb x (List.mem_of_getElem? h))
  have hV := Lib.hid (show rightV l dev tm = min (max (tm - aheadGo dev tm 0 l) 0) 345686399999 from rfl)
  generalize rightV l dev tm = V at *
  generalize aheadGo dev tm = SG at *
  have hB0 := Below.refl w.heap.size w
  clear h hb
  go_enter Tryz.func120, Tryz.ntmps120
  go_wp2_with fail
  go_loopw [7, 12] (fun av i wr => ∃ (k : Nat) (a : Int), k ≤ n ∧ i = .int .i64 k ∧ av = .int .i64 a ∧ (-3600000 ≤ a ∧ a ≤ 3600000) ∧ Below w.heap.size w wr ∧ Hid (SG a (l.drop k) = SG 0 l)) (fun _ i _ => n - (intOf i).toNat)
  case atStart => exact ⟨0, 0, Nat.zero_le _, rfl, rfl, by omega, hB0, Lib.hid rfl⟩
  case round =>
    clear hB0
    obtain ⟨k, a, hk, rfl, rfl, ha, hB, hF⟩ := hrel
    by_cases hlt : k < n
    · obtain ⟨b, off, x, rfl, hbl, hx, c0, c1, c2⟩ := RCk_at3 (hR.out _ hB) hlt
      have hS := Lib.hid ((hGa.out a k x hx).symm.trans hF.out)
      have hxb := hb'.out k x hx
      have hmw := hB.size
      clear hx hF
      obtain ⟨dev2, fr, ah⟩ := x
      dsimp only at *
      have hBn := hB.alloc hB.size (.cells #[.string dev2, .int .i64 fr, .int .i64 ah] 119)
      have hn0 := heap_alloc_new wr (.cells #[.string dev2, .int .i64 fr, .int .i64 ah] 119)
      by_cases hd : dev2.toList = dev.toList
      · by_cases hf : fr ≤ tm
        · have hS2 := Lib.hid (show SG ah (l.drop (k + 1)) = SG 0 l by rw [← hS.out, if_pos ⟨hd, hf⟩])
          clear hS hB
          go_wp2
          go_roundw
          case rel => exact ⟨k + 1, ah, by omega, by go_num, rfl, hxb, hBn, hS2⟩
          case measure => simp [intOf]; omega
        · have hS2 := Lib.hid (show SG a (l.drop (k + 1)) = SG 0 l by rw [← hS.out, if_neg (fun h => hf h.2)])
          clear hS hB
          go_wp2
          go_roundw
          case rel => exact ⟨k + 1, a, by omega, by go_num, rfl, ha, hBn, hS2⟩
          case measure => simp [intOf]; omega
      · have hS2 := Lib.hid (show SG a (l.drop (k + 1)) = SG 0 l by rw [← hS.out, if_neg (fun h => hd h.1)])
        clear hS hB
        go_wp2
        go_roundw
        case rel => exact ⟨k + 1, a, by omega, by go_num, rfl, ha, hBn, hS2⟩
        case measure => simp [intOf]; omega
    · obtain rfl : k = n := by omega
      have hE : Hid (V = min (max (tm - a) 0) 345686399999) := Lib.hid (by rw [hV.out, ← hF.out, drop_end (by rw [hl.out]; exact Nat.le_refl _), hG0.out])
      have u1 : IntKind.i64.wrap (tm - a) = tm - a := IntWalk.i64_in _ (by omega)
      clear hF hV
      go_wp2
      go_ret
      exact ⟨ret_i (by rw [hE.out]), hB⟩
end Go.Proofs.YtamcmehmcbjgjaaGreatDoor

/- pad.starts, tumbref1.StartsOf; pad.heatOf, tumbref1.HeatAt. Printed by wip/genpad.py. -/
namespace Go.Proofs.YtamcmehmcbjgjaaGreatDoor
open Go.RowKit Go.Shelf Go.Lib Go.Sort
set_option linter.unusedVariables false

/-- the ints under way -/
structure IL (w : World) (u : Value) (L : List Int) (wx : World) : Prop where
  own : wx.ownsRow w.heap.size 3 1 u L.length (ints L)
  bel : Below w.heap.size w wx
theorem IL.below {w wx w' : World} {u : Value} {L : List Int} (h : IL w u L wx) (B : Below wx.heap.size wx w') : IL w u L w' := ⟨own_below h.own B, below_next h.bel B⟩
theorem IL.app {w wx w' : World} {u v' : Value} {L : List Int} {x : Int} (h : IL w u L wx) (ho : w'.ownsRow w.heap.size 3 1 v' (L.length + 1) (ints L ++ [.int .i64 x])) (hg : wx.grownBy w' u.ownBlock) : IL w v' (L ++ [x]) w' :=
  ⟨by rw [ints_app, List.length_append]; exact ho, below_own h.bel h.own hg h.bel.size (Nat.le_refl _)⟩
theorem IL.start (w : World) : IL w (.slice none 0 0) [] w := ⟨World.ownsRow_nil _ _ _ _, Below.refl _ _⟩
def RetI (w : World) (L : List Int) (e : Ending) (w' : World) : Prop := ∃ A c, e = .returned (.slice A L.length c) ∧ w'.ownsRow w.heap.size 3 1 (.slice A L.length c) L.length (ints L) ∧ Below w.heap.size w w'
/-- the moments at which heats begin, as they come -/
def stGo (cl : List Ck) : List Sg → List Int
  | [] => []
  | x :: r => if x.kind = 1 then rightV cl x.dev x.tm :: stGo cl r else stGo cl r
theorem stGo_at {cl : List Ck} {l : List Sg} {k : Nat} {x : Sg} (h : l[k]? = some x) : stGo cl (l.drop k) = if x.kind = 1 then rightV cl x.dev x.tm :: stGo cl (l.drop (k + 1)) else stGo cl (l.drop (k + 1)) := by rw [drop_at h]; rfl
def startsV (cl : List Ck) (l : List Sg) : List Int := Lib.compact ((stGo cl l).mergeSort fun x y => decide (x ≤ y))
theorem stGo_len (cl : List Ck) : ∀ l : List Sg, (stGo cl l).length ≤ l.length
  | [] => Nat.le_refl _
  | x :: r => by
    have := stGo_len cl r
    unfold stGo
    split
    · rw [List.length_cons, List.length_cons]; omega
    · rw [List.length_cons]; omega
theorem startsV_len (cl : List Ck) (l : List Sg) : (startsV cl l).length ≤ l.length := by
  have h1 := Lib.compact_length_le ((stGo cl l).mergeSort fun x y => decide (x ≤ y))
  rw [List.length_mergeSort] at h1
  exact Nat.le_trans h1 (stGo_len cl l)
end Go.Proofs.YtamcmehmcbjgjaaGreatDoor

/- pad.heatOf, tumbref1.HeatAt, pad.checkBoth, pad.checkHeat, tumbref1.LaneFault, pad.Starts, pad.HeatOf. Printed by wip/genpadc.py. -/
namespace Go.Proofs.YtamcmehmcbjgjaaGreatDoor
open Go.RowKit Go.Shelf Go.Lib Go.Sort
set_option linter.unusedVariables false

/-- how many of a list are not later -/
def ct (tm : Int) : List Int → Nat
  | [] => 0
  | x :: r => (if x ≤ tm then 1 else 0) + ct tm r
/-- how many of a list, from its start on, are not later -/
def tw (tm : Int) : List Int → Nat
  | [] => 0
  | x :: r => if x ≤ tm then 1 + tw tm r else 0
theorem tw_le (tm : Int) : ∀ l, tw tm l ≤ l.length
  | [] => Nat.le_refl _
  | x :: r => by
    have := tw_le tm r
    unfold tw
    split <;> (rw [List.length_cons]; omega)
theorem ct_le (tm : Int) : ∀ l, ct tm l ≤ l.length
  | [] => Nat.le_refl _
  | x :: r => by
    have := ct_le tm r
    unfold ct
    split <;> (rw [List.length_cons]; omega)
theorem ct_zero {tm : Int} : ∀ {l : List Int}, (∀ x ∈ l, ¬ x ≤ tm) → ct tm l = 0
  | [], _ => rfl
  | x :: r, h => by
    unfold ct
    rw [if_neg (h x (List.mem_cons_self)), ct_zero (fun y hy => h y (List.mem_cons_of_mem _ hy))]
theorem tw_ct (tm : Int) : ∀ {l : List Int}, l.Pairwise (· ≤ ·) → tw tm l = ct tm l
  | [], _ => rfl
  | x :: r, h => by
    rw [List.pairwise_cons] at h
    unfold tw ct
    by_cases hx : x ≤ tm
    · rw [if_pos hx, if_pos hx, tw_ct tm h.2]
    · rw [if_neg hx, if_neg hx, ct_zero (fun y hy hle => hx (Int.le_trans (h.1 y hy) hle))]
theorem compact_sub {α : Type} [Inhabited α] [DecidableEq α] (zs : List α) : (Lib.compact zs).Sublist zs := by
  have h1 : (List.range zs.length).map (fun j => zs.toArray[j]!) = zs := by
    apply List.ext_getElem?
    intro i
    rw [List.getElem?_map]
    by_cases hi : i < zs.length
    · rw [List.getElem?_range hi]; simp [hi]
    · rw [List.getElem?_eq_none (by simpa using hi), List.getElem?_eq_none (by simpa using hi)]; rfl
  show (((List.range zs.length).filter (Lib.keeps zs.toArray)).map (fun j => zs.toArray[j]!)).Sublist zs
  have h2 := (List.filter_sublist (p := Lib.keeps zs.toArray) (l := List.range zs.length)).map (fun j => zs.toArray[j]!)
  rw [h1] at h2
  exact h2
theorem startsV_sorted (cl : List Ck) (l : List Sg) : (startsV cl l).Pairwise (· ≤ ·) := by
  refine List.Pairwise.sublist (compact_sub _) ?_
  have h := List.pairwise_mergeSort (le := fun x y : Int => decide (x ≤ y)) (fun a b c h1 h2 => by simp at *; omega) (fun a b => by simp; omega) (stGo cl l)
  exact h.imp (fun h => by simpa using h)
theorem tw_at {tm : Int} {l : List Int} {k : Nat} {x : Int} (h : l[k]? = some x) : tw tm (l.drop k) = if x ≤ tm then 1 + tw tm (l.drop (k + 1)) else 0 := by rw [drop_at h]; rfl
theorem ct_at {tm : Int} {l : List Int} {k : Nat} {x : Int} (h : l[k]? = some x) : ct tm (l.drop k) = (if x ≤ tm then 1 else 0) + ct tm (l.drop (k + 1)) := by rw [drop_at h]; rfl
/-- the heat at a moment; 0: there is none -/
def heatV (cl : List Ck) (l : List Sg) (tm : Int) : Nat := ct tm (startsV cl l)
theorem heatV_le (cl : List Ck) (l : List Sg) (tm : Int) : heatV cl l tm ≤ (startsV cl l).length := ct_le _ _
def bothErr (cl : List Ck) (l : List Sg) : Int := if clkErr cl ≠ 0 then clkErr cl else sigErr l
theorem sigGo_ok : ∀ (l : List Sg) (D : DataW Unit) (o : Option Sg), sigGo D o l = 0 → ∀ x ∈ l, sg1 x = 0
  | [], _, _, _, _, h => by cases h
  | x :: l, D, o, h, y, hy => by
    have h1 : sg1 x = 0 := by
      unfold sigGo at h
      split at h
      · rename_i h9; exact absurd h h9
      · rename_i h9; exact Decidable.not_not.1 h9
    unfold sigGo at h
    rw [if_neg (fun h9 => h9 h1)] at h
    split at h
    · cases h
    rcases List.mem_cons.1 hy with rfl | hy
    · exact h1
    · exact sigGo_ok l _ _ h y hy
theorem sig_ok {l : List Sg} (h : sigErr l = 0) : l.length ≤ 3000 ∧ SgBd l := by
  unfold sigErr at h
  split at h
  · cases h
  · exact ⟨by omega, fun x hx => (sg1_ok (sigGo_ok l _ _ h x hx)).2.2.2⟩
theorem both_ok {cl : List Ck} {l : List Sg} (h : bothErr cl l = 0) : CkBd cl ∧ SgBd l ∧ l.length ≤ 3000 ∧ cl.length ≤ 400 := by
  unfold bothErr at h
  split at h
  · rename_i h1; exact absurd h h1
  · rename_i h1
    have h2 := clk_ok (Decidable.not_not.1 h1)
    have h3 := sig_ok h
    exact ⟨fun x hx => (h2.2 x hx).2, h3.2, h3.1, h2.1⟩
def laneErr (cl : List Ck) (l : List Sg) (heat lane : Int) : Int := if ¬ (1 ≤ heat ∧ heat ≤ 60) ∨ ¬ (1 ≤ lane ∧ lane ≤ 10) then 1 else if ((startsV cl l).length : Int) < heat then 8 else 0
/-- what Starts hands back -/
def RetSt2 (w : World) (E : Int) (L : List Int) (e : Ending) (w' : World) : Prop := ∃ A c, e = .returned (.tuple #[.slice A L.length c, .int .i64 E]) ∧ RI 3 w' A L.length L ∧ Below w.heap.size w w'
def momErr (tm : Int) : Int := if 0 ≤ tm ∧ tm ≤ 345686399999 then 0 else 1
def hofE (cl : List Ck) (l : List Sg) (tm : Int) : Int := if bothErr cl l ≠ 0 then bothErr cl l else momErr tm
def hofV (cl : List Ck) (l : List Sg) (tm : Int) : Nat := if hofE cl l tm = 0 then heatV cl l tm else 0
end Go.Proofs.YtamcmehmcbjgjaaGreatDoor
