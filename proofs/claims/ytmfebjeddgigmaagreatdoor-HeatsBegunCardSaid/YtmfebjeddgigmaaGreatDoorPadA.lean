/- pad.right, tumbref1.RightAt; pad.starts, tumbref1.StartsOf; pad.heatOf, tumbref1.HeatAt. Printed by wip/genpad.py. -/
import Derived.Test.YtmfebjeddgigmaaGreatDoorClkC
import Derived.Test.YtmfebjeddgigmaaGreatDoorSigD
import Derived.Test.YtmfebjeddgigmaaGreatDoorSortB
namespace Go.Proofs.YtmfebjeddgigmaaGreatDoor
open Go.RowKit Go.Shelf Go.Lib Go.Sort
set_option linter.unusedVariables false

def CkBd (cl : List Ck) : Prop := ∀ x ∈ cl, -3600000 ≤ x.ahead ∧ x.ahead ≤ 3600000
def SgBd (l : List Sg) : Prop := ∀ x ∈ l, 0 ≤ x.tm ∧ x.tm ≤ 345686399999
def aheadGo (dev : ByteArray) (tm : Int) : Int → List Ck → Int
  | a, [] => a
  | a, x :: r => aheadGo dev tm (if x.dev.toList = dev.toList ∧ x.from_ ≤ tm then x.ahead else a) r
theorem aheadGo_at {dev : ByteArray} {tm : Int} {l : List Ck} {k : Nat} {x : Ck} (a : Int) (h : l[k]? = some x) : aheadGo dev tm a (l.drop k) = aheadGo dev tm (if x.dev.toList = dev.toList ∧ x.from_ ≤ tm then x.ahead else a) (l.drop (k + 1)) := by rw [drop_at h]; rfl
/-- the moment of the pool -/
def rightV (cl : List Ck) (dev : ByteArray) (tm : Int) : Int := min (max (tm - aheadGo dev tm 0 cl) 0) 345686399999
theorem rightV_bd (cl : List Ck) (dev : ByteArray) (tm : Int) : 0 ≤ rightV cl dev tm ∧ rightV cl dev tm ≤ 345686399999 := by unfold rightV; omega
set_option maxHeartbeats 3200000 in
set_option maxRecDepth 100000 in
theorem padRight_c (A : Option Addr) (n c : Nat) (l : List Ck) (dev : ByteArray) (tm : Int) (w : World) (h : RCk w A n l) (hb : CkBd l) (ht : 0 ≤ tm ∧ tm ≤ 345686399999) :
    Calls Tryz.prog 208 #[.slice A n c, .string dev, .int .i64 tm] w fun e w' => e = .returned (.int .i64 (rightV l dev tm)) ∧ Below w.heap.size w w' := by
  have hbd := h.bd
  have hR := Lib.hid (fun W B => h.below (w' := W) B)
  have hl := Lib.hid h.len
  have hGa := Lib.hid (fun a k x (h : l[k]? = some x) => aheadGo_at (dev := dev) (tm := tm) a h)
  have hG0 := Lib.hid (fun a => show aheadGo dev tm a [] = a from rfl)
  have hb' := Lib.hid (fun k x (h : l[k]? = some x) => hb x (List.mem_of_getElem? h))
  have hV := Lib.hid (show rightV l dev tm = min (max (tm - aheadGo dev tm 0 l) 0) 345686399999 from rfl)
  generalize rightV l dev tm = V at *
  generalize aheadGo dev tm = SG at *
  have hB0 := Below.refl w.heap.size w
  clear h hb
  go_enter Tryz.func208, Tryz.ntmps208
  go_wp2_with fail
  go_loopw [7, 12] (fun av i wr => ∃ (k : Nat) (a : Int), k ≤ n ∧ i = .int .i64 k ∧ av = .int .i64 a ∧ (-3600000 ≤ a ∧ a ≤ 3600000) ∧ Below w.heap.size w wr ∧ Hid (SG a (l.drop k) = SG 0 l)) (fun _ i _ => n - (intOf i).toNat)
  case atStart => exact ⟨0, 0, Nat.zero_le _, rfl, rfl, by omega, hB0, Lib.hid rfl⟩
  case round =>
    clear hB0
    obtain ⟨k, a, hk, rfl, rfl, ha, hB, hF⟩ := hrel
    by_cases hlt : k < n
    · obtain ⟨b, off, x, rfl, hbl, hx, c0, c1, c2⟩ := RCk_at3 (hR.out _ hB) hlt
      have hS := Lib.hid ((hGa.out a k x hx).symm.trans hF.out)
      have hxb := hb'.out k x hx
      have hmw := hB.size
      clear hx hF
      obtain ⟨dev2, fr, ah⟩ := x
      dsimp only at *
      have hBn := hB.alloc hB.size (.cells #[.string dev2, .int .i64 fr, .int .i64 ah] 165)
      have hn0 := heap_alloc_new wr (.cells #[.string dev2, .int .i64 fr, .int .i64 ah] 165)
      by_cases hd : dev2.toList = dev.toList
      · by_cases hf : fr ≤ tm
        · have hS2 := Lib.hid (show SG ah (l.drop (k + 1)) = SG 0 l by rw [← hS.out, if_pos ⟨hd, hf⟩])
          clear hS hB
          go_wp2
          go_roundw
          case rel => exact ⟨k + 1, ah, by omega, by go_num, rfl, hxb, hBn, hS2⟩
          case measure => simp [intOf]; omega
        · have hS2 := Lib.hid (show SG a (l.drop (k + 1)) = SG 0 l by rw [← hS.out, if_neg (fun h => hf h.2)])
          clear hS hB
          go_wp2
          go_roundw
          case rel => exact ⟨k + 1, a, by omega, by go_num, rfl, ha, hBn, hS2⟩
          case measure => simp [intOf]; omega
      · have hS2 := Lib.hid (show SG a (l.drop (k + 1)) = SG 0 l by rw [← hS.out, if_neg (fun h => hd h.1)])
        clear hS hB
        go_wp2
        go_roundw
        case rel => exact ⟨k + 1, a, by omega, by go_num, rfl, ha, hBn, hS2⟩
        case measure => simp [intOf]; omega
    · obtain rfl : k = n := by omega
      have hE : Hid (V = min (max (tm - a) 0) 345686399999) := Lib.hid (by rw [hV.out, ← hF.out, drop_end (by rw [hl.out]; exact Nat.le_refl _), hG0.out])
      have u1 : IntKind.i64.wrap (tm - a) = tm - a := IntWalk.i64_in _ (by omega)
      clear hF hV
      go_wp2
      go_ret
      exact ⟨ret_i (by rw [hE.out]), hB⟩
set_option maxHeartbeats 3200000 in
set_option maxRecDepth 100000 in
theorem rightAt_c (A : Option Addr) (n c : Nat) (l : List Ck) (dev : ByteArray) (tm : Int) (w : World) (h : RCk w A n l) (hb : CkBd l) (ht : 0 ≤ tm ∧ tm ≤ 345686399999) :
    Calls Tryz.prog 112 #[.slice A n c, .string dev, .int .i64 tm] w fun e w' => e = .returned (.int .i64 (rightV l dev tm)) ∧ Below w.heap.size w w' := by
  have hbd := h.bd
  have hR := Lib.hid (fun W B => h.below (w' := W) B)
  have hl := Lib.hid h.len
  have hGa := Lib.hid (fun a k x (h : l[k]? = some x) => aheadGo_at (dev := dev) (tm := tm) a h)
  have hG0 := Lib.hid (fun a => show aheadGo dev tm a [] = a from rfl)
  have hb' := Lib.hid (fun k x (h : l[k]? = some x) => hb x (List.mem_of_getElem? h))
  have hV := Lib.hid (show rightV l dev tm = min (max (tm - aheadGo dev tm 0 l) 0) 345686399999 from rfl)
  generalize rightV l dev tm = V at *
  generalize aheadGo dev tm = SG at *
  have hB0 := Below.refl w.heap.size w
  clear h hb
  go_enter Tryz.func112, Tryz.ntmps112
  go_wp2_with fail
  go_loopw [7, 12] (fun av i wr => ∃ (k : Nat) (a : Int), k ≤ n ∧ i = .int .i64 k ∧ av = .int .i64 a ∧ (-3600000 ≤ a ∧ a ≤ 3600000) ∧ Below w.heap.size w wr ∧ Hid (SG a (l.drop k) = SG 0 l)) (fun _ i _ => n - (intOf i).toNat)
  case atStart => exact ⟨0, 0, Nat.zero_le _, rfl, rfl, by omega, hB0, Lib.hid rfl⟩
  case round =>
    clear hB0
    obtain ⟨k, a, hk, rfl, rfl, ha, hB, hF⟩ := hrel
    by_cases hlt : k < n
    · obtain ⟨b, off, x, rfl, hbl, hx, c0, c1, c2⟩ := RCk_at3 (hR.out _ hB) hlt
      have hS := Lib.hid ((hGa.out a k x hx).symm.trans hF.out)
      have hxb := hb'.out k x hx
      have hmw := hB.size
      clear hx hF
      obtain ⟨dev2, fr, ah⟩ := x
      dsimp only at *
      have hBn := hB.alloc hB.size (.cells #[.string dev2, .int .i64 fr, .int .i64 ah] 165)
      have hn0 := heap_alloc_new wr (.cells #[.string dev2, .int .i64 fr, .int .i64 ah] 165)
      by_cases hd : dev2.toList = dev.toList
      · by_cases hf : fr ≤ tm
        · have hS2 := Lib.hid (show SG ah (l.drop (k + 1)) = SG 0 l by rw [← hS.out, if_pos ⟨hd, hf⟩])
          clear hS hB
          go_wp2
          go_roundw
          case rel => exact ⟨k + 1, ah, by omega, by go_num, rfl, hxb, hBn, hS2⟩
          case measure => simp [intOf]; omega
        · have hS2 := Lib.hid (show SG a (l.drop (k + 1)) = SG 0 l by rw [← hS.out, if_neg (fun h => hf h.2)])
          clear hS hB
          go_wp2
          go_roundw
          case rel => exact ⟨k + 1, a, by omega, by go_num, rfl, ha, hBn, hS2⟩
          case measure => simp [intOf]; omega
      · have hS2 := Lib.hid (show SG a (l.drop (k + 1)) = SG 0 l by rw [← hS.out, if_neg (fun h => hd h.1)])
        clear hS hB
        go_wp2
        go_roundw
        case rel => exact ⟨k + 1, a, by omega, by go_num, rfl, ha, hBn, hS2⟩
        case measure => simp [intOf]; omega
    · obtain rfl : k = n := by omega
      have hE : Hid (V = min (max (tm - a) 0) 345686399999) := Lib.hid (by rw [hV.out, ← hF.out, drop_end (by rw [hl.out]; exact Nat.le_refl _), hG0.out])
      have u1 : IntKind.i64.wrap (tm - a) = tm - a := IntWalk.i64_in _ (by omega)
      clear hF hV
      go_wp2
      go_ret
      exact ⟨ret_i (by rw [hE.out]), hB⟩
end Go.Proofs.YtmfebjeddgigmaaGreatDoor
