/- tumbref1.ofLane. Printed by wip/genpadd.py. -/
import Derived.Test.YtmfebjeddgigmaaGreatDoorPadD
namespace Go.Proofs.YtmfebjeddgigmaaGreatDoor
open Go.RowKit Go.Shelf Go.Lib Go.Sort
set_option linter.unusedVariables false

def RetTd7 (w : World) (L : List Td) (e : Ending) (w' : World) : Prop := ∃ A c, e = .returned (.slice A L.length c) ∧ RN 7 tdE7 238 w' A L.length L ∧ Below w.heap.size w w'
set_option maxHeartbeats 6400000 in
set_option maxRecDepth 100000 in
theorem ofLane_c (Ac : Option Addr) (nc cc : Nat) (cl : List Ck) (A : Option Addr) (n c : Nat) (l : List Sg) (w : World) (hc : RCk w Ac nc cl) (h : RSg w A n l) (hcb : CkBd cl) (hsb : SgBd l) (hn : n ≤ 19) (H : Nat) (lane kind : Int) :
    Calls Tryz.prog 177 #[.slice Ac nc cc, .slice A n c, .int .i64 kind, .int .i64 H, .int .i64 lane] w (RetTd7 w (tdL cl l H lane kind)) := by
  have hR := Lib.hid (fun W B => h.below (w' := W) B)
  have hl := Lib.hid h.len
  have hRt := Lib.hid (fun k x (h : l[k]? = some x) W B => rightAt_c Ac nc cc cl x.dev x.tm W (hc.below (w' := W) B) hcb (hsb x (List.mem_of_getElem? h)))
  have hHo := Lib.hid (fun tm W (B : Below w.heap.size w W) => show Calls Tryz.prog 23 #[.slice Ac nc cc, .slice A n c, .int .i64 tm] W fun e w' => e = .returned (.int .i64 (ct tm (startsV cl l) : Nat)) ∧ Below W.heap.size W w' from heatAt_c Ac nc cc cl A n c l tm W (hc.below B) (h.below B) hcb hsb (by omega))
  have hGa := Lib.hid (fun k x (h : l[k]? = some x) => lnGo_at (cl := cl) (S := startsV cl l) (H := H) (lane := lane) (kind := kind) h)
  have hG0 := Lib.hid (show lnGo cl (startsV cl l) H lane kind [] = [] from rfl)
  have hGn := lnGo_len cl (startsV cl l) H lane kind l
  have hV := Lib.hid (show tdL cl l H lane kind = insL (ltOf tdCf) (lnGo cl (startsV cl l) H lane kind l) from rfl)
  have hVl := Lib.hid (show (tdL cl l H lane kind).length = (lnGo cl (startsV cl l) H lane kind l).length by unfold tdL; rw [insL_len])
  have hll := h.len
  generalize tdL cl l H lane kind = V at *
  generalize lnGo cl (startsV cl l) H lane kind = SGo at *
  generalize startsV cl l = S at *
  generalize rightV cl = RV at *
  clear h hc hcb hsb
  have hO0 := OL.start tdE7 7 238 w
  go_enter Tryz.func177, Tryz.ntmps177
  go_wp2_with fail
  go_loopw [11, 17] (fun out i wr => ∃ (k : Nat) (acc : List Td), k ≤ n ∧ i = .int .i64 k ∧ OL tdE7 7 238 w out acc wr ∧ acc.length ≤ k ∧ Hid (acc ++ SGo (l.drop k) = SGo l)) (fun _ i _ => n - (intOf i).toNat)
  case atStart => exact ⟨0, [], Nat.zero_le _, rfl, hO0, Nat.le_refl _, Lib.hid rfl⟩
  case round =>
    clear hO0
    obtain ⟨k, acc, hk, rfl, hO, hac, hF⟩ := hrel
    by_cases hlt : k < n
    · obtain ⟨b, off, x, rfl, hbl, hx, c0, c1, c2, c3, c4, c5⟩ := RSg_at6 (hR.out _ hO.bel) hlt
      have hS := Lib.hid (hGa.out k x hx)
      have hRx := Lib.hid (fun W B => hRt.out k x hx W B)
      have hmw := hO.bel.size
      obtain ⟨Ao, co, rfl⟩ := own_shape hO.own
      clear hx
      obtain ⟨dev, no, kd, tm, ln, time⟩ := x
      dsimp only at *
      have hOn := hO.below (below_new wr (.cells #[.string dev, .int .i64 no, .int .i64 kd, .int .i64 tm, .int .i64 ln, .int .i64 time] 155))
      have hn0 := heap_alloc_new wr (.cells #[.string dev, .int .i64 no, .int .i64 kd, .int .i64 tm, .int .i64 ln, .int .i64 time] 155)
      generalize RV dev tm = rv at *
      go_wp2_with fail
      refine (hRx.out _ hOn.bel).mono ?_; rintro e w6 ⟨rfl, B6⟩
      have hO6 := hOn.below B6
      have hb6 := (B6.block wr.heap.size (lt_of_heap hn0)).trans hn0
      have x0 := (blk_facts hb6).1 0
      have x1 := (blk_facts hb6).1 1
      have x2 := (blk_facts hb6).1 2
      have x3 := (blk_facts hb6).1 3
      have x4 := (blk_facts hb6).1 4
      have x5 := (blk_facts hb6).1 5
      have hz6 := hO6.bel.size
      have hHx := Lib.hid (hHo.out rv _ hO6.bel)
      generalize ct rv S = q at *
      clear hn0 B6 hOn hO hRx
      by_cases hkd : kd = kind
      rotate_left
      · have hS2 := Lib.hid (show acc ++ SGo (l.drop (k + 1)) = SGo l by rw [← hF.out, hS.out, if_neg (fun h => hkd h.1.1)])
        clear hS hF hHx
        go_wp2
        go_roundw
        case rel => exact ⟨k + 1, acc, by omega, by go_num, hO6, by omega, hS2⟩
        case measure => simp [intOf]; omega
      by_cases hln : ln = lane
      rotate_left
      · have hS2 := Lib.hid (show acc ++ SGo (l.drop (k + 1)) = SGo l by rw [← hF.out, hS.out, if_neg (fun h => hln h.1.2)])
        clear hS hF hHx
        go_wp2
        go_roundw
        case rel => exact ⟨k + 1, acc, by omega, by go_num, hO6, by omega, hS2⟩
        case measure => simp [intOf]; omega
      have hS9 := Lib.hid (show acc ++ (if q = H then (⟨⟨dev, no, kd, tm, ln, time⟩, rv⟩ : Td) :: SGo (l.drop (k + 1)) else SGo (l.drop (k + 1))) = SGo l by
        rw [← hF.out, hS.out]
        by_cases hq : q = H
        · rw [if_pos hq, if_pos ⟨⟨hkd, hln⟩, hq⟩]
        · rw [if_neg hq, if_neg (fun h => hq h.2)])
      clear hS hF
      subst hkd hln
      go_wp2_with fail
      refine hHx.out.mono ?_; rintro e w8 ⟨rfl, B8⟩
      have hO8 := hO6.below B8
      have hb8 := (B8.block wr.heap.size (lt_of_heap hb6)).trans hb6
      have y0 := (blk_facts hb8).1 0
      have y1 := (blk_facts hb8).1 1
      have y2 := (blk_facts hb8).1 2
      have y3 := (blk_facts hb8).1 3
      have y4 := (blk_facts hb8).1 4
      have y5 := (blk_facts hb8).1 5
      have hz8 := hO8.bel.size
      clear hHx x0 x1 x2 x3 x4 x5 hb6 B8 hO6
      by_cases hq : q = H
      · have hS2 := Lib.hid (show acc ++ [(⟨⟨dev, no, kd, tm, ln, time⟩, rv⟩ : Td)] ++ SGo (l.drop (k + 1)) = SGo l by rw [← hS9.out, if_pos hq, List.append_assoc]; rfl)
        clear hS9
        subst hq
        have hown8 := Lib.hid hO8.own
        go_wp2_with (at_builtin; refine wpList_app rfl (.tmp 45) (.tmp 49) 235 rfl Tryz.underlying235 info_timed rfl (by omega) (by omega) hown8.out rfl rfl (by first | rfl | (simp; done)) (by rfl) (by simp [Value.oneCell']) (by omega) hz8 ?_; intro v9 w9 hown9 hg9)
        have hO9 := hO8.app (x := (⟨⟨dev, no, kd, tm, ln, time⟩, rv⟩ : Td)) hown9 hg9
        clear hown9 hg9 hown8 hO8
        go_roundw
        case rel => exact ⟨k + 1, _, by omega, by go_num, hO9, by rw [List.length_append]; simp; omega, hS2⟩
        case measure => simp [intOf]; omega
      · have hS2 := Lib.hid (show acc ++ SGo (l.drop (k + 1)) = SGo l by rw [← hS9.out, if_neg hq])
        have hq1 : ¬ ((q : Nat) : Int) = (H : Nat) := by omega
        clear hS9
        go_wp2
        go_roundw
        case rel => exact ⟨k + 1, acc, by omega, by go_num, hO8, by omega, hS2⟩
        case measure => simp [intOf]; omega
    · obtain rfl : k = n := by omega
      have hA : Hid (acc = SGo l) := Lib.hid (by rw [← hF.out, drop_end (by rw [hl.out]; exact Nat.le_refl _), hG0.out, List.append_nil])
      obtain ⟨A', c', rfl⟩ := own_shape hO.own
      have hbel := hO.bel
      have hown := Lib.hid hO.own
      have hm19 : (SGo l).length ≤ 19 := by omega
      have hS1 := Lib.hid (tdSortB_c acc wr w.heap.size acc.length (.slice A' acc.length c') hown.out (by omega))
      rw [hA.out, ← hV.out] at hS1
      rw [hA.out] at hown
      have hgl := Lib.hid hVl.out.symm
      rw [hA.out]
      clear hF hO hV hVl
      generalize (SGo l).length = m at *
      go_wp2_with fail
      refine hS1.out.mono ?_; rintro e w6 ⟨rfl, ho6, hg6⟩
      have hb6 := below_own hbel hown.out hg6 hbel.size (Nat.le_refl _)
      obtain rfl := hgl.out
      have hRf := RN.of_own tdE7_len ho6 rfl (by omega)
      clear hS1 hown hg6 ho6
      go_wp2
      go_ret
      exact ⟨A', c', rfl, hRf, hb6⟩
end Go.Proofs.YtmfebjeddgigmaaGreatDoor
