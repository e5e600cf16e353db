/- race.passes: the edges. -/
import Derived.Test.YtlddeeagnlgciaaGreatDoorEdgeD
import Derived.Test.YtlddeeagnlgciaaGreatDoorPassL
import Derived.Test.YtlddeeagnlgciaaGreatDoorLeadT
import Derived.Test.YtlddeeagnlgciaaGreatDoorRegInv2
import Derived.Deep.DeepCutAuto
namespace Go.Proofs.YtlddeeagnlgciaaGreatDoor
open Go.RowKit
set_option linter.unusedVariables false

def frE (p : Int × Int) : List Value := [.int .i64 p.1, .int .i64 p.2]
theorem frE_len : ∀ p, (frE p).length = 2 := fun _ => rfl
abbrev RFr (w : World) (A : Option Addr) (n : Nat) (l : List (Int × Int)) : Prop := RN 2 frE 86 w A n l
theorem info_fr : (Tryz.prog.info? 86).map (fun i => (i.zero, i.size, i.bytes)) = some (some (.agg #[.int .i64 0, .int .i64 0]), 2, 16) := by kernel_rfl
theorem filt_at {f : Int} {l : List Int} {k : Nat} {x : Int} (h : l[k]? = some x) : (l.drop k).filter (fun y => decide (y < f)) = if x < f then x :: (l.drop (k + 1)).filter (fun y => decide (y < f)) else (l.drop (k + 1)).filter (fun y => decide (y < f)) := by
  rw [drop_at h, List.filter_cons]
  by_cases hx : x < f <;> simp [hx]
set_option maxHeartbeats 6400000 in
set_option maxRecDepth 100000 in
theorem passes_c (r : Race) (A B : Option Addr) (n c m d : Nat) (la lb : List Int) (fin : Int) (w : World) (ha : RI 3 w A n la) (hb : RI 3 w B m lb) (ha0 : wholeErr r la = 0) (hb0 : wholeErr r lb = 0) (hn1 : 1 ≤ n) (hm1 : 1 ≤ m) (hn : n ≤ 300) (hm : m ≤ 300) (hfin : fin = min (la.getD (n - 1) 0) (lb.getD (m - 1) 0)) (h2 : Two2 r.course (r.metres * r.legs) la lb fin) :
    Calls Tryz.prog 114 #[r.val, .slice A n c, .slice B m d] w fun e w' => ∃ A' n' c', e = .returned (.slice A' n' c') ∧ RFr w' A' n' (passL r.course (r.metres * r.legs) la lb fin) ∧ Below w.heap.size w w' := by
  obtain ⟨bA, oA, tA, hAA, lA, htA, cA⟩ := ha.at_ (k := n - 1) (by omega)
  obtain ⟨bB, oB, tB, hBB, lB, htB, cB⟩ := hb.at_ (k := m - 1) (by omega)
  rw [getD_of htA, getD_of htB] at hfin
  have hAb := (splits_bd (wholeErr_ok ha0).1).2.2
  have hBb := (splits_bd (wholeErr_ok hb0).1).2.2
  have htAb := hAb _ (List.mem_of_getElem? htA)
  have htBb := hBb _ (List.mem_of_getElem? htB)
  have hAn : A = none → c = 0 := fun e => by rw [e] at hAA; cases hAA
  have hBn : B = none → d = 0 := fun e => by rw [e] at hBB; cases hBB
  have e1 : IntKind.i64.wrap ((n : Int) - 1) = (n : Int) - 1 := IntWalk.i64_in _ (by omega)
  have e2 : 0 ≤ (n : Int) - 1 := by omega
  have e3 : ((n : Int) - 1).toNat = n - 1 := by omega
  have e4 : (n : Int) - 1 < n := by omega
  have e5 : (1 : Int) ≤ (n : Int) := by omega
  have f1 : IntKind.i64.wrap ((m : Int) - 1) = (m : Int) - 1 := IntWalk.i64_in _ (by omega)
  have f2 : 0 ≤ (m : Int) - 1 := by omega
  have f3 : ((m : Int) - 1).toNat = m - 1 := by omega
  have f4 : (m : Int) - 1 < m := by omega
  have f5 : (1 : Int) ≤ (m : Int) := by omega
  have hE : Hid (edgesP la lb fin = Lib.compact ((0 :: fin :: (la ++ lb).filter fun x => decide (x < fin)).mergeSort fun x y => decide (x ≤ y))) := Lib.hid rfl
  have hl := Lib.hid (show (la ++ lb).length = n + m by rw [List.length_append, ha.len, hb.len])
  have hlb := Lib.hid (show ∀ x ∈ la ++ lb, 0 ≤ x ∧ x ≤ 360000 from fun x hx => by rcases List.mem_append.1 hx with h | h; exact hAb x h; exact hBb x h)
  have hAh := Lib.hid (fun q W g1 g2 h0 h1 => ahead_c' r A B n c m d la lb q W g1 g2 ha0 hb0 h0 h1)
  have hMt := Lib.hid (fun q W g1 g2 hxa hxb p1 p2 => show Calls Tryz.prog 174 #[.slice A n c, .slice B m d, .int .i64 q] W fun e w' => e = .returned (.agg #[.int .i64 (meetF la lb q).1, .int .i64 (meetF la lb q).2]) ∧ Below W.heap.size W w' from meet_c A B n c m d la lb q W g1 g2 (by omega) (by omega) hAb hBb h2.ra h2.rb hxa hxb p1 p2)
  have hCo := Lib.hid (fun z W hz g1 g2 => concat2_c A B n c m d z la lb W hz g1 g2 hAn hBn (by omega) (by omega) (by omega))
  obtain ⟨key, metres, stroke, course, legs, sex, young, old⟩ := r
  dsimp only [Race.val, Race.cells] at *
  subst hAA
  subst hBB
  clear htA htB hAb hBb hAn hBn
  have hr0 := heap_alloc_new w (.cells #[.string key, .int .i64 metres, .int .i64 stroke, .int .i64 course, .int .i64 legs, .int .i64 sex, .int .i64 young, .int .i64 old] 27)
  have hB0 := below_new w (.cells #[.string key, .int .i64 metres, .int .i64 stroke, .int .i64 course, .int .i64 legs, .int .i64 sex, .int .i64 young, .int .i64 old] 27)
  have cA1 := (hB0.cell (p := ⟨bA, oA + (n - 1), none⟩) lA).trans cA
  have cB1 := (hB0.cell (p := ⟨bB, oB + (m - 1), none⟩) lB).trans cB
  have hz0 : (w.alloc (.cells #[.string key, .int .i64 metres, .int .i64 stroke, .int .i64 course, .int .i64 legs, .int .i64 sex, .int .i64 young, .int .i64 old] 27)).heap.size = w.heap.size + 1 := alloc_size _ _
  go_enter Tryz.func114, Tryz.ntmps114
  go_wp2_with fail
  generalize hW1 : w.alloc (.cells #[.string key, .int .i64 metres, .int .i64 stroke, .int .i64 course, .int .i64 legs, .int .i64 sex, .int .i64 young, .int .i64 old] 27) = w1 at *
  clear cA cB hW1
  have cA2 : w1.drew.cell? ⟨bA, oA + (n - 1), none⟩ = some (.int .i64 tA) := cA1
  have cB2 : w1.drew.cell? ⟨bB, oB + (m - 1), none⟩ = some (.int .i64 tB) := cB1
  go_region_held3 (fun w' => w'.cell? ⟨bA, oA + (n - 1), none⟩ = some (.int .i64 tA) ∧ w'.cell? ⟨bB, oB + (m - 1), none⟩ = some (.int .i64 tB)) (first | with_reducible exact ⟨cA2, cB2⟩) (first | (fail))
  rw [← hfin]
  have hfb : 0 ≤ fin ∧ fin ≤ 360000 := by omega
  have hBd : Below w.heap.size w w1.drew := below_drewN hB0 1
  have hrd : w1.drew.heap[w.heap.size]? = some (.cells #[.string key, .int .i64 metres, .int .i64 stroke, .int .i64 course, .int .i64 legs, .int .i64 sex, .int .i64 young, .int .i64 old] 27 (0, 0)) := hr0
  have hzd : w1.drew.heap.size = w.heap.size + 1 := hz0
  clear cA1 cB1 cA2 cB2 hr0 hB0 hz0 e1 e2 e3 e4 e5 f1 f2 f3 f4 f5 lA lB htAb htBb hfin
  generalize w1.drew = w2 at *
  have hown0 : (w2.alloc (.cells #[.int .i64 0, .int .i64 fin] 3)).ownsRow (w.heap.size + 1) 3 1 (.slice (some ⟨w2.heap.size, 0, none⟩) 2 2) 2 (ints [0, fin]) := World.ownsRow_lit w2 #[.int .i64 0, .int .i64 fin] 2 (by omega) (by decide) rfl
  have hB2 := hBd.alloc hBd.size (.cells #[.int .i64 0, .int .i64 fin] 3)
  have hr2 := blk_alloc hrd (.cells #[.int .i64 0, .int .i64 fin] 3)
  have hz2 : (w2.alloc (.cells #[.int .i64 0, .int .i64 fin] 3)).heap.size = w2.heap.size + 1 := alloc_size _ _
  generalize hw3 : w2.alloc (.cells #[.int .i64 0, .int .i64 fin] 3) = w3 at *
  have hzz := heap_alloc_new w3 (.cells #[.slice (some ⟨bA, oA, none⟩) n c, .slice (some ⟨bB, oB, none⟩) m d] 22)
  have hB3 := hB2.alloc hB2.size (.cells #[.slice (some ⟨bA, oA, none⟩) n c, .slice (some ⟨bB, oB, none⟩) m d] 22)
  have hr3 := blk_alloc hr2 (.cells #[.slice (some ⟨bA, oA, none⟩) n c, .slice (some ⟨bB, oB, none⟩) m d] 22)
  have hown3 := hown0.alloc (.cells #[.slice (some ⟨bA, oA, none⟩) n c, .slice (some ⟨bB, oB, none⟩) m d] 22)
  rw [hzd] at hown3 hz2
  rw [hz2] at hzz
  subst hw3
  go_wp2_with fail
  refine (hCo.out _ _ hzz (ha.below hB3) (hb.below hB3)).mono ?_; rintro e w4 ⟨CA, cc, rfl, hconc, B4⟩
  have hB4 := below_next hB3 B4
  have hr4 := blk_below hr3 B4
  have hown4 := own_below hown3 B4
  have hR4 := R1.of_own hconc (by omega)
  clear hzz hB3 hr3 hown3 hown0 hB2 hr2 hz2 B4 hBd hrd hCo
  have hB9 : w.heap.size + 1 ≤ ((w2.alloc (.cells #[.int .i64 0, .int .i64 fin] 3)).alloc (.cells #[.slice (some ⟨bA, oA, none⟩) n c, .slice (some ⟨bB, oB, none⟩) m d] 22)).heap.size := by simp; omega
  have hne := Lib.hid (show ∀ i, (Value.slice (some ⟨w.heap.size + 1, 0, none⟩) 2 2).ownBlock = some i → (Value.slice CA (n + m) cc).ownBlock ≠ some i from fun i hi e => by
    have h1 := (hconc.lt i e).1
    have h3 : w.heap.size + 1 = i := by simpa [Value.ownBlock] using hi
    simp at h1
    omega)
  have hconc := own_mono hconc hB9
  clear hB9 hR4
  go_wp2_with fail
  clear hzd
  go_loopw [8, 36] (fun v8 i wr => ∃ (k : Nat) (acc : List Int), k ≤ n + m ∧ i = .int .i64 k ∧ wr.ownsRow (w.heap.size + 1) 3 1 v8 (acc.length + 2) (ints (0 :: fin :: acc)) ∧ wr.ownsRow (w.heap.size + 1) 3 1 (.slice CA (n + m) cc) (n + m) (ints (la ++ lb)) ∧ Hid (∀ i, v8.ownBlock = some i → (Value.slice CA (n + m) cc).ownBlock ≠ some i) ∧ Below w.heap.size w wr ∧ wr.heap[w.heap.size]? = some (.cells #[.string key, .int .i64 metres, .int .i64 stroke, .int .i64 course, .int .i64 legs, .int .i64 sex, .int .i64 young, .int .i64 old] 27 (0, 0)) ∧ acc.length ≤ k ∧ Hid (acc ++ ((la ++ lb).drop k).filter (fun y => decide (y < fin)) = (la ++ lb).filter (fun y => decide (y < fin)))) (fun _ i _ => n + m - (intOf i).toNat)
  case atStart => exact ⟨0, [], Nat.zero_le _, rfl, hown4, hconc, hne, hB4, hr4, Nat.zero_le _, Lib.hid rfl⟩
  case round =>
    clear hown4 hconc hne hB4 hr4
    obtain ⟨k, acc, hk, rfl, hown, hconc, hne, hB, hr, hak, hG⟩ := hrel
    by_cases hlt : k < n + m
    · obtain ⟨bC, oC, x, hCA, lC, hx, cC⟩ := (R1.of_own hconc (by omega)).at_ hlt
      have hxb := hlb.out x (List.mem_of_getElem? hx)
      have hS := Lib.hid (filt_at (f := fin) hx)
      have hlr := lt_of_heap hr
      have hkn : (k : Int) < (n : Int) + (m : Int) := by omega
      subst hCA
      clear hx
      by_cases hxf : x < fin
      · have hN := Lib.hid (show (acc ++ [x]) ++ ((la ++ lb).drop (k + 1)).filter (fun y => decide (y < fin)) = (la ++ lb).filter (fun y => decide (y < fin)) by rw [← hG.out, hS.out, if_pos hxf]; simp)
        clear hS hG
        go_wp2_with (at_builtin; refine wpList_appAt rfl (.tmp 43) (.tmp 45) 22 rfl Tryz.underlying22 info_int rfl (by omega) (by omega) hown rfl rfl rfl rfl (by simp [Value.oneCell']) (by omega) (by omega) ?_; intro v4 w4 hown4 hg4 hat4)
        have hB4 := below_own hB hown hg4 hB.size (by omega)
        have hc4 := hconc.kept hg4 (by
          cases hc : (Value.slice (some (⟨bC, oC, none⟩ : Addr)) (n + m) cc).ownBlock with
          | none => exact .inl rfl
          | some i => exact .inr fun e => hne.out i e.symm hc)
        have hn4 := Lib.hid (show ∀ i, v4.ownBlock = some i → (Value.slice (some (⟨bC, oC, none⟩ : Addr)) (n + m) cc).ownBlock ≠ some i from fun i hi => by
          rcases hat4 i hi with h1 | h1
          · exact hne.out i h1
          · intro e; have := (hconc.lt i e).2; omega)
        have hr4 := blk_grown hr hg4 (fun e => by have := (hown.lt _ e.symm).1; omega)
        have ho4 : w4.ownsRow (w.heap.size + 1) 3 1 v4 ((acc ++ [x]).length + 2) (ints (0 :: fin :: (acc ++ [x]))) := by
          have h9 := hown4
          rw [show acc.length + 2 + 1 = (acc ++ [x]).length + 2 by simp] at h9
          simpa [ints] using h9
        clear hown4 hown hconc hne hat4 hg4 hB hr
        go_roundw
        case rel => exact ⟨k + 1, acc ++ [x], by omega, by go_num, ho4, hc4, hn4, hB4, hr4, by simp; omega, hN⟩
        case measure => simp [intOf]; omega
      · have hN := Lib.hid (show acc ++ ((la ++ lb).drop (k + 1)).filter (fun y => decide (y < fin)) = (la ++ lb).filter (fun y => decide (y < fin)) by rw [← hG.out, hS.out, if_neg hxf])
        clear hS hG
        go_wp2
        go_roundw
        case rel => exact ⟨k + 1, acc, by omega, by go_num, hown, hconc, hne, hB, hr, by omega, hN⟩
        case measure => simp [intOf]; omega
    · obtain rfl : k = n + m := by omega
      have hac : 0 :: fin :: acc = 0 :: fin :: (la ++ lb).filter (fun y => decide (y < fin)) := by
        have h9 := hG.out
        rw [drop_end (by rw [hl.out]; exact Nat.le_refl _)] at h9
        rw [← h9]; simp
      rw [hac] at hown
      obtain ⟨EA, ec, rfl⟩ := own_shape hown
      have hSo := Lib.hid (sortOwn_c _ EA _ ec _ wr hown (by omega) (by omega))
      clear hac hconc hne hG hl
      go_wp2_with fail
      refine hSo.out.mono ?_; rintro e w5 ⟨rfl, hown5, hg5⟩
      have hB5 := below_own hB hown hg5 hB.size (by omega)
      have hr5 := blk_grown hr hg5 (fun e => by have := (hown.lt _ e.symm).1; omega)
      have hCm := Lib.hid (compactOwn_c _ EA _ ec _ w5 hown5 (by omega) (by omega))
      rw [← hE.out] at hCm
      clear hown hB hr hg5 hSo
      go_wp2_with fail
      refine hCm.out.mono ?_; rintro e w6 ⟨rfl, hown6, hg6⟩
      have hB6 := below_own hB5 hown5 hg6 hB5.size (by omega)
      have hr6 := blk_grown hr5 hg6 (fun e => by have := (hown5.lt _ e.symm).1; omega)
      clear hown5 hB5 hr5 hg6 hCm hE
      obtain ⟨rest, he, hpw, hbd, hall⟩ := edges_ok h2.fm (fun x hx => by
        rcases List.mem_append.1 hx with hx | hx
        · exact rise_all h2.ra x hx
        · exact rise_all h2.rb x hx)
      have hPL : Hid (passGo (sideP course (metres * legs) la lb) (meetF la lb) 0 0 ((edgesP la lb fin).drop 1) = passL course (metres * legs) la lb fin) := Lib.hid (by unfold passL; rw [List.drop_one])
      have hEl : 1 ≤ (edgesP la lb fin).length := by rw [he]; simp
      have hE0 : (edgesP la lb fin).getD 0 0 = 0 := by rw [he]; rfl
      have hEL : (edgesP la lb fin).length ≤ 1000 := by
        unfold edgesP
        have h8 := Lib.compact_length_le ((0 :: fin :: (la ++ lb).filter fun x => decide (x < fin)).mergeSort fun x y => decide (x ≤ y))
        have h9 := List.length_filter_le (fun x => decide (x < fin)) (la ++ lb)
        rw [List.length_mergeSort] at h8
        have h7 : (la ++ lb).length ≤ 600 := by rw [List.length_append]; have := ha.len; have := hb.len; omega
        simp only [List.length_cons] at h8
        omega
      clear he hak hlt hk
      generalize edgesP la lb fin = E at *
      generalize hLL : E.length = L at *
      go_wp2_with fail
      go_loopw [11, 12, 13] (fun v11 v12 v13 wr => ∃ (kk : Nat) (o : Int) (outs : List (Int × Int)), 1 ≤ kk ∧ kk ≤ L ∧ v13 = .int .i64 kk ∧ v12 = .int .i64 o ∧ (o = -1 ∨ o = 0 ∨ o = 1) ∧ outs.length ≤ kk ∧ wr.ownsRow (w.heap.size + 1) 86 2 v11 outs.length (outs.flatMap frE) ∧ wr.ownsRow (w.heap.size + 1) 3 1 (.slice EA L ec) L (ints E) ∧ Below w.heap.size w wr ∧ wr.heap[w.heap.size]? = some (.cells #[.string key, .int .i64 metres, .int .i64 stroke, .int .i64 course, .int .i64 legs, .int .i64 sex, .int .i64 young, .int .i64 old] 27 (0, 0)) ∧ Hid (outs ++ passGo (sideP course (metres * legs) la lb) (meetF la lb) (E.getD (kk - 1) 0) o (E.drop kk) = passL course (metres * legs) la lb fin)) (fun _ _ v13 _ => L - (intOf v13).toNat)
      case atStart => exact ⟨1, 0, [], Nat.le_refl _, hEl, rfl, rfl, .inr (.inl rfl), Nat.zero_le _, World.ownsRow_nil _ _ _ _, hown6, hB6, hr6, Lib.hid (by rw [show (1 : Nat) - 1 = 0 from rfl, hE0]; exact hPL.out)⟩
      case round =>
        clear hown6 hB6 hr6 hPL hE0
        obtain ⟨kk, o, outs, hk1, hk2, rfl, rfl, ho3, hal, hout, hown, hB, hr, hG⟩ := hrel
        by_cases hlt : kk < L
        · obtain ⟨t, htE⟩ := at_of_lt (l := E) (k := kk) (by rw [hLL]; exact hlt)
          obtain ⟨e, heE⟩ := at_of_lt (l := E) (k := kk - 1) (by rw [hLL]; omega)
          have heD : E.getD (kk - 1) 0 = e := by rw [List.getD_eq_getElem?_getD, heE]; rfl
          have hbt := hbd t (List.mem_of_getElem? htE)
          have hbe := hbd e (List.mem_of_getElem? heE)
          have hGt := Lib.hid (show passGo (sideP course (metres * legs) la lb) (meetF la lb) e o (E.drop kk) = (if sideP course (metres * legs) la lb t ≠ 0 ∧ sideP course (metres * legs) la lb e = -sideP course (metres * legs) la lb t then [meetF la lb e] else if sideP course (metres * legs) la lb t ≠ 0 ∧ sideP course (metres * legs) la lb e = 0 ∧ o = -sideP course (metres * legs) la lb t then [(e, 1)] else []) ++ passGo (sideP course (metres * legs) la lb) (meetF la lb) t (if sideP course (metres * legs) la lb t ≠ 0 then sideP course (metres * legs) la lb t else o) (E.drop (kk + 1)) by rw [drop_at htE]; rfl)
          have hkL : (kk : Int) < (L : Int) := by omega
          rw [heD] at hG
          have hw1 : IntKind.i64.wrap ((kk : Int) - 1) = (kk : Int) - 1 := IntWalk.i64_in _ (by omega)
          have hw2 : 0 ≤ (kk : Int) - 1 := by omega
          have hw3 : ((kk : Int) - 1).toNat = kk - 1 := by omega
          have hw4 : (kk : Int) - 1 < L := by omega
          have hw5 : (1 : Int) ≤ (kk : Int) := by omega
          have hw6 : kk - 1 < L := by omega
          have hw7 : 0 < L := by omega
          have het : e < t := by
            have h9 := List.pairwise_iff_getElem.1 hpw (kk - 1) kk (by omega) (by omega) (by omega)
            rw [List.getElem?_eq_getElem (by omega)] at heE htE
            injection heE with heE
            injection htE with htE
            rw [heE, htE] at h9
            exact h9
          have hno : ∀ x ∈ la ++ lb, x ≤ fin → x ≤ e ∨ t ≤ x := fun x hx hxf => by
            obtain ⟨i, hi⟩ := List.mem_iff_getElem?.1 (hall x hx hxf)
            have hil := lt_of_at hi
            have key : ∀ (i j : Nat) (x y : Int), i < j → E[i]? = some x → E[j]? = some y → x < y := fun i j x y hij hx hy => by
              have hjl := lt_of_at hy
              have h9 := List.pairwise_iff_getElem.1 hpw i j (by omega) hjl hij
              rw [List.getElem?_eq_getElem (by omega)] at hx hy
              injection hx with hx
              injection hy with hy
              rw [hx, hy] at h9
              exact h9
            rcases Nat.lt_trichotomy i kk with h9 | h9 | h9
            · by_cases h8 : i = kk - 1
              · rw [h8, heE] at hi; injection hi with hi; exact .inl (by omega)
              · exact .inl (Int.le_of_lt (key i (kk - 1) x e (by omega) hi heE))
            · rw [h9, htE] at hi; injection hi with hi; exact .inr (by omega)
            · exact .inr (Int.le_of_lt (key kk i t x h9 htE hi))
          have hMe := Lib.hid (fun (hs : sideP course (metres * legs) la lb t ≠ 0) (hs2 : sideP course (metres * legs) la lb e = -sideP course (metres * legs) la lb t) W (h : Below w.heap.size w W) => hMt.out e W (ha.below h) (hb.below h) (by obtain ⟨x, h7, h8⟩ := h2.xa; exact ⟨x, h7, by omega⟩) (by obtain ⟨x, h7, h8⟩ := h2.xb; exact ⟨x, h7, by omega⟩) (edge_step h2 hbe.1 het hbt.2 hno hs hs2).1 (edge_step h2 hbe.1 het hbt.2 hno hs hs2).2.1)
          clear hno het
          have hAh' := Lib.hid (fun q W (h : Below w.heap.size w W) h0 h1 => hAh.out q W (ha.below h) (hb.below h) h0 h1)
          have hRE := Lib.hid (fun (W : World) (h : W.ownsRow (w.heap.size + 1) 3 1 (.slice EA L ec) L (ints E)) => R1.of_own h (by omega))
          have hEA : ∃ gE, EA = some ⟨gE, 0, none⟩ := by
            rcases hown.2 with ⟨_, h9⟩ | ⟨g, cap, cur, hv, _⟩
            · omega
            · injection hv with hv; exact ⟨g, hv⟩
          obtain ⟨gE, rfl⟩ := hEA
          have hcE := Lib.hid (fun (W : World) (h : W.ownsRow (w.heap.size + 1) 3 1 (.slice (some ⟨gE, 0, none⟩) L ec) L (ints E)) => And.intro (show W.cell? ⟨gE, kk - 1, none⟩ = some (.int .i64 e) by rw [h.cellAt (kk - 1) (by omega), ints_at, heE]; rfl) (show W.cell? ⟨gE, kk, none⟩ = some (.int .i64 t) by rw [h.cellAt kk (by omega), ints_at, htE]; rfl))
          go_upto_region 16 with (fail)
          go_cut [14, 15] (fun s14 s15 wx => s14 = .int .i64 (sideP course (metres * legs) la lb e) ∧ s15 = .int .i64 (sideP course (metres * legs) la lb t) ∧ wx.ownsRow (w.heap.size + 1) 86 2 u11 outs.length (outs.flatMap frE) ∧ wx.ownsRow (w.heap.size + 1) 3 1 (.slice (some ⟨gE, 0, none⟩) L ec) L (ints E) ∧ Below w.heap.size w wx ∧ wx.heap[w.heap.size]? = some (.cells #[.string key, .int .i64 metres, .int .i64 stroke, .int .i64 course, .int .i64 legs, .int .i64 sex, .int .i64 young, .int .i64 old] 27 (0, 0)))
          case first =>
            clear hG hGt hRE
            --R16
            refine wp_region_inv (by kernel_rfl) (fun listed a w' => ∃ xs : Nat → Value, a = { tmps := #[Value.agg #[Value.string key, Value.int IntKind.i64 metres, Value.int IntKind.i64 stroke, Value.int IntKind.i64 course, Value.int IntKind.i64 legs, Value.int IntKind.i64 sex, Value.int IntKind.i64 young, Value.int IntKind.i64 old], Value.slice (some { block := bA, off := oA }) n c, Value.slice (some { block := bB, off := oB }) m d, Value.pointer (some { block := w.heap.size, off := 0 }), undef, undef, Value.slice none 0 0, Value.int IntKind.i64 fin, Value.slice (some { block := gE, off := 0 }) L ec, undef, u10, u11, Value.int IntKind.i64 o, Value.int IntKind.i64 ↑kk, xs 17, xs 18, Value.slice (some { block := bA, off := oA }) n c, Value.slice (some { block := bA, off := oA }) n c, Value.int IntKind.i64 ↑n, Value.int IntKind.i64 (↑n - 1), Value.pointer (some { block := bA, off := oA + (n - 1) }), Value.int IntKind.i64 tA, Value.slice (some { block := bB, off := oB }) m d, Value.slice (some { block := bB, off := oB }) m d, Value.int IntKind.i64 ↑m, Value.int IntKind.i64 (↑m - 1), Value.pointer (some { block := bB, off := oB + (m - 1) }), Value.int IntKind.i64 tB, Value.int IntKind.i64 fin, Value.int IntKind.i64 fin, Value.slice (some { block := w.heap.size + 1, off := 0 }) 2 2, Value.slice (some { block := bA, off := oA }) n c, Value.slice (some { block := bB, off := oB }) m d, Value.slice (some { block := w.heap.size + 1 + 1, off := 0 }) 2 2, Value.slice CA (n + m) cc, Value.int IntKind.i64 (↑n + ↑m), Value.int IntKind.i64 (↑n + ↑m), Value.bool false, u38, u39, u40, u41, u42, u43, u44, u45, u46, u47, Value.slice (some { block := gE, off := 0 }) (acc.length + 2) ec, Value.tuple #[], Value.slice (some { block := gE, off := 0 }) (acc.length + 2) ec, Value.slice (some { block := gE, off := 0 }) L ec, Value.int IntKind.i64 ↑kk, Value.slice (some { block := gE, off := 0 }) L ec, Value.int IntKind.i64 ↑L, Value.bool true, u56, u57, xs 0, xs 1, xs 2, xs 3, xs 4, xs 5, xs 6, xs 7, xs 8, xs 9, xs 10, xs 11, xs 12, xs 13, xs 14, xs 15, xs 16, u75, u76, u77, u78, u79, u80, u81, u82, u83, u84, u85, u86, u87, u88, u89, u90, u91, u92, u93, u94, u95, u96, u97, u98, u99, u100, u101, u102, u103, u104, u105, u106, u107, u108, u109, u110, u111, u112, u113, u114, u115, u116, u117, u118, u119, undef], defers := [] } ∧ (∀ j, listed.getD j false = true → CV [some (.agg #[.string key, .int .i64 metres, .int .i64 stroke, .int .i64 course, .int .i64 legs, .int .i64 sex, .int .i64 young, .int .i64 old]), some (.slice (some ⟨bA, oA, none⟩) n c), some (.slice (some ⟨bB, oB, none⟩) m d), some (.slice (some ⟨gE, 0, none⟩) L ec), some (.int .i64 (kk : Int)), some (.int .i64 ((kk : Int) - 1)), some (.pointer (some ⟨gE, kk - 1, none⟩)), some (.int .i64 e), some (.int .i64 (sideP course (metres * legs) la lb e)), some (.agg #[.string key, .int .i64 metres, .int .i64 stroke, .int .i64 course, .int .i64 legs, .int .i64 sex, .int .i64 young, .int .i64 old]), some (.slice (some ⟨bA, oA, none⟩) n c), some (.slice (some ⟨bB, oB, none⟩) m d), some (.slice (some ⟨gE, 0, none⟩) L ec), some (.int .i64 (kk : Int)), some (.pointer (some ⟨gE, kk, none⟩)), some (.int .i64 t), some (.int .i64 (sideP course (metres * legs) la lb t)), some (.int .i64 (sideP course (metres * legs) la lb e)), some (.int .i64 (sideP course (metres * legs) la lb t))] j w' (xs j)) ∧ w'.ownsRow (w.heap.size + 1) 86 2 u11 outs.length (outs.flatMap frE) ∧ w'.ownsRow (w.heap.size + 1) 3 1 (.slice (some ⟨gE, 0, none⟩) L ec) L (ints E) ∧ Below w.heap.size w w' ∧ w'.heap[w.heap.size]? = some (.cells #[.string key, .int .i64 metres, .int .i64 stroke, .int .i64 course, .int .i64 legs, .int .i64 sex, .int .i64 young, .int .i64 old] 27 (0, 0))) ?h0 (AllOps.of ?hs) ?he
            case h0 => exact ⟨fun j => match j with | 0 => u58 | 1 => u59 | 2 => u60 | 3 => u61 | 4 => u62 | 5 => u63 | 6 => u64 | 7 => u65 | 8 => u66 | 9 => u67 | 10 => u68 | 11 => u69 | 12 => u70 | 13 => u71 | 14 => u72 | 15 => u73 | 16 => u74 | 17 => u14 | 18 => u15 | _ => undef, rfl, (fun j hj => by rw [rep_false] at hj; cases hj), hout, hown, below_drewN hB 1, hr⟩
            case hs =>
              refine ⟨?_, ?_, ?_, ?_, ?_, ?_, ?_, ?_, ?_, ?_, ?_, ?_, ?_, ?_, ?_, ?_, ?_, ?_, ?_, trivial⟩
              · intro listed a w' hs hI h0 hd K2 hK
                obtain ⟨xs, rfl, hC, ho0, hn0, hB0, hr0⟩ := hI
                have hK2 := Lib.hid hK
                have hC2 := Lib.hid hC
                have y0 := (blk_facts hr0).1 0
                have y1 := (blk_facts hr0).1 1
                have y2 := (blk_facts hr0).1 2
                have y3 := (blk_facts hr0).1 3
                have y4 := (blk_facts hr0).1 4
                have y5 := (blk_facts hr0).1 5
                have y6 := (blk_facts hr0).1 6
                have y7 := (blk_facts hr0).1 7
                clear hd hK hC h0
                go_simp
                exact hK2.out _ _ ⟨updV xs 0 (.agg #[.string key, .int .i64 metres, .int .i64 stroke, .int .i64 course, .int .i64 legs, .int .i64 sex, .int .i64 young, .int .i64 old]), by simp [updV], cond_set hC2.out (fun _ _ h => h) (CV.of rfl rfl), ho0, hn0, hB0, hr0⟩
              · intro listed a w' hs hI h0 hd K2 hK
                obtain ⟨xs, rfl, hC, ho0, hn0, hB0, hr0⟩ := hI
                have hK2 := Lib.hid hK
                have hC2 := Lib.hid hC
                clear hd hK hC h0
                go_simp
                exact hK2.out _ _ ⟨updV xs 1 (.slice (some ⟨bA, oA, none⟩) n c), by simp [updV], cond_set hC2.out (fun _ _ h => h) (CV.of rfl rfl), ho0, hn0, hB0, hr0⟩
              · intro listed a w' hs hI h0 hd K2 hK
                obtain ⟨xs, rfl, hC, ho0, hn0, hB0, hr0⟩ := hI
                have hK2 := Lib.hid hK
                have hC2 := Lib.hid hC
                clear hd hK hC h0
                go_simp
                exact hK2.out _ _ ⟨updV xs 2 (.slice (some ⟨bB, oB, none⟩) m d), by simp [updV], cond_set hC2.out (fun _ _ h => h) (CV.of rfl rfl), ho0, hn0, hB0, hr0⟩
              · intro listed a w' hs hI h0 hd K2 hK
                obtain ⟨xs, rfl, hC, ho0, hn0, hB0, hr0⟩ := hI
                have hK2 := Lib.hid hK
                have hC2 := Lib.hid hC
                clear hd hK hC h0
                go_simp
                exact hK2.out _ _ ⟨updV xs 3 (.slice (some ⟨gE, 0, none⟩) L ec), by simp [updV], cond_set hC2.out (fun _ _ h => h) (CV.of rfl rfl), ho0, hn0, hB0, hr0⟩
              · intro listed a w' hs hI h0 hd K2 hK
                obtain ⟨xs, rfl, hC, ho0, hn0, hB0, hr0⟩ := hI
                have hK2 := Lib.hid hK
                have hC2 := Lib.hid hC
                clear hd hK hC h0
                go_simp
                exact hK2.out _ _ ⟨updV xs 4 (.int .i64 (kk : Int)), by simp [updV], cond_set hC2.out (fun _ _ h => h) (CV.of rfl rfl), ho0, hn0, hB0, hr0⟩
              · intro listed a w' hs hI h0 hd K2 hK
                obtain ⟨xs, rfl, hC, ho0, hn0, hB0, hr0⟩ := hI
                have e4 : xs 4 = .int .i64 (kk : Int) := (hC 4 (hd ⟨4, .data⟩ (by simp) rfl)) _ rfl
                have hK2 := Lib.hid hK
                have hC2 := Lib.hid hC
                clear hd hK hC h0
                go_simp
                exact hK2.out _ _ ⟨updV xs 5 (.int .i64 ((kk : Int) - 1)), by simp [updV, e4], cond_set hC2.out (fun _ _ h => h) (CV.of rfl rfl), ho0, hn0, hB0, hr0⟩
              · intro listed a w' hs hI h0 hd K2 hK
                obtain ⟨xs, rfl, hC, ho0, hn0, hB0, hr0⟩ := hI
                have e3 : xs 3 = .slice (some ⟨gE, 0, none⟩) L ec := (hC 3 (hd ⟨3, .data⟩ (by simp) rfl)) _ rfl
                have e5 : xs 5 = .int .i64 ((kk : Int) - 1) := (hC 5 (hd ⟨5, .data⟩ (by simp) rfl)) _ rfl
                have hK2 := Lib.hid hK
                have hC2 := Lib.hid hC
                clear hd hK hC h0
                go_simp
                exact hK2.out _ _ ⟨updV xs 6 (.pointer (some ⟨gE, kk - 1, none⟩)), by simp [updV, e3, e5], cond_set hC2.out (fun _ _ h => h) (CV.of rfl rfl), ho0, hn0, hB0, hr0⟩
              · intro listed a w' hs hI h0 hd K2 hK
                obtain ⟨xs, rfl, hC, ho0, hn0, hB0, hr0⟩ := hI
                have e6 : xs 6 = .pointer (some ⟨gE, kk - 1, none⟩) := (hC 6 (hd ⟨6, .data⟩ (by simp) rfl)) _ rfl
                have hK2 := Lib.hid hK
                have hC2 := Lib.hid hC
                have y0 := (hcE.out _ hn0).1
                clear hd hK hC h0
                go_simp
                exact hK2.out _ _ ⟨updV xs 7 (.int .i64 e), by simp [updV, e6], cond_set hC2.out (fun _ _ h => h) (CV.of rfl rfl), ho0, hn0, hB0, hr0⟩
              · intro listed a w' hs hI h0 hd K2 hK
                obtain ⟨xs, rfl, hC, ho0, hn0, hB0, hr0⟩ := hI
                have e0 : xs 0 = .agg #[.string key, .int .i64 metres, .int .i64 stroke, .int .i64 course, .int .i64 legs, .int .i64 sex, .int .i64 young, .int .i64 old] := (hC 0 (hd ⟨0, .data⟩ (by simp) rfl)) _ rfl
                have e1 : xs 1 = .slice (some ⟨bA, oA, none⟩) n c := (hC 1 (hd ⟨1, .data⟩ (by simp) rfl)) _ rfl
                have e2 : xs 2 = .slice (some ⟨bB, oB, none⟩) m d := (hC 2 (hd ⟨2, .data⟩ (by simp) rfl)) _ rfl
                have e7 : xs 7 = .int .i64 e := (hC 7 (hd ⟨7, .data⟩ (by simp) rfl)) _ rfl
                have hK2 := Lib.hid hK
                have hC2 := Lib.hid hC
                clear hd hK hC h0
                go_simp
                refine (hAh'.out e _ hB0 (by omega) (by omega)).mono ?_; rintro e9 w14 ⟨rfl, B14⟩
                exact hK2.out _ _ ⟨updV xs 8 (.int .i64 (sideP course (metres * legs) la lb e)), by simp [updV, e0, e1, e2, e7], cond_set hC2.out (fun _ _ h => h) (CV.of rfl rfl), own_below ho0 B14, own_below hn0 B14, below_next hB0 B14, blk_below hr0 B14⟩
              · intro listed a w' hs hI h0 hd K2 hK
                obtain ⟨xs, rfl, hC, ho0, hn0, hB0, hr0⟩ := hI
                have hK2 := Lib.hid hK
                have hC2 := Lib.hid hC
                have y0 := (blk_facts hr0).1 0
                have y1 := (blk_facts hr0).1 1
                have y2 := (blk_facts hr0).1 2
                have y3 := (blk_facts hr0).1 3
                have y4 := (blk_facts hr0).1 4
                have y5 := (blk_facts hr0).1 5
                have y6 := (blk_facts hr0).1 6
                have y7 := (blk_facts hr0).1 7
                clear hd hK hC h0
                go_simp
                exact hK2.out _ _ ⟨updV xs 9 (.agg #[.string key, .int .i64 metres, .int .i64 stroke, .int .i64 course, .int .i64 legs, .int .i64 sex, .int .i64 young, .int .i64 old]), by simp [updV], cond_set hC2.out (fun _ _ h => h) (CV.of rfl rfl), ho0, hn0, hB0, hr0⟩
              · intro listed a w' hs hI h0 hd K2 hK
                obtain ⟨xs, rfl, hC, ho0, hn0, hB0, hr0⟩ := hI
                have hK2 := Lib.hid hK
                have hC2 := Lib.hid hC
                clear hd hK hC h0
                go_simp
                exact hK2.out _ _ ⟨updV xs 10 (.slice (some ⟨bA, oA, none⟩) n c), by simp [updV], cond_set hC2.out (fun _ _ h => h) (CV.of rfl rfl), ho0, hn0, hB0, hr0⟩
              · intro listed a w' hs hI h0 hd K2 hK
                obtain ⟨xs, rfl, hC, ho0, hn0, hB0, hr0⟩ := hI
                have hK2 := Lib.hid hK
                have hC2 := Lib.hid hC
                clear hd hK hC h0
                go_simp
                exact hK2.out _ _ ⟨updV xs 11 (.slice (some ⟨bB, oB, none⟩) m d), by simp [updV], cond_set hC2.out (fun _ _ h => h) (CV.of rfl rfl), ho0, hn0, hB0, hr0⟩
              · intro listed a w' hs hI h0 hd K2 hK
                obtain ⟨xs, rfl, hC, ho0, hn0, hB0, hr0⟩ := hI
                have hK2 := Lib.hid hK
                have hC2 := Lib.hid hC
                clear hd hK hC h0
                go_simp
                exact hK2.out _ _ ⟨updV xs 12 (.slice (some ⟨gE, 0, none⟩) L ec), by simp [updV], cond_set hC2.out (fun _ _ h => h) (CV.of rfl rfl), ho0, hn0, hB0, hr0⟩
              · intro listed a w' hs hI h0 hd K2 hK
                obtain ⟨xs, rfl, hC, ho0, hn0, hB0, hr0⟩ := hI
                have hK2 := Lib.hid hK
                have hC2 := Lib.hid hC
                clear hd hK hC h0
                go_simp
                exact hK2.out _ _ ⟨updV xs 13 (.int .i64 (kk : Int)), by simp [updV], cond_set hC2.out (fun _ _ h => h) (CV.of rfl rfl), ho0, hn0, hB0, hr0⟩
              · intro listed a w' hs hI h0 hd K2 hK
                obtain ⟨xs, rfl, hC, ho0, hn0, hB0, hr0⟩ := hI
                have e12 : xs 12 = .slice (some ⟨gE, 0, none⟩) L ec := (hC 12 (hd ⟨12, .data⟩ (by simp) rfl)) _ rfl
                have e13 : xs 13 = .int .i64 (kk : Int) := (hC 13 (hd ⟨13, .data⟩ (by simp) rfl)) _ rfl
                have hK2 := Lib.hid hK
                have hC2 := Lib.hid hC
                clear hd hK hC h0
                go_simp
                exact hK2.out _ _ ⟨updV xs 14 (.pointer (some ⟨gE, kk, none⟩)), by simp [updV, e12, e13], cond_set hC2.out (fun _ _ h => h) (CV.of rfl rfl), ho0, hn0, hB0, hr0⟩
              · intro listed a w' hs hI h0 hd K2 hK
                obtain ⟨xs, rfl, hC, ho0, hn0, hB0, hr0⟩ := hI
                have e14 : xs 14 = .pointer (some ⟨gE, kk, none⟩) := (hC 14 (hd ⟨14, .data⟩ (by simp) rfl)) _ rfl
                have hK2 := Lib.hid hK
                have hC2 := Lib.hid hC
                have y0 := (hcE.out _ hn0).2
                clear hd hK hC h0
                go_simp
                exact hK2.out _ _ ⟨updV xs 15 (.int .i64 t), by simp [updV, e14], cond_set hC2.out (fun _ _ h => h) (CV.of rfl rfl), ho0, hn0, hB0, hr0⟩
              · intro listed a w' hs hI h0 hd K2 hK
                obtain ⟨xs, rfl, hC, ho0, hn0, hB0, hr0⟩ := hI
                have e9 : xs 9 = .agg #[.string key, .int .i64 metres, .int .i64 stroke, .int .i64 course, .int .i64 legs, .int .i64 sex, .int .i64 young, .int .i64 old] := (hC 9 (hd ⟨9, .data⟩ (by simp) rfl)) _ rfl
                have e10 : xs 10 = .slice (some ⟨bA, oA, none⟩) n c := (hC 10 (hd ⟨10, .data⟩ (by simp) rfl)) _ rfl
                have e11 : xs 11 = .slice (some ⟨bB, oB, none⟩) m d := (hC 11 (hd ⟨11, .data⟩ (by simp) rfl)) _ rfl
                have e15 : xs 15 = .int .i64 t := (hC 15 (hd ⟨15, .data⟩ (by simp) rfl)) _ rfl
                have hK2 := Lib.hid hK
                have hC2 := Lib.hid hC
                clear hd hK hC h0
                go_simp
                refine (hAh'.out t _ hB0 (by omega) (by omega)).mono ?_; rintro e9 w14 ⟨rfl, B14⟩
                exact hK2.out _ _ ⟨updV xs 16 (.int .i64 (sideP course (metres * legs) la lb t)), by simp [updV, e9, e10, e11, e15], cond_set hC2.out (fun _ _ h => h) (CV.of rfl rfl), own_below ho0 B14, own_below hn0 B14, below_next hB0 B14, blk_below hr0 B14⟩
              · intro listed a w' hs hI h0 hd K2 hK
                obtain ⟨xs, rfl, hC, ho0, hn0, hB0, hr0⟩ := hI
                have e8 : xs 8 = .int .i64 (sideP course (metres * legs) la lb e) := (hC 8 (hd ⟨8, .data⟩ (by simp) rfl)) _ rfl
                have hK2 := Lib.hid hK
                have hC2 := Lib.hid hC
                clear hd hK hC h0
                go_simp
                exact hK2.out _ _ ⟨updV xs 17 (.int .i64 (sideP course (metres * legs) la lb e)), by simp [updV, e8], cond_set hC2.out (fun _ _ h => h) (CV.of rfl rfl), ho0, hn0, hB0, hr0⟩
              · intro listed a w' hs hI h0 hd K2 hK
                obtain ⟨xs, rfl, hC, ho0, hn0, hB0, hr0⟩ := hI
                have e16 : xs 16 = .int .i64 (sideP course (metres * legs) la lb t) := (hC 16 (hd ⟨16, .data⟩ (by simp) rfl)) _ rfl
                have hK2 := Lib.hid hK
                have hC2 := Lib.hid hC
                clear hd hK hC h0
                go_simp
                exact hK2.out _ _ ⟨updV xs 18 (.int .i64 (sideP course (metres * legs) la lb t)), by simp [updV, e16], cond_set hC2.out (fun _ _ h => h) (CV.of rfl rfl), ho0, hn0, hB0, hr0⟩
            case he =>
              intro listed a w' hs hI hr
              obtain ⟨xs, rfl, hC, ho0, hn0, hB0, hr0⟩ := hI
              have eM : xs 17 = .int .i64 (sideP course (metres * legs) la lb e) := (hC 17 (all_listed hs hr ⟨rfl, rfl, rfl, rfl, rfl, rfl, rfl, rfl, rfl, rfl, rfl, rfl, rfl, rfl, rfl, rfl, rfl, rfl, rfl, trivial⟩ 17 (by simp))) _ rfl
              have eL : xs 18 = .int .i64 (sideP course (metres * legs) la lb t) := (hC 18 (all_listed hs hr ⟨rfl, rfl, rfl, rfl, rfl, rfl, rfl, rfl, rfl, rfl, rfl, rfl, rfl, rfl, rfl, rfl, rfl, rfl, rfl, trivial⟩ 18 (by simp))) _ rfl
              clear hC hs hr
              have eK : xs 17 = .int .i64 (sideP course (metres * legs) la lb e) := eM
              go_wp2
              go_meet
              case rel => exact ⟨by first | exact eK | rfl, by first | exact eL | rfl, ho0, hn0, hB0, hr0⟩
            --R16 end
          case rest =>
            clear hout hown hB hr
            rename World => wx
            obtain ⟨rfl, rfl, hout, hown, hB, hr⟩ := hcut
            have hsU := side3 course (metres * legs) la lb e
            have hsV := side3 course (metres * legs) la lb t
            obtain ⟨ce, _⟩ := hcE.out _ hown
            generalize sideP course (metres * legs) la lb e = sU at *
            generalize sideP course (metres * legs) la lb t = sV at *
            generalize hPG : passGo (sideP course (metres * legs) la lb) (meetF la lb) t = PG at *
            have hPG' := Lib.hid hPG
            clear hPG
            generalize passGo (sideP course (metres * legs) la lb) (meetF la lb) e o (E.drop kk) = PO at *
            generalize hPLL : passL course (metres * legs) la lb fin = PLL at *
            have hPLL' := Lib.hid hPLL
            clear hPLL
            have hz9 := hB.size
            have hlr := lt_of_heap hr
            clear hcE hRE hAh' hAh
            rcases hsV with rfl | rfl | rfl
            · rcases hsU with rfl | rfl | rfl
              · have hN := Lib.hid (show outs ++ PG (-1) (E.drop (kk + 1)) = PLL by rw [← hG.out, hGt.out]; simp)
                clear hG hGt
                go_wp2
                go_roundw
                case rel => exact ⟨kk + 1, (-1), outs, by omega, by omega, by go_num, rfl, by omega, by first | omega | (simp; omega), hout, hown, hB, hr, Lib.hid (by rw [show kk + 1 - 1 = kk by omega, List.getD_eq_getElem?_getD, htE]; show _ ++ passGo _ _ t _ _ = _; rw [hPG'.out, hPLL'.out]; exact hN.out)⟩
                case measure => simp [intOf]; omega
              · rcases ho3 with rfl | rfl | rfl
                · have hN := Lib.hid (show outs ++ PG (-1) (E.drop (kk + 1)) = PLL by rw [← hG.out, hGt.out]; simp)
                  clear hG hGt
                  go_wp2
                  go_roundw
                  case rel => exact ⟨kk + 1, (-1), outs, by omega, by omega, by go_num, rfl, by omega, by first | omega | (simp; omega), hout, hown, hB, hr, Lib.hid (by rw [show kk + 1 - 1 = kk by omega, List.getD_eq_getElem?_getD, htE]; show _ ++ passGo _ _ t _ _ = _; rw [hPG'.out, hPLL'.out]; exact hN.out)⟩
                  case measure => simp [intOf]; omega
                · have hN := Lib.hid (show outs ++ PG (-1) (E.drop (kk + 1)) = PLL by rw [← hG.out, hGt.out]; simp)
                  clear hG hGt
                  go_wp2
                  go_roundw
                  case rel => exact ⟨kk + 1, (-1), outs, by omega, by omega, by go_num, rfl, by omega, by first | omega | (simp; omega), hout, hown, hB, hr, Lib.hid (by rw [show kk + 1 - 1 = kk by omega, List.getD_eq_getElem?_getD, htE]; show _ ++ passGo _ _ t _ _ = _; rw [hPG'.out, hPLL'.out]; exact hN.out)⟩
                  case measure => simp [intOf]; omega
                · have hN := Lib.hid (show (outs ++ [(e, 1)]) ++ PG (-1) (E.drop (kk + 1)) = PLL by rw [← hG.out, hGt.out]; simp)
                  clear hG hGt
                  go_wp2_with (at_builtin; refine wpList_app rfl (.tmp 108) (.tmp 115) 77 rfl Tryz.underlying77 info_fr rfl (by omega) (by omega) hout rfl rfl (by first | rfl | (simp; done)) rfl (by simp [Value.oneCell']) (by omega) (by first | omega | (have := hB.size; omega)) ?_; intro v4 w4 hown4 hg4)
                  have hB4 := below_own hB hout hg4 hB.size (by omega)
                  have hn4 := hown.kept hg4 (own_diff hown hout (by decide))
                  have hr4 := blk_grown hr hg4 (fun e => by have := (hout.lt _ e.symm).1; omega)
                  have ho4 : w4.ownsRow (w.heap.size + 1) 86 2 v4 (outs ++ [(e, 1)]).length ((outs ++ [(e, 1)]).flatMap frE) := by rw [← flat_snoc, List.length_append]; exact hown4
                  clear hown4 hg4
                  go_roundw
                  case rel => exact ⟨kk + 1, (-1), outs ++ [(e, 1)], by omega, by omega, by go_num, rfl, by omega, by first | omega | (simp; omega), ho4, hn4, hB4, hr4, Lib.hid (by rw [show kk + 1 - 1 = kk by omega, List.getD_eq_getElem?_getD, htE]; show _ ++ passGo _ _ t _ _ = _; rw [hPG'.out, hPLL'.out]; exact hN.out)⟩
                  case measure => simp [intOf]; omega
              · have hM := hMe.out (by decide) (by decide)
                have hN := Lib.hid (show (outs ++ [meetF la lb e]) ++ PG (-1) (E.drop (kk + 1)) = PLL by rw [← hG.out, hGt.out]; simp)
                clear hG hGt
                go_wp2_with fail
                refine (hM _ hB).mono ?_; rintro e9 w8 ⟨rfl, B8⟩
                have ho8 := own_below hout B8
                have hn8 := own_below hown B8
                have hB8 := below_next hB B8
                have hr8 := blk_below hr B8
                have hlr8 := lt_of_heap hr8
                clear hout hown hB hr B8 hM
                go_wp2_with (at_builtin; refine wpList_app rfl (.tmp 84) (.tmp 93) 77 rfl Tryz.underlying77 info_fr rfl (by omega) (by omega) ho8 rfl rfl (by first | rfl | (simp; done)) rfl (by simp [Value.oneCell']) (by omega) (by first | omega | (have := hB8.size; omega)) ?_; intro v4 w4 hown4 hg4)
                have hB4 := below_own hB8 ho8 hg4 hB8.size (by omega)
                have hn4 := hn8.kept hg4 (own_diff hn8 ho8 (by decide))
                have hr4 := blk_grown hr8 hg4 (fun e => by have := (ho8.lt _ e.symm).1; omega)
                have ho4 : w4.ownsRow (w.heap.size + 1) 86 2 v4 (outs ++ [meetF la lb e]).length ((outs ++ [meetF la lb e]).flatMap frE) := by rw [← flat_snoc, List.length_append]; exact hown4
                clear hown4 hg4
                go_roundw
                case rel => exact ⟨kk + 1, (-1), outs ++ [meetF la lb e], by omega, by omega, by go_num, rfl, by omega, by first | omega | (simp; omega), ho4, hn4, hB4, hr4, Lib.hid (by rw [show kk + 1 - 1 = kk by omega, List.getD_eq_getElem?_getD, htE]; show _ ++ passGo _ _ t _ _ = _; rw [hPG'.out, hPLL'.out]; exact hN.out)⟩
                case measure => simp [intOf]; omega
            · have hN := Lib.hid (show outs ++ PG o (E.drop (kk + 1)) = PLL by rw [← hG.out, hGt.out]; simp)
              clear hG hGt
              go_wp2
              go_roundw
              case rel => exact ⟨kk + 1, o, outs, by omega, by omega, by go_num, rfl, by omega, by first | omega | (simp; omega), hout, hown, hB, hr, Lib.hid (by rw [show kk + 1 - 1 = kk by omega, List.getD_eq_getElem?_getD, htE]; show _ ++ passGo _ _ t _ _ = _; rw [hPG'.out, hPLL'.out]; exact hN.out)⟩
              case measure => simp [intOf]; omega
            · rcases hsU with rfl | rfl | rfl
              · have hM := hMe.out (by decide) (by decide)
                have hN := Lib.hid (show (outs ++ [meetF la lb e]) ++ PG (1) (E.drop (kk + 1)) = PLL by rw [← hG.out, hGt.out]; simp)
                clear hG hGt
                go_wp2_with fail
                refine (hM _ hB).mono ?_; rintro e9 w8 ⟨rfl, B8⟩
                have ho8 := own_below hout B8
                have hn8 := own_below hown B8
                have hB8 := below_next hB B8
                have hr8 := blk_below hr B8
                have hlr8 := lt_of_heap hr8
                clear hout hown hB hr B8 hM
                go_wp2_with (at_builtin; refine wpList_app rfl (.tmp 84) (.tmp 93) 77 rfl Tryz.underlying77 info_fr rfl (by omega) (by omega) ho8 rfl rfl (by first | rfl | (simp; done)) rfl (by simp [Value.oneCell']) (by omega) (by first | omega | (have := hB8.size; omega)) ?_; intro v4 w4 hown4 hg4)
                have hB4 := below_own hB8 ho8 hg4 hB8.size (by omega)
                have hn4 := hn8.kept hg4 (own_diff hn8 ho8 (by decide))
                have hr4 := blk_grown hr8 hg4 (fun e => by have := (ho8.lt _ e.symm).1; omega)
                have ho4 : w4.ownsRow (w.heap.size + 1) 86 2 v4 (outs ++ [meetF la lb e]).length ((outs ++ [meetF la lb e]).flatMap frE) := by rw [← flat_snoc, List.length_append]; exact hown4
                clear hown4 hg4
                go_roundw
                case rel => exact ⟨kk + 1, (1), outs ++ [meetF la lb e], by omega, by omega, by go_num, rfl, by omega, by first | omega | (simp; omega), ho4, hn4, hB4, hr4, Lib.hid (by rw [show kk + 1 - 1 = kk by omega, List.getD_eq_getElem?_getD, htE]; show _ ++ passGo _ _ t _ _ = _; rw [hPG'.out, hPLL'.out]; exact hN.out)⟩
                case measure => simp [intOf]; omega
              · rcases ho3 with rfl | rfl | rfl
                · have hN := Lib.hid (show (outs ++ [(e, 1)]) ++ PG (1) (E.drop (kk + 1)) = PLL by rw [← hG.out, hGt.out]; simp)
                  clear hG hGt
                  go_wp2_with (at_builtin; refine wpList_app rfl (.tmp 108) (.tmp 115) 77 rfl Tryz.underlying77 info_fr rfl (by omega) (by omega) hout rfl rfl (by first | rfl | (simp; done)) rfl (by simp [Value.oneCell']) (by omega) (by first | omega | (have := hB.size; omega)) ?_; intro v4 w4 hown4 hg4)
                  have hB4 := below_own hB hout hg4 hB.size (by omega)
                  have hn4 := hown.kept hg4 (own_diff hown hout (by decide))
                  have hr4 := blk_grown hr hg4 (fun e => by have := (hout.lt _ e.symm).1; omega)
                  have ho4 : w4.ownsRow (w.heap.size + 1) 86 2 v4 (outs ++ [(e, 1)]).length ((outs ++ [(e, 1)]).flatMap frE) := by rw [← flat_snoc, List.length_append]; exact hown4
                  clear hown4 hg4
                  go_roundw
                  case rel => exact ⟨kk + 1, (1), outs ++ [(e, 1)], by omega, by omega, by go_num, rfl, by omega, by first | omega | (simp; omega), ho4, hn4, hB4, hr4, Lib.hid (by rw [show kk + 1 - 1 = kk by omega, List.getD_eq_getElem?_getD, htE]; show _ ++ passGo _ _ t _ _ = _; rw [hPG'.out, hPLL'.out]; exact hN.out)⟩
                  case measure => simp [intOf]; omega
                · have hN := Lib.hid (show outs ++ PG (1) (E.drop (kk + 1)) = PLL by rw [← hG.out, hGt.out]; simp)
                  clear hG hGt
                  go_wp2
                  go_roundw
                  case rel => exact ⟨kk + 1, (1), outs, by omega, by omega, by go_num, rfl, by omega, by first | omega | (simp; omega), hout, hown, hB, hr, Lib.hid (by rw [show kk + 1 - 1 = kk by omega, List.getD_eq_getElem?_getD, htE]; show _ ++ passGo _ _ t _ _ = _; rw [hPG'.out, hPLL'.out]; exact hN.out)⟩
                  case measure => simp [intOf]; omega
                · have hN := Lib.hid (show outs ++ PG (1) (E.drop (kk + 1)) = PLL by rw [← hG.out, hGt.out]; simp)
                  clear hG hGt
                  go_wp2
                  go_roundw
                  case rel => exact ⟨kk + 1, (1), outs, by omega, by omega, by go_num, rfl, by omega, by first | omega | (simp; omega), hout, hown, hB, hr, Lib.hid (by rw [show kk + 1 - 1 = kk by omega, List.getD_eq_getElem?_getD, htE]; show _ ++ passGo _ _ t _ _ = _; rw [hPG'.out, hPLL'.out]; exact hN.out)⟩
                  case measure => simp [intOf]; omega
              · have hN := Lib.hid (show outs ++ PG (1) (E.drop (kk + 1)) = PLL by rw [← hG.out, hGt.out]; simp)
                clear hG hGt
                go_wp2
                go_roundw
                case rel => exact ⟨kk + 1, (1), outs, by omega, by omega, by go_num, rfl, by omega, by first | omega | (simp; omega), hout, hown, hB, hr, Lib.hid (by rw [show kk + 1 - 1 = kk by omega, List.getD_eq_getElem?_getD, htE]; show _ ++ passGo _ _ t _ _ = _; rw [hPG'.out, hPLL'.out]; exact hN.out)⟩
                case measure => simp [intOf]; omega
        · obtain rfl : kk = L := by omega
          have hfin : outs = passL course (metres * legs) la lb fin := by
            have h9 := hG.out
            rw [drop_end (by rw [hLL]; exact Nat.le_refl _)] at h9
            simpa [passGo] using h9
          obtain ⟨OA, oc, rfl⟩ := own_shape hout
          go_wp2
          go_ret
          exact ⟨OA, outs.length, oc, rfl, by rw [← hfin]; exact RN.of_own frE_len hout rfl (by omega), hB⟩
end Go.Proofs.YtlddeeagnlgciaaGreatDoor
