/- judge.Final, tumbref1.FinalOf: verdicts after claims. Printed by wip/genvery.py. -/
import Derived.Test.YtpepdkgkdbnakaaGreatDoorVerX
namespace Go.Proofs.YtpepdkgkdbnakaaGreatDoor
open Go.RowKit Go.Shelf Go.Lib Go.Sort
set_option linter.unusedVariables false

theorem vdF_congr (p q : Int → Bool) : ∀ (n : Nat) (f : Int), (∀ x, f ≤ x → x < f + n → p x = q x) → vdF p n f = vdF q n f
  | 0, _, _ => rfl
  | n + 1, f, h => by
    unfold vdF
    rw [h f (Int.le_refl _) (by omega), vdF_congr p q n (f + 1) (fun x h1 h2 => h x (by omega) (by omega))]
theorem fltV_congr (l : List Rp) (who : ByteArray) (at_ : Int) (g1 g2 : Int → Bool) (h : ∀ f, 1 ≤ f → f ≤ 8 → g1 f = g2 f) : fltV l who at_ g1 = fltV l who at_ g2 := by
  unfold fltV
  apply vdF_congr
  intro x h1 h2
  unfold pV
  rw [h x h1 (by omega)]
/-- the faults that claims take away -/
def but1 (l : List Rp) (who : ByteArray) (at_ : Int) (x : Cm) : List Int :=
  if x.who = who ∧ x.gr = true ∧ x.tm ≤ at_ then (if 0 < (prV l who x.tm).1 ∧ l.any (agB who (prV l who x.tm).1 x.tm at_) = false then [(prV l who x.tm).1] else []) else []
def butL (l : List Rp) (who : ByteArray) (at_ : Int) : List Cm → List Int
  | [] => []
  | x :: r => but1 l who at_ x ++ butL l who at_ r
theorem butL_at {l : List Rp} {who : ByteArray} {at_ : Int} {cl : List Cm} {k : Nat} {x : Cm} (h : cl[k]? = some x) : butL l who at_ (cl.drop k) = but1 l who at_ x ++ butL l who at_ (cl.drop (k + 1)) := by rw [drop_at h]; rfl
theorem but1_len (l : List Rp) (who : ByteArray) (at_ : Int) (x : Cm) : (but1 l who at_ x).length ≤ 1 := by
  unfold but1
  split
  · split <;> simp
  · simp
theorem butL_len (l : List Rp) (who : ByteArray) (at_ : Int) : ∀ cl : List Cm, (butL l who at_ cl).length ≤ cl.length
  | [] => Nat.le_refl _
  | x :: r => by
    have h1 := but1_len l who at_ x
    have h2 := butL_len l who at_ r
    unfold butL
    rw [List.length_append, List.length_cons]
    omega
theorem but1_has (l : List Rp) (who : ByteArray) (at_ : Int) (x : Cm) (f : Int) (hf : 1 ≤ f) : hasB (but1 l who at_ x) f = fiB l who f at_ x := by
  have h0 := fltV_bd l who x.tm nevG
  unfold but1 fiB grB hasB prV tmV
  by_cases e1 : x.who = who
  · rw [e1]
    by_cases e2 : x.gr = true
    · by_cases e3 : x.tm ≤ at_
      · rw [if_pos ⟨rfl, e2, e3⟩]
        simp only [e2, e3, decide_true, Bool.true_and]
        by_cases e4 : fltV l who x.tm nevG = 0
        · have e5 : ¬ (0 : Int) = f := by omega
          simp [e4, e5]
        · rw [if_neg e4]
          by_cases e6 : 1800000 < x.tm - (lastV l who (fltV l who x.tm nevG) x.tm).tm
          · rw [if_pos e6]
            have e7 : ¬ (x.tm - (lastV l who (fltV l who x.tm nevG) x.tm).tm ≤ 1800000) := by omega
            simp [e4, e7]
          · rw [if_neg e6]
            have e7 : x.tm - (lastV l who (fltV l who x.tm nevG) x.tm).tm ≤ 1800000 := by omega
            have e8 : 0 < fltV l who x.tm nevG := by omega
            by_cases e9 : fltV l who x.tm nevG = f
            · subst e9
              by_cases ea : l.any (agB who (fltV l who x.tm nevG) x.tm at_) = true
              · simp [e4, e7, e8, ea]
              · have ea' : l.any (agB who (fltV l who x.tm nevG) x.tm at_) = false := by simpa using ea
                rw [if_pos ⟨e8, ea'⟩, if_neg e4]
                simp [e7, ea']
            · have e9' : ¬ f = fltV l who x.tm nevG := fun h => e9 h.symm
              split
              · simp [e9, e9']
              · simp [e9]
      · rw [if_neg (fun h => e3 h.2.2)]
        simp [e3]
    · rw [if_neg (fun h => e2 h.2.1)]
      simp [e2]
  · rw [if_neg (fun h => e1 h.1)]
    simp [e1]
theorem butL_has (l : List Rp) (who : ByteArray) (at_ : Int) (f : Int) (hf : 1 ≤ f) : ∀ cl : List Cm, hasB (butL l who at_ cl) f = goneV l cl at_ who f
  | [] => rfl
  | x :: r => by
    have h1 := but1_has l who at_ x f hf
    have h2 := butL_has l who at_ f hf r
    show hasB (but1 l who at_ x ++ butL l who at_ r) f = (x :: r).any (fiB l who f at_)
    rw [List.any_cons, ← h1, show r.any (fiB l who f at_) = goneV l r at_ who f from rfl, ← h2]
    unfold hasB
    simp
theorem vds_but (l : List Rp) (cl : List Cm) (at_ : Int) : vdsV l at_ (fun who f => hasB (butL l who at_ cl) f) = vdsV l at_ (fun who => goneV l cl at_ who) := by
  unfold vdsV
  apply List.map_congr_left
  intro who _
  have h := fltV_congr l who at_ (fun f => hasB (butL l who at_ cl) f) (goneV l cl at_ who) (fun f h1 _ => butL_has l who at_ f h1 cl)
  show (who, fltV l who at_ (fun f => hasB (butL l who at_ cl) f), _) = _
  rw [h]
set_option maxHeartbeats 6400000 in
set_option maxRecDepth 100000 in
theorem final_c (A : Option Addr) (n c : Nat) (l : List Rp) (Ac : Option Addr) (nc cc : Nat) (cl : List Cm) (at_ : Int) (w : World) (h : RRp w A n l) (hc : RCm w Ac nc cl) (hn : n ≤ 1000) :
    Calls Tryz.prog 43 #[.slice A n c, .slice Ac nc cc, .int .i64 at_] w (RetVs w (clmE l cl at_) (if clmE l cl at_ = 0 then vdsV l at_ (fun who => goneV l cl at_ who) else [])) := by
  have hB0 := below_next (below_next (below_new w (.cells #[.slice A n c] 55)) (below_new _ (.cells #[.slice Ac nc cc] 58))) (below_new _ (.cells #[.int .i64 at_] 3))
  have hb1 := blk_alloc (blk_alloc (heap_alloc_new w (.cells #[.slice A n c] 55)) (.cells #[.slice Ac nc cc] 58)) (.cells #[.int .i64 at_] 3)
  have hz1 : (w.alloc (.cells #[.slice A n c] 55)).heap.size = w.heap.size + 1 := by simp
  have hz2 : ((w.alloc (.cells #[.slice A n c] 55)).alloc (.cells #[.slice Ac nc cc] 58)).heap.size = w.heap.size + 1 + 1 := by simp
  have hb2 := blk_alloc (hz1 ▸ heap_alloc_new (w.alloc (.cells #[.slice A n c] 55)) (.cells #[.slice Ac nc cc] 58)) (.cells #[.int .i64 at_] 3)
  have hb3 := hz2 ▸ heap_alloc_new ((w.alloc (.cells #[.slice A n c] 55)).alloc (.cells #[.slice Ac nc cc] 58)) (.cells #[.int .i64 at_] 3)
  have x1 := (blk_facts hb1).1 0
  have x2 := (blk_facts hb2).1 0
  have x3 := (blk_facts hb3).1 0
  have hst := Lib.hid (fun k who h => vds_take (l := l) (at_ := at_) (gone := fun who => goneV l cl at_ who) (k := k) (who := who) h)
  have hD := Lib.hid (show vdsV l at_ (fun who => goneV l cl at_ who) = (toldV l at_).map fun who => (who, fltV l who at_ (goneV l cl at_ who), idsV l who at_ (fltV l who at_ (goneV l cl at_ who))) from rfl)
  have hTl := toldV_len l at_
  rw [h.len] at hTl
  have hCk := Lib.hid (checkClaimed_c A n c l Ac nc cc cl at_ _ (h.below hB0) (hc.below hB0))
  rw [show (if rpErr l ≠ 0 then rpErr l else if clmErr cl ≠ 0 then clmErr cl else if momB at_ = true then 0 else 1) = clmE l cl at_ from rfl] at hCk
  have hT := Lib.hid (fun W (B : Below w.heap.size w W) => told_c A n c l at_ W (h.below B) (by omega))
  have hRR := Lib.hid (fun W (B : Below w.heap.size w W) => h.below B)
  have hCC := Lib.hid (fun W (B : Below w.heap.size w W) => hc.below B)
  have hok := Lib.hid (fun (h0 : clmE l cl at_ = 0) => show (∀ x ∈ l, 0 ≤ x.tm ∧ x.tm ≤ 345686399999) ∧ (∀ x ∈ cl, 0 ≤ x.tm ∧ x.tm ≤ 345686399999) from ⟨rp_tm (clmE_ok h0).1, (clm_ok (clmE_ok h0).2.1).2⟩)
  obtain ⟨DV, hDV⟩ : ∃ DV, (if clmE l cl at_ = 0 then vdsV l at_ (fun who => goneV l cl at_ who) else []) = DV := ⟨_, rfl⟩
  rw [hDV]
  have hDV' := Lib.hid hDV
  clear hDV
  generalize clmE l cl at_ = E at *
  generalize toldV l at_ = TV at *
  clear h hc hz1 hz2
  go_enter Tryz.func43, Tryz.ntmps43
  go_wp2_with fail
  refine hCk.out.mono ?_; rintro e w1 ⟨rfl, B1⟩
  have hB1 := below_next hB0 B1
  replace hb1 := blk_below hb1 B1
  replace hb2 := blk_below hb2 B1
  replace hb3 := blk_below hb3 B1
  clear hCk B1 hB0 x1 x2 x3
  by_cases h0 : E = 0
  rotate_left
  · have hd : (E != 0) = true := by simpa using h0
    have h0' := Lib.hid h0
    clear h0
    go_wp2
    go_ret2
    exact (show RetVs w E DV _ _ by rw [← hDV'.out, if_neg h0'.out]; exact ⟨none, 0, 0, [], rfl, ⟨RN.nil_ _ _ _ _ _, fun x h => by cases h⟩, rfl, hB1⟩)
  subst h0
  obtain ⟨ht, hcx⟩ := hok.out (by first | rfl | trivial)
  have x1 := (blk_facts hb1).1 0
  have x3 := (blk_facts hb3).1 0
  have hV := Lib.hid (fun who p2 W (B : Below w.heap.size w W) (q1 : W.heap[w.heap.size + 1]? = some (.cells #[.slice Ac nc cc] 58 (0, 0))) (q2 : W.heap[p2]? = some (.cells #[.string who] 9 (0, 0))) (q3 : W.heap[w.heap.size]? = some (.cells #[.slice A n c] 55 (0, 0))) (q4 : W.heap[w.heap.size + 1 + 1]? = some (.cells #[.int .i64 at_] 3 (0, 0))) => verdictF_c A n c l who at_ (goneV l cl at_ who) (w.heap.size + 1) p2 w.heap.size (w.heap.size + 1 + 1) W (hRR.out W B) (by omega) (fun j W2 _ B2 => fin1_c (w.heap.size + 1) p2 w.heap.size (w.heap.size + 1 + 1) A n c l Ac nc cc cl who (1 + (j : Int)) at_ W2 ((hRR.out W B).below B2) ((hCC.out W B).below B2) hn ht hcx (blk_below q1 B2) (blk_below q2 B2) (blk_below q3 B2) (blk_below q4 B2)))
  clear hok ht hcx
  go_wp2_with fail
  refine (hT.out _ hB1).mono ?_; rintro e w2 ⟨A2, c2, rfl, r2, B2⟩
  have hB2 := below_next hB1 B2
  have hR2 := Lib.hid (fun W (B : Below w2.heap.size w2 W) => r2.below B)
  have hk1 := Lib.hid (fun W (B : Below w2.heap.size w2 W) => blk_below (blk_below hb1 B2) B)
  have hk2 := Lib.hid (fun W (B : Below w2.heap.size w2 W) => blk_below (blk_below hb2 B2) B)
  have hk3 := Lib.hid (fun W (B : Below w2.heap.size w2 W) => blk_below (blk_below hb3 B2) B)
  have hB2' := Lib.hid (fun W (B : Below w2.heap.size w2 W) => below_next hB2 B)
  have hl3 := lt_of_heap (blk_below hb3 B2)
  have hTd := Lib.hid (show TV.map (fun who => (who, fltV l who at_ (goneV l cl at_ who), idsV l who at_ (fltV l who at_ (goneV l cl at_ who)))) = vdsV l at_ (fun who => goneV l cl at_ who) from hD.out.symm)
  have K0 : VsK w2 (.slice none 0 0) [] w2 := VsK.start (Below.refl _ _)
  generalize hm : TV.length = m at *
  have hm' := Lib.hid hm
  clear hm hT B2 hD r2 hb1 hb2 hb3 hB1 x1 x3
  go_wp2_with fail
  go_loopw [9, 25] (fun u i wr => ∃ (k : Nat) (L : List Vx), k ≤ m ∧ i = .int .i64 k ∧ L.length ≤ k ∧ VsK w2 u L wr ∧ Hid (L.map Vx.abs = (TV.take k).map (fun who => (who, fltV l who at_ (goneV l cl at_ who), idsV l who at_ (fltV l who at_ (goneV l cl at_ who)))))) (fun _ i _ => m - (intOf i).toNat)
  case atStart => exact ⟨0, [], Nat.zero_le _, rfl, Nat.le_refl _, K0, Lib.hid rfl⟩
  case round =>
    clear K0
    rename World => wr
    obtain ⟨k, L, hk, rfl, hL, K, hF⟩ := hrel
    by_cases hlt : k < m
    · obtain ⟨b, off, who, rfl, hbl, hx, cx⟩ := (hR2.out _ K.bel).at_ hlt
      have hF2 := Lib.hid (show (L.map Vx.abs ++ [(who, fltV l who at_ (goneV l cl at_ who), idsV l who at_ (fltV l who at_ (goneV l cl at_ who)))]) = (TV.take (k + 1)).map (fun who => (who, fltV l who at_ (goneV l cl at_ who), idsV l who at_ (fltV l who at_ (goneV l cl at_ who)))) by rw [hst.out k who hx, hF.out])
      have hn4 := heap_alloc_new wr (.cells #[.string who] 9)
      have hBn := below_new wr (.cells #[.string who] 9)
      have K4 := K.below hBn
      have q1 := hk1.out _ K4.bel
      have q2 := hk2.out _ K4.bel
      have q3 := hk3.out _ K4.bel
      have y1 := (blk_facts q1).1 0
      have y3 := (blk_facts q3).1 0
      have y4 := (blk_facts hn4).1 0
      have hws := K.bel.size
      have hV1 := Lib.hid (hV.out who wr.heap.size _ (hB2'.out _ K4.bel) q2 hn4 q1 q3)
      clear hx hF K hn4 hBn q1 q2 q3
      generalize tmV l who at_ (fltV l who at_ (goneV l cl at_ who)) = tv at *
      generalize idsV l who at_ (fltV l who at_ (goneV l cl at_ who)) = iv at *
      generalize fltV l who at_ (goneV l cl at_ who) = fv at *
      go_wp2_with fail
      refine hV1.out.mono ?_; rintro e w5 ⟨A5, c5, rfl, r5, hcp, B5⟩
      have K5 := K4.below B5
      have hn6 := heap_alloc_new w5 (.cells #[.string who, .int .i64 fv, .slice A5 iv.length c5] 69)
      have hBn := below_new w5 (.cells #[.string who, .int .i64 fv, .slice A5 iv.length c5] 69)
      have K6 := K5.below hBn
      have r6 := r5.below hBn
      have hz6 := K6.bel.size
      have z0 := (blk_facts hn6).1 0
      have z1 := (blk_facts hn6).1 1
      have z2 := (blk_facts hn6).1 2
      clear K4 K5 B5 hBn r5 hcp hV1 hn6 cx y1 y3 y4
      go_wp2_with (at_builtin; refine wpList_app rfl (.tmp 37) (.tmp 39) 63 rfl Tryz.underlying63 info_verdict rfl (by omega) (by omega) K6.o rfl rfl (by first | rfl | (simp; done)) rfl (by simp [Value.oneCell']) (by omega) hz6 ?_; intro v7 w7 hown7 hg7)
      have K7 := K6.app (x := ⟨who, fv, A5, c5, iv⟩) r6 hown7 hg7
      clear hown7 hg7 K6 r6
      go_roundw
      case rel => exact ⟨k + 1, _, by omega, by go_num, by rw [List.length_append]; simp; omega, K7, Lib.hid (by rw [List.map_append]; exact hF2.out)⟩
      case measure => simp [intOf]; omega
    · obtain rfl : k = m := by omega
      have hD9 : L.map Vx.abs = vdsV l at_ (fun who => goneV l cl at_ who) := by rw [hF.out, List.take_of_length_le (by rw [hm'.out]; exact Nat.le_refl _), hTd.out]
      have hD9' := Lib.hid hD9
      obtain ⟨A9, c9, rfl⟩ := own_shape K.o
      have hfin := K.fin2 (by omega)
      have hbel := hB2'.out _ K.bel
      clear hF hD9 K
      go_wp2
      go_ret2
      exact (show RetVs w 0 DV _ _ by rw [← hDV'.out, if_pos (by first | rfl | trivial)]; exact ⟨A9, L.length, c9, L, rfl, hfin, hD9'.out, hbel⟩)
set_option maxHeartbeats 6400000 in
set_option maxRecDepth 100000 in
theorem finalOf_c' (A : Option Addr) (n c : Nat) (l : List Rp) (Ac : Option Addr) (nc cc : Nat) (cl : List Cm) (at_ : Int) (w : World) (h : RRp w A n l) (hc : RCm w Ac nc cl) (hn : n ≤ 1000) (hnc : nc ≤ 1000) (hw : ∀ x ∈ l, 1 ≤ x.wt) (ht : ∀ x ∈ l, 0 ≤ x.tm ∧ x.tm ≤ 345686399999) (hcx : ∀ x ∈ cl, 0 ≤ x.tm ∧ x.tm ≤ 345686399999) :
    Calls Tryz.prog 46 #[.slice A n c, .slice Ac nc cc, .int .i64 at_] w (RetV1 w (vdsV l at_ (fun who f => hasB (butL l who at_ cl) f))) := by
  have hBa := below_new w (.cells #[.int .i64 at_] 3)
  have hba := heap_alloc_new w (.cells #[.int .i64 at_] 3)
  have ya := (blk_facts hba).1 0
  have hst := Lib.hid (fun k who h => vds_take (l := l) (at_ := at_) (gone := fun who f => hasB (butL l who at_ cl) f) (k := k) (who := who) h)
  have hD := Lib.hid (show vdsV l at_ (fun who f => hasB (butL l who at_ cl) f) = (toldV l at_).map fun who => (who, fltV l who at_ (fun f => hasB (butL l who at_ cl) f), idsV l who at_ (fltV l who at_ (fun f => hasB (butL l who at_ cl) f))) from rfl)
  have hTl := toldV_len l at_
  rw [h.len] at hTl
  have hT := Lib.hid (fun W (B : Below w.heap.size w W) => toldR_c A n c l at_ W (h.below B) (by omega))
  have hRR := Lib.hid (fun W (B : Below w.heap.size w W) => h.below B)
  have hCC := Lib.hid (fun W (B : Below w.heap.size w W) => hc.below B)
  have hP := Lib.hid (fun who (x : Cm) (hx : x ∈ cl) W (B : Below w.heap.size w W) => protested_c A n c l who x.tm W (h.below B) hn hw ht (hcx x hx))
  have hV := Lib.hid (fun who Ab nb cb but W (B : Below w.heap.size w W) (hb : RI 3 W Ab nb but) => verdictOf_c A n c l who at_ Ab nb cb but W (h.below B) hn hw hb)
  have hcl := Lib.hid hc.len
  have hBl := Lib.hid (fun who => show (butL l who at_ cl).length ≤ nc by rw [← hc.len]; exact butL_len _ _ _ _)
  generalize toldV l at_ = TV at *
  clear h hc hw ht hcx
  go_enter Tryz.func46, Tryz.ntmps46
  go_wp2_with fail
  refine (hT.out _ hBa).mono ?_; rintro e w2 ⟨A2, c2, rfl, r2, B2⟩
  have hB2 := below_next hBa B2
  have hb2 := blk_below hba B2
  have hR2 := Lib.hid (fun W (B : Below w2.heap.size w2 W) => r2.below B)
  have hk3 := Lib.hid (fun W (B : Below w2.heap.size w2 W) => blk_below hb2 B)
  have hB2' := Lib.hid (fun W (B : Below w2.heap.size w2 W) => below_next hB2 B)
  have hl3 := lt_of_heap hb2
  have hTd := Lib.hid (show TV.map (fun who => (who, fltV l who at_ (fun f => hasB (butL l who at_ cl) f), idsV l who at_ (fltV l who at_ (fun f => hasB (butL l who at_ cl) f)))) = vdsV l at_ (fun who f => hasB (butL l who at_ cl) f) from hD.out.symm)
  have K0 : VsK w2 (.slice none 0 0) [] w2 := VsK.start (Below.refl _ _)
  generalize hm : TV.length = m at *
  have hm' := Lib.hid hm
  clear hm hT B2 hD r2 hba hBa hb2 ya
  go_wp2_with fail
  go_loopw [7, 20] (fun u i wr => ∃ (k : Nat) (L : List Vx), k ≤ m ∧ i = .int .i64 k ∧ L.length ≤ k ∧ VsK w2 u L wr ∧ Hid (L.map Vx.abs = (TV.take k).map (fun who => (who, fltV l who at_ (fun f => hasB (butL l who at_ cl) f), idsV l who at_ (fltV l who at_ (fun f => hasB (butL l who at_ cl) f)))))) (fun _ i _ => m - (intOf i).toNat)
  case atStart => exact ⟨0, [], Nat.zero_le _, rfl, Nat.le_refl _, K0, Lib.hid rfl⟩
  case round =>
    clear K0
    rename World => wr
    obtain ⟨k, L, hk, rfl, hL, K, hF⟩ := hrel
    by_cases hlt : k < m
    · obtain ⟨b, off, who, rfl, hbl, hx, cx⟩ := (hR2.out _ K.bel).at_ hlt
      have hF2 := Lib.hid (show (L.map Vx.abs ++ [(who, fltV l who at_ (fun f => hasB (butL l who at_ cl) f), idsV l who at_ (fltV l who at_ (fun f => hasB (butL l who at_ cl) f)))]) = (TV.take (k + 1)).map (fun who => (who, fltV l who at_ (fun f => hasB (butL l who at_ cl) f), idsV l who at_ (fltV l who at_ (fun f => hasB (butL l who at_ cl) f)))) by rw [hst.out k who hx, hF.out])
      have hn4 := heap_alloc_new wr (.cells #[.string who] 9)
      have hBn := below_new wr (.cells #[.string who] 9)
      have K4 := K.below hBn
      have hws := K.bel.size
      have hz4 : (wr.alloc (.cells #[.string who] 9)).heap.size = wr.heap.size + 1 := by simp
      have hP1 := Lib.hid (fun x hx W B => hP.out who x hx W B)
      have hV1 := Lib.hid (fun Ab nb cb but W B hb => hV.out who Ab nb cb but W B hb)
      have hBl1 := hBl.out who
      have hbat := Lib.hid (fun q x (h : cl[q]? = some x) => butL_at (l := l) (who := who) (at_ := at_) h)
      have hb1d := Lib.hid (fun x => show but1 l who at_ x = if x.who = who ∧ x.gr = true ∧ x.tm ≤ at_ then (if 0 < (prV l who x.tm).1 ∧ l.any (agB who (prV l who x.tm).1 x.tm at_) = false then [(prV l who x.tm).1] else []) else [] from rfl)
      have hbnil := Lib.hid (show butL l who at_ [] = [] from rfl)
      obtain ⟨BL, hBL⟩ : ∃ BL, butL l who at_ cl = BL := ⟨_, rfl⟩
      rw [hBL] at hF2 hBl1
      have hBL' := Lib.hid hBL
      clear hx hF K hBn hBL
      go_wp2_with fail
      go_loopw [10, 26] (fun u2 i wx => ∃ (q : Nat) (P : List Int), q ≤ nc ∧ i = .int .i64 q ∧ P.length ≤ q ∧ wx.ownsRow (wr.heap.size + 1) 3 1 u2 P.length (ints P) ∧ Below (wr.alloc (.cells #[.string who] 9)).heap.size (wr.alloc (.cells #[.string who] 9)) wx ∧ Hid (BL = P ++ butL l who at_ (cl.drop q))) (fun _ i _ => nc - (intOf i).toNat)
      case atStart => exact ⟨0, [], Nat.zero_le _, rfl, Nat.le_refl _, World.ownsRow_nil _ _ _ _, Below.refl _ _, Lib.hid (by rw [← hBL'.out]; rfl)⟩
      case round =>
        rename World => wx
        obtain ⟨q, P, hq, rfl, hPq, o5, B5, hF5⟩ := hrel
        have K5 := K4.below B5
        by_cases hlt2 : q < nc
        · obtain ⟨b3, off3, x, rfl, hbl3, hx3, d0, d1, d2⟩ := RCm_at3 (hCC.out _ (hB2'.out _ K5.bel)) hlt2
          have hSq := Lib.hid (hF5.out.trans (by rw [hbat.out q x hx3, ← List.append_assoc]))
          have hPx := Lib.hid (fun W B => hP1.out x (List.mem_of_getElem? hx3) W B)
          have hbx := Lib.hid (hb1d.out x)
          clear hx3 hF5
          obtain ⟨xw, xt, xg⟩ := x
          dsimp only at *
          have hn6 := heap_alloc_new wx (.cells #[.string xw, .int .i64 xt, .bool xg] 79)
          have hB6 := below_new wx (.cells #[.string xw, .int .i64 xt, .bool xg] 79)
          have B6 := below_next B5 hB6
          have o6 := own_below o5 hB6
          have K6 := K5.below hB6
          have n6 := blk_below hn4 B6
          have t6 := hk3.out _ K6.bel
          have hz6 : (wx.alloc (.cells #[.string xw, .int .i64 xt, .bool xg] 79)).heap.size = wx.heap.size + 1 := by simp
          have hwx := B5.size
          rw [hz4] at hwx
          have e0 := (blk_facts hn6).1 0
          have e1 := (blk_facts hn6).1 1
          have e2 := (blk_facts hn6).1 2
          have e3 := (blk_facts n6).1 0
          have e4 := (blk_facts t6).1 0
          generalize but1 l who at_ ⟨xw, xt, xg⟩ = b1 at *
          have hskip : ∀ (hb : b1 = []), Hid (BL = P ++ butL l who at_ (cl.drop (q + 1))) := fun hb => Lib.hid (by rw [hSq.out, hb, List.append_nil])
          have hskip' := Lib.hid hskip
          clear hskip o5 B5 K5 hB6
          by_cases f1 : xw = who
          rotate_left
          · have g1 := str_neV f1
            have hsk := hskip'.out (by rw [hbx.out, if_neg (fun h => f1 h.1)])
            clear hskip' hbx hSq f1
            go_wp2
            go_roundw
            case rel => exact ⟨q + 1, P, by omega, by go_num, by omega, o6, B6, hsk⟩
            case measure => simp [intOf]; omega
          have g1 : (xw.toList == who.toList) = true := by rw [f1]; exact beq_self_eq_true _
          cases xg
          · have hsk := hskip'.out (by rw [hbx.out, if_neg (fun h => by cases h.2.1)])
            clear hskip' hbx hSq f1
            go_wp2
            go_roundw
            case rel => exact ⟨q + 1, P, by omega, by go_num, by omega, o6, B6, hsk⟩
            case measure => simp [intOf]; omega
          by_cases f3 : xt ≤ at_
          rotate_left
          · have g3 : decide (at_ < xt) = true := decide_eq_true (by omega)
            have hsk := hskip'.out (by rw [hbx.out, if_neg (fun h => f3 h.2.2)])
            clear hskip' hbx hSq f1 f3
            go_wp2
            go_roundw
            case rel => exact ⟨q + 1, P, by omega, by go_num, by omega, o6, B6, hsk⟩
            case measure => simp [intOf]; omega
          have g3 : decide (at_ < xt) = false := decide_eq_false (by omega)
          have hbx2 := Lib.hid (hbx.out.trans (if_pos ⟨f1, rfl, f3⟩))
          have hP2 := Lib.hid (hPx.out _ (hB2'.out _ K6.bel))
          clear hbx f1 f3 hPx
          generalize (prV l who xt).2 = T at *
          generalize (prV l who xt).1 = F at *
          go_wp2_with fail
          refine hP2.out.mono ?_; rintro e w7 ⟨rfl, B7⟩
          have n7 := blk_below n6 B7
          have t7 := blk_below t6 B7
          have m7 := blk_below hn6 B7
          have hn8 := heap_alloc_new w7 (.cells #[.int .i64 F] 3)
          have hB8 := below_new w7 (.cells #[.int .i64 F] 3)
          have B8 := below_next (below_next B6 B7) hB8
          have o8 := own_below (own_below o6 B7) hB8
          have K8 := (K6.below B7).below hB8
          have n8 := blk_below n7 hB8
          have t8 := blk_below t7 hB8
          have m8 := blk_below m7 hB8
          have hH := Lib.hid (hasFr_c (agB who F xt at_) wr.heap.size w7.heap.size wx.heap.size w.heap.size A n c l _ (hRR.out _ (hB2'.out _ K8.bel)) (fun y _ W B => finalRC_c _ _ _ _ who xw true F xt at_ y W (blk_below n8 B) (blk_below hn8 B) (blk_below m8 B) (blk_below t8 B)))
          generalize l.any (agB who F xt at_) = ag at *
          clear o6 B6 K6 n6 t6 hn6 n7 t7 m7 hB8 B7 hP2 e0 e1 e2 e3 e4 d0 d1 d2 hz6
          go_wp2_with fail
          refine hH.out.mono ?_; rintro e w9 ⟨rfl, B9'⟩
          have B9 := below_next B8 B9'
          have o9 := own_below o8 B9'
          have k9 := blk_below hn8 B9'
          have z9 := (blk_facts k9).1 0
          have hz9 : wr.heap.size + 1 ≤ w9.heap.size := by rw [← hz4]; exact B9.size
          clear hH B8 o8 K8 n8 t8 m8 hn8 B9' k9
          by_cases g5 : 0 < F
          rotate_left
          · have g6 : decide (0 < F) = false := decide_eq_false g5
            have hsk := hskip'.out (by rw [hbx2.out, if_neg (fun h => g5 h.1)])
            clear hskip' hbx2 hSq g5
            go_wp2
            go_roundw
            case rel => exact ⟨q + 1, P, by omega, by go_num, by omega, o9, B9, hsk⟩
            case measure => simp [intOf]; omega
          have g6 : decide (0 < F) = true := decide_eq_true g5
          cases ag
          rotate_left
          · have hsk := hskip'.out (by rw [hbx2.out, if_neg (fun h => by cases h.2)])
            clear hskip' hbx2 hSq g5
            go_wp2
            go_roundw
            case rel => exact ⟨q + 1, P, by omega, by go_num, by omega, o9, B9, hsk⟩
            case measure => simp [intOf]; omega
          have hadd := Lib.hid (show BL = (P ++ [F]) ++ butL l who at_ (cl.drop (q + 1)) by rw [hSq.out, hbx2.out, if_pos ⟨g5, rfl⟩])
          clear hskip' hbx2 hSq g5
          go_wp2_with (at_builtin; refine wpList_app rfl (.tmp 62) (.tmp 64) 22 rfl Tryz.underlying22 info_int rfl (by omega) (by omega) o9 rfl rfl (by first | rfl | (simp; done)) rfl (by simp [Value.oneCell']) (by omega) hz9 ?_; intro va wa howna hga)
          have H := Lib.hid (And.intro (show wa.ownsRow (wr.heap.size + 1) 3 1 va (P ++ [F]).length (ints (P ++ [F])) by unfold ints; rw [List.map_append, List.length_append]; exact howna) (below_own B9 o9 hga B9.size (by rw [hz4]; exact Nat.le_refl _)))
          clear howna hga o9
          go_roundw
          case rel => exact ⟨q + 1, P ++ [F], by omega, by go_num, by rw [List.length_append]; simp; omega, H.out.1, H.out.2, hadd⟩
          case measure => simp [intOf]; omega
        · obtain rfl : q = nc := by omega
          obtain rfl : BL = P := by rw [hF5.out, drop_end (by rw [hcl.out]; exact Nat.le_refl _), hbnil.out, List.append_nil]
          obtain ⟨A6, c6, rfl⟩ := own_shape o5
          have hbr : RI 3 wx A6 BL.length BL := R1.of_own o5 (by omega)
          have n6 := blk_below hn4 B5
          have e3 := (blk_facts n6).1 0
          have e4 := (blk_facts (hk3.out _ K5.bel)).1 0
          have hV2 := Lib.hid (hV1.out A6 BL.length c6 BL wx (hB2'.out _ K5.bel) hbr)
          have hz5 := K5.bel.size
          clear hF5 o5 B5 n6 hbr hn4 cx
          generalize idsV l who at_ (fltV l who at_ (fun f => hasB BL f)) = iv at *
          generalize fltV l who at_ (fun f => hasB BL f) = fv at *
          generalize BL.length = bl at *
          go_wp2_with fail
          refine hV2.out.mono ?_; rintro e w7 ⟨A7, c7, rfl, r7, _, B7⟩
          have K7 := K5.below B7
          have hz7 := K7.bel.size
          clear K5 B7 hV2 e3 e4
          go_wp2_with (at_builtin; refine wpList_app rfl (.tmp 67) (.tmp 73) 63 rfl Tryz.underlying63 info_verdict rfl (by omega) (by omega) K7.o rfl rfl (by first | rfl | (simp; done)) rfl (by simp [Value.oneCell']) (by omega) hz7 ?_; intro v8 w8 hown8 hg8)
          have K8 := K7.app (x := ⟨who, fv, A7, c7, iv⟩) r7 hown8 hg8
          clear hown8 hg8 K7 r7 K4
          go_roundw
          case rel => exact ⟨k + 1, _, by omega, by go_num, by rw [List.length_append]; simp; omega, K8, Lib.hid (by rw [List.map_append]; exact hF2.out)⟩
          case measure => simp [intOf]; omega
    · obtain rfl : k = m := by omega
      have hD9 : L.map Vx.abs = vdsV l at_ (fun who f => hasB (butL l who at_ cl) f) := by rw [hF.out, List.take_of_length_le (by rw [hm'.out]; exact Nat.le_refl _), hTd.out]
      have hD9' := Lib.hid hD9
      obtain ⟨A9, c9, rfl⟩ := own_shape K.o
      have hfin := K.fin2 (by omega)
      have hbel := hB2'.out _ K.bel
      clear hF hD9 K
      go_wp2
      go_ret
      exact ⟨A9, L.length, c9, L, rfl, hfin, hD9'.out, hbel⟩
theorem finalOf_c (A : Option Addr) (n c : Nat) (l : List Rp) (Ac : Option Addr) (nc cc : Nat) (cl : List Cm) (at_ : Int) (w : World) (h : RRp w A n l) (hc : RCm w Ac nc cl) (hn : n ≤ 1000) (hnc : nc ≤ 1000) (hw : ∀ x ∈ l, 1 ≤ x.wt) (ht : ∀ x ∈ l, 0 ≤ x.tm ∧ x.tm ≤ 345686399999) (hcx : ∀ x ∈ cl, 0 ≤ x.tm ∧ x.tm ≤ 345686399999) :
    Calls Tryz.prog 46 #[.slice A n c, .slice Ac nc cc, .int .i64 at_] w (RetV1 w (vdsV l at_ (fun who => goneV l cl at_ who))) := by
  have := finalOf_c' A n c l Ac nc cc cl at_ w h hc hn hnc hw ht hcx
  rwa [vds_but] at this
end Go.Proofs.YtpepdkgkdbnakaaGreatDoor
