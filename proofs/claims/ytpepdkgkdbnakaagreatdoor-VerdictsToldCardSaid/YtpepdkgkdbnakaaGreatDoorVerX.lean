/- tumbref1.VerdictsOf, judge.Open, tumbref1.OpenOf. Printed by wip/genverx.py. -/
import Derived.Test.YtpepdkgkdbnakaaGreatDoorVerW
namespace Go.Proofs.YtpepdkgkdbnakaaGreatDoor
open Go.RowKit Go.Shelf Go.Lib Go.Sort
set_option linter.unusedVariables false

theorem VsK.fin2 {w wx : World} {L : List Vx} {A : Option Addr} {c : Nat} (h : VsK w (.slice A L.length c) L wx) (hb : L.length ≤ 140737488355328) : RVx wx A L.length L := ⟨RN.of_own vxE_len h.o rfl hb, h.r⟩
set_option maxHeartbeats 6400000 in
set_option maxRecDepth 100000 in
theorem verdictsOf_c (A : Option Addr) (n c : Nat) (l : List Rp) (at_ : Int) (w : World) (h : RRp w A n l) (hn : n ≤ 1000) (hw : ∀ x ∈ l, 1 ≤ x.wt) :
    Calls Tryz.prog 40 #[.slice A n c, .int .i64 at_] w (RetV1 w (vdsV l at_ (fun _ _ => false))) := by
  have hT := Lib.hid (toldR_c A n c l at_ w h (by omega))
  have hV := Lib.hid (fun who W (B : Below w.heap.size w W) => show Calls Tryz.prog 137 #[.slice A n c, .string who, .int .i64 at_, .slice none 0 0] W (RetVr W who (fltV l who at_ (fun _ => false)) (idsV l who at_ (fltV l who at_ (fun _ => false)))) from verdictOf_c A n c l who at_ none 0 0 [] W (h.below B) hn hw (R1.nil_ _ _ _ _))
  have hD := Lib.hid (show vdsV l at_ (fun _ _ => false) = (toldV l at_).map fun who => (who, fltV l who at_ (fun _ => false), idsV l who at_ (fltV l who at_ (fun _ => false))) from rfl)
  have hst := Lib.hid (fun k who h => vds_take (l := l) (at_ := at_) (gone := fun _ _ => false) (k := k) (who := who) h)
  have hTl := toldV_len l at_
  rw [h.len] at hTl
  generalize toldV l at_ = TV at *
  clear h hw
  go_enter Tryz.func40, Tryz.ntmps40
  go_wp2_with fail
  refine hT.out.mono ?_; rintro e w2 ⟨A2, c2, rfl, r2, B2⟩
  have K0 : VsK w (.slice none 0 0) [] w2 := VsK.start B2
  have hTd := Lib.hid (show TV.map (fun who => (who, fltV l who at_ (fun _ => false), idsV l who at_ (fltV l who at_ (fun _ => false)))) = vdsV l at_ (fun _ _ => false) from hD.out.symm)
  generalize hm : TV.length = m at *
  have hm' := Lib.hid hm
  clear hm hT B2 hD
  go_wp2_with fail
  go_loopw [5, 12] (fun u i wr => ∃ (k : Nat) (L : List Vx), k ≤ m ∧ i = .int .i64 k ∧ L.length ≤ k ∧ VsK w u L wr ∧ RS 9 wr A2 m TV ∧ Hid (L.map Vx.abs = (TV.take k).map (fun who => (who, fltV l who at_ (fun _ => false), idsV l who at_ (fltV l who at_ (fun _ => false)))))) (fun _ i _ => m - (intOf i).toNat)
  case atStart => exact ⟨0, [], Nat.zero_le _, rfl, Nat.le_refl _, K0, r2, Lib.hid rfl⟩
  case round =>
    clear K0 r2
    rename World => wr
    obtain ⟨k, L, hk, rfl, hL, K, rT, hF⟩ := hrel
    by_cases hlt : k < m
    · obtain ⟨b, off, who, rfl, hbl, hx, cx⟩ := rT.at_ hlt
      have hF2 := Lib.hid (show (L.map Vx.abs ++ [(who, fltV l who at_ (fun _ => false), idsV l who at_ (fltV l who at_ (fun _ => false)))]) = (TV.take (k + 1)).map (fun who => (who, fltV l who at_ (fun _ => false), idsV l who at_ (fltV l who at_ (fun _ => false)))) by rw [hst.out k who hx, hF.out])
      have hV1 := Lib.hid (hV.out who wr K.bel)
      clear hx hF
      generalize idsV l who at_ (fltV l who at_ (fun _ => false)) = iv at *
      generalize fltV l who at_ (fun _ => false) = fv at *
      go_wp2_with fail
      refine hV1.out.mono ?_; rintro e w5 ⟨A5, c5, rfl, r5, hcp, B5⟩
      have K6 := K.below B5
      have rT6 := rT.below B5
      have hz6 := K6.bel.size
      clear K B5 rT hcp hV1 cx
      go_wp2_with (at_builtin; refine wpList_app rfl (.tmp 16) (.tmp 21) 63 rfl Tryz.underlying63 info_verdict rfl (by omega) (by omega) K6.o rfl rfl (by first | rfl | (simp; done)) rfl (by simp [Value.oneCell']) (by omega) hz6 ?_; intro v7 w7 hown7 hg7)
      have K7 := K6.app (x := ⟨who, fv, A5, c5, iv⟩) r5 hown7 hg7
      have rT7 := rT6.keep (T := 69) (by decide) (keep_own7 K6.o hg7)
      clear hown7 hg7 K6 r5 rT6
      go_roundw
      case rel => exact ⟨k + 1, _, by omega, by go_num, by rw [List.length_append]; simp; omega, K7, rT7, Lib.hid (by rw [List.map_append]; exact hF2.out)⟩
      case measure => simp [intOf]; omega
    · obtain rfl : k = m := by omega
      have hD9 : L.map Vx.abs = vdsV l at_ (fun _ _ => false) := by rw [hF.out, List.take_of_length_le (by rw [hm'.out]; exact Nat.le_refl _), hTd.out]
      have hD9' := Lib.hid hD9
      obtain ⟨A9, c9, rfl⟩ := own_shape K.o
      have hfin := K.fin2 (by omega)
      have hbel := K.bel
      clear hF hD9 K
      go_wp2
      go_ret
      exact ⟨A9, L.length, c9, L, rfl, hfin, hD9'.out, hbel⟩
/-- the error of reports, claims and a moment -/
def clmE (l : List Rp) (cl : List Cm) (at_ : Int) : Int := if rpErr l ≠ 0 then rpErr l else if clmErr cl ≠ 0 then clmErr cl else if momB at_ = true then 0 else 1
theorem clmE_ok {l : List Rp} {cl : List Cm} {at_ : Int} (h : clmE l cl at_ = 0) : rpErr l = 0 ∧ clmErr cl = 0 ∧ 0 ≤ at_ ∧ at_ ≤ 345686399999 := by
  unfold clmE at h
  split at h
  · rename_i h1; exact absurd h h1
  · rename_i h1
    split at h
    · rename_i h2; exact absurd h h2
    · rename_i h2
      split at h
      · rename_i h3
        have h4 : 0 ≤ at_ ∧ at_ ≤ 345686399999 := of_decide_eq_true h3
        exact ⟨Decidable.not_not.1 h1, Decidable.not_not.1 h2, h4⟩
      · cases h
theorem rp_tm {l : List Rp} (h : rpErr l = 0) : ∀ x ∈ l, 0 ≤ x.tm ∧ x.tm ≤ 345686399999 := fun x hx => (rp1_ok ((rpErr_ok h).2.1 x hx)).2.2.1
theorem rp_wt {l : List Rp} (h : rpErr l = 0) : ∀ x ∈ l, 1 ≤ x.wt := fun x hx => (rp1_ok ((rpErr_ok h).2.1 x hx)).2.2.2.1
/-- who can still protest -/
def opB (l : List Rp) (cl : List Cm) (at_ : Int) (who : ByteArray) : Bool :=
  !decide (fltV l who at_ nevG = 0) && (!decide (1800000 < at_ - tmV l who at_ (fltV l who at_ nevG)) && !(cl.any (clB who (tmV l who at_ (fltV l who at_ nevG)) at_)))
def opR (l : List Rp) (cl : List Cm) (at_ : Int) (who : ByteArray) : Bool := decide (0 < (prV l who at_).1) && !(cl.any (clB who (prV l who at_).2 at_))
theorem opR_eq (l : List Rp) (cl : List Cm) (at_ : Int) (who : ByteArray) : opR l cl at_ who = opB l cl at_ who := by
  unfold opR opB prV tmV
  have hb := fltV_bd l who at_ nevG
  by_cases h0 : fltV l who at_ nevG = 0
  · simp [h0]
  · by_cases h1 : 1800000 < at_ - (lastV l who (fltV l who at_ nevG) at_).tm
    · simp [h0, h1]
    · have h2 : 0 < fltV l who at_ nevG := by omega
      simp [h0, h1, h2]
def openV (l : List Rp) (cl : List Cm) (at_ : Int) : List ByteArray := (toldV l at_).filter (opB l cl at_)
theorem open_take {l : List Rp} {cl : List Cm} {at_ : Int} {k : Nat} {who : ByteArray} (h : (toldV l at_)[k]? = some who) : ((toldV l at_).take (k + 1)).filter (opB l cl at_) = ((toldV l at_).take k).filter (opB l cl at_) ++ (if opB l cl at_ who = true then [who] else []) := by
  rw [List.take_add_one, h, List.filter_append]
  by_cases hb : opB l cl at_ who = true <;> simp [hb]
def RetOp (w : World) (E : Int) (D : List ByteArray) (e : Ending) (w' : World) : Prop := ∃ (A : Option Addr) (c : Nat), e = .returned (.tuple #[.slice A D.length c, .int .i64 E]) ∧ RS 9 w' A D.length D ∧ Below w.heap.size w w'
set_option maxHeartbeats 6400000 in
set_option maxRecDepth 100000 in
theorem open_c (A : Option Addr) (n c : Nat) (l : List Rp) (Ac : Option Addr) (nc cc : Nat) (cl : List Cm) (at_ : Int) (w : World) (h : RRp w A n l) (hc : RCm w Ac nc cl) (hn : n ≤ 1000) :
    Calls Tryz.prog 42 #[.slice A n c, .slice Ac nc cc, .int .i64 at_] w (RetOp w (clmE l cl at_) (if clmE l cl at_ = 0 then openV l cl at_ else [])) := by
  have hBa := below_new w (.cells #[.int .i64 at_] 3)
  have hba := heap_alloc_new w (.cells #[.int .i64 at_] 3)
  have hst := Lib.hid (fun k who h => open_take (l := l) (cl := cl) (at_ := at_) (k := k) (who := who) h)
  have hD := Lib.hid (show openV l cl at_ = (toldV l at_).filter (opB l cl at_) from rfl)
  have hTl := toldV_len l at_
  rw [h.len] at hTl
  have hCm := Lib.hid (fun W (B : Below w.heap.size w W) => hc.below B)
  have hCk := Lib.hid (checkClaimed_c A n c l Ac nc cc cl at_ _ (h.below hBa) (hc.below hBa))
  have hE := Lib.hid (show (if rpErr l ≠ 0 then rpErr l else if clmErr cl ≠ 0 then clmErr cl else if momB at_ = true then 0 else 1) = clmE l cl at_ from rfl)
  rw [hE.out] at hCk
  have hok := Lib.hid (fun h => clmE_ok (l := l) (cl := cl) (at_ := at_) h)
  have htm := Lib.hid (fun (h0 : clmE l cl at_ = 0) who F => tmV_bd (rp_tm (clmE_ok h0).1) who at_ F)
  have hT := Lib.hid (fun W (B : Below w.heap.size w W) => told_c A n c l at_ W (h.below B) (by omega))
  have hV := Lib.hid (fun who W (B : Below w.heap.size w W) => verdictN_c A n c l who at_ nevG W (h.below B) (by omega) (fun j W2 _ _ => never_c _ W2))
  have hop := Lib.hid (fun who => show opB l cl at_ who = (!decide (fltV l who at_ nevG = 0) && (!decide (1800000 < at_ - tmV l who at_ (fltV l who at_ nevG)) && !(cl.any (clB who (tmV l who at_ (fltV l who at_ nevG)) at_)))) from rfl)
  obtain ⟨DV, hDV⟩ : ∃ DV, (if clmE l cl at_ = 0 then openV l cl at_ else []) = DV := ⟨_, rfl⟩
  rw [hDV]
  have hDV' := Lib.hid hDV
  clear hDV
  generalize clmE l cl at_ = E at *
  generalize toldV l at_ = TV at *
  generalize openV l cl at_ = OV at *
  generalize opB l cl at_ = ob at *
  clear hE h hc
  go_enter Tryz.func42, Tryz.ntmps42
  go_wp2_with fail
  refine hCk.out.mono ?_; rintro e w1 ⟨rfl, B1⟩
  have hB1 := below_next hBa B1
  have hb1 := blk_below hba B1
  clear hCk hba B1 hBa
  by_cases h0 : E = 0
  rotate_left
  · have hd : (E != 0) = true := by simpa using h0
    have h0' := Lib.hid h0
    clear h0
    go_wp2
    go_ret2
    exact (show RetOp w E DV _ _ by rw [← hDV'.out, if_neg h0'.out]; exact ⟨none, 0, rfl, R1.nil_ _ _ _ _, hB1⟩)
  subst h0
  have htm' := Lib.hid (htm.out (by first | rfl | trivial))
  have hat := (hok.out (by first | rfl | trivial)).2.2
  have ya := (blk_facts hb1).1 0
  clear htm hok
  go_wp2_with fail
  refine (hT.out _ hB1).mono ?_; rintro e w2 ⟨A2, c2, rfl, r2, B2⟩
  have hB2 := below_next hB1 B2
  have hb2 := blk_below hb1 B2
  clear hb1 hB1 B2 hT ya
  have hR2 := Lib.hid (fun W (B : Below w2.heap.size w2 W) => r2.below B)
  have hb2' := Lib.hid (fun W (B : Below w2.heap.size w2 W) => blk_below hb2 B)
  have hB2' := Lib.hid (fun W (B : Below w2.heap.size w2 W) => below_next hB2 B)
  have hl2 := lt_of_heap hb2
  generalize hm : TV.length = m at *
  have hm' := Lib.hid hm
  clear hm r2 hb2
  go_wp2_with fail
  go_loopw [9, 25] (fun u i wr => ∃ (k : Nat) (P : List ByteArray), k ≤ m ∧ i = .int .i64 k ∧ P.length ≤ k ∧ wr.ownsRow w2.heap.size 9 1 u P.length (P.map Value.string) ∧ Below w2.heap.size w2 wr ∧ Hid (P = (TV.take k).filter ob)) (fun _ i _ => m - (intOf i).toNat)
  case atStart => exact ⟨0, [], Nat.zero_le _, rfl, Nat.le_refl _, World.ownsRow_nil _ _ _ _, Below.refl _ _, Lib.hid rfl⟩
  case round =>
    rename World => wr
    obtain ⟨k, P, hk, rfl, hPk, o3, B3, hF⟩ := hrel
    by_cases hlt : k < m
    · obtain ⟨b, off, who, rfl, hbl, hx, cx⟩ := (hR2.out _ B3).at_ hlt
      have hS := Lib.hid (hst.out k who hx)
      have hob := Lib.hid (hop.out who)
      have hn4 := heap_alloc_new wr (.cells #[.string who] 9)
      have hBn := below_new wr (.cells #[.string who] 9)
      have B4 := below_next B3 hBn
      have o4 := own_below o3 hBn
      have ba := (blk_facts (hb2'.out _ B4)).1 0
      have q4 := (blk_facts hn4).1 0
      have hws := B3.size
      clear hx o3 hBn
      have hV1 := Lib.hid (hV.out who _ (hB2'.out _ B4))
      have htw := htm'.out who (fltV l who at_ nevG)
      generalize tmV l who at_ (fltV l who at_ nevG) = T at *
      generalize idsV l who at_ (fltV l who at_ nevG) = iv at *
      generalize fltV l who at_ nevG = F at *
      generalize ob who = ow at *
      have uT : IntKind.i64.wrap (at_ - T) = at_ - T := IntWalk.i64_in _ (by omega)
      go_wp2_with fail
      refine hV1.out.mono ?_; rintro e w5 ⟨A5, c5, rfl, _, _, B5⟩
      have B6 := below_next B4 B5
      have o6 := own_below o4 B5
      have n6 := blk_below hn4 B5
      have hm7 := blk_alloc (heap_alloc_new w5 (.cells #[.string who, .int .i64 F, .slice A5 iv.length c5] 69)) (.cells #[.int .i64 T] 3)
      have hz7 : (w5.alloc (.cells #[.string who, .int .i64 F, .slice A5 iv.length c5] 69)).heap.size = w5.heap.size + 1 := by simp
      have hm8 := hz7 ▸ heap_alloc_new (w5.alloc (.cells #[.string who, .int .i64 F, .slice A5 iv.length c5] 69)) (.cells #[.int .i64 T] 3)
      have B7' := below_next (below_new w5 (.cells #[.string who, .int .i64 F, .slice A5 iv.length c5] 69)) (below_new _ (.cells #[.int .i64 T] 3))
      have B7 := below_next B6 B7'
      have o7 := own_below o6 B7'
      have n7 := blk_below n6 B7'
      have bb7 := hb2'.out _ B7
      have g0 := (blk_facts hm7).1 0
      have g1 := (blk_facts hm7).1 1
      have g2 := (blk_facts hm8).1 0
      have g3 := (blk_facts bb7).1 0
      have g4 := (blk_facts n7).1 0
      have hH := Lib.hid (hasOp_c (clB who T at_) wr.heap.size (w5.heap.size + 1) w.heap.size Ac nc cc cl _ (hCm.out _ (hB2'.out _ B7)) (fun y _ W B => openC_c _ _ _ who T at_ y W (blk_below n7 B) (blk_below hm8 B) (blk_below bb7 B)))
      generalize cl.any (clB who T at_) = ca at *
      clear o4 o6 hn4 n6 B4 B5 B6 hm7 hm8 hV1 cx q4 ba hz7 B7'
      generalize iv.length = qn at *
      by_cases e0 : F = 0
      · have d0 : (F == 0) = true := by rw [e0]; rfl
        obtain rfl : ow = false := by rw [hob.out]; simp [e0]
        have hS2 := Lib.hid (show P = (TV.take (k + 1)).filter ob by rw [hS.out, if_neg (by decide), List.append_nil]; exact hF.out)
        clear hS hob e0 hF n7
        go_wp2
        go_roundw
        case rel => exact ⟨k + 1, P, by omega, by go_num, by omega, o7, B7, hS2⟩
        case measure => simp [intOf]; omega
      have d0 : (F == 0) = false := beq_eq_false_iff_ne.2 e0
      by_cases e1 : 1800000 < at_ - T
      · have d1 : decide (1800000 < at_ - T) = true := decide_eq_true e1
        obtain rfl : ow = false := by rw [hob.out]; simp [e1]
        have hS2 := Lib.hid (show P = (TV.take (k + 1)).filter ob by rw [hS.out, if_neg (by decide), List.append_nil]; exact hF.out)
        clear hS hob e0 e1 hF n7
        go_wp2
        go_roundw
        case rel => exact ⟨k + 1, P, by omega, by go_num, by omega, o7, B7, hS2⟩
        case measure => simp [intOf]; omega
      have d1 : decide (1800000 < at_ - T) = false := decide_eq_false e1
      obtain rfl : ow = !ca := by rw [hob.out]; simp [e0, e1]
      clear hob e0 e1
      go_wp2_with fail
      refine hH.out.mono ?_; rintro e w8 ⟨rfl, B8'⟩
      have B8 := below_next B7 B8'
      have o8 := own_below o7 B8'
      have n8 := blk_below n7 B8'
      have g8 := (blk_facts n8).1 0
      have hz8 := B8.size
      clear hH B7 B8' o7 n7 n8 g4
      cases ca
      · have hS2 := Lib.hid (show P ++ [who] = (TV.take (k + 1)).filter ob by rw [hS.out, ← hF.out]; rfl)
        clear hS hF
        go_wp2_with (at_builtin; refine wpList_app rfl (.tmp 49) (.tmp 51) 49 rfl Tryz.underlying49 info_strS rfl (by omega) (by omega) o8 rfl rfl (by first | rfl | (simp; done)) rfl (by simp [Value.oneCell']) (by omega) hz8 ?_; intro v9 w9 hown9 hg9)
        have H := Lib.hid (And.intro (show w9.ownsRow w2.heap.size 9 1 v9 (P ++ [who]).length ((P ++ [who]).map Value.string) by rw [List.map_append, List.length_append]; exact hown9) (below_own B8 o8 hg9 B8.size (Nat.le_refl _)))
        clear hown9 hg9 o8
        go_roundw
        case rel => exact ⟨k + 1, P ++ [who], by omega, by go_num, by rw [List.length_append]; simp; omega, H.out.1, H.out.2, hS2⟩
        case measure => simp [intOf]; omega
      · have hS2 := Lib.hid (show P = (TV.take (k + 1)).filter ob by rw [hS.out, if_neg (by decide), List.append_nil]; exact hF.out)
        clear hS hF
        go_wp2
        go_roundw
        case rel => exact ⟨k + 1, P, by omega, by go_num, by omega, o8, B8, hS2⟩
        case measure => simp [intOf]; omega
    · obtain rfl : k = m := by omega
      obtain rfl : P = OV := by rw [hF.out, List.take_of_length_le (by rw [hm'.out]; exact Nat.le_refl _), hD.out]
      obtain ⟨A9, c9, rfl⟩ := own_shape o3
      have hr : RS 9 wr A9 P.length P := R1.of_own o3 (by omega)
      have hbel := hB2'.out _ B3
      clear hF o3
      go_wp2
      go_ret2
      exact (show RetOp w 0 DV _ _ by rw [← hDV'.out, if_pos (by first | rfl | trivial)]; exact ⟨A9, c9, rfl, hr, hbel⟩)
set_option maxHeartbeats 6400000 in
set_option maxRecDepth 100000 in
theorem openOf_c (A : Option Addr) (n c : Nat) (l : List Rp) (Ac : Option Addr) (nc cc : Nat) (cl : List Cm) (at_ : Int) (w : World) (h : RRp w A n l) (hc : RCm w Ac nc cl) (hn : n ≤ 1000) (hw : ∀ x ∈ l, 1 ≤ x.wt) (ht : ∀ x ∈ l, 0 ≤ x.tm ∧ x.tm ≤ 345686399999) (ha : 0 ≤ at_ ∧ at_ ≤ 345686399999) :
    Calls Tryz.prog 45 #[.slice A n c, .slice Ac nc cc, .int .i64 at_] w (RetS w (openV l cl at_)) := by
  have hBa := below_new w (.cells #[.int .i64 at_] 3)
  have hba := heap_alloc_new w (.cells #[.int .i64 at_] 3)
  have hst := Lib.hid (fun k who h => open_take (l := l) (cl := cl) (at_ := at_) (k := k) (who := who) h)
  have hD := Lib.hid (show openV l cl at_ = (toldV l at_).filter (opB l cl at_) from rfl)
  have hTl := toldV_len l at_
  rw [h.len] at hTl
  have hCm := Lib.hid (fun W (B : Below w.heap.size w W) => hc.below B)
  have hT := Lib.hid (fun W (B : Below w.heap.size w W) => toldR_c A n c l at_ W (h.below B) (by omega))
  have hP := Lib.hid (fun who W (B : Below w.heap.size w W) => protested_c A n c l who at_ W (h.below B) hn hw ht ha)
  have hop := Lib.hid (fun who => show opB l cl at_ who = (decide (0 < (prV l who at_).1) && !(cl.any (clB who (prV l who at_).2 at_))) from (opR_eq l cl at_ who).symm)
  generalize toldV l at_ = TV at *
  generalize openV l cl at_ = OV at *
  generalize opB l cl at_ = ob at *
  have ya := (blk_facts hba).1 0
  clear h hc hw ht
  go_enter Tryz.func45, Tryz.ntmps45
  go_wp2_with fail
  refine (hT.out _ hBa).mono ?_; rintro e w2 ⟨A2, c2, rfl, r2, B2⟩
  have hB2 := below_next hBa B2
  have hb2 := blk_below hba B2
  clear hba hBa B2 hT ya
  have hR2 := Lib.hid (fun W (B : Below w2.heap.size w2 W) => r2.below B)
  have hb2' := Lib.hid (fun W (B : Below w2.heap.size w2 W) => blk_below hb2 B)
  have hB2' := Lib.hid (fun W (B : Below w2.heap.size w2 W) => below_next hB2 B)
  have hl2 := lt_of_heap hb2
  generalize hm : TV.length = m at *
  have hm' := Lib.hid hm
  clear hm r2 hb2
  go_wp2_with fail
  go_loopw [7, 16] (fun u i wr => ∃ (k : Nat) (P : List ByteArray), k ≤ m ∧ i = .int .i64 k ∧ P.length ≤ k ∧ wr.ownsRow w2.heap.size 9 1 u P.length (P.map Value.string) ∧ Below w2.heap.size w2 wr ∧ Hid (P = (TV.take k).filter ob)) (fun _ i _ => m - (intOf i).toNat)
  case atStart => exact ⟨0, [], Nat.zero_le _, rfl, Nat.le_refl _, World.ownsRow_nil _ _ _ _, Below.refl _ _, Lib.hid rfl⟩
  case round =>
    rename World => wr
    obtain ⟨k, P, hk, rfl, hPk, o3, B3, hF⟩ := hrel
    by_cases hlt : k < m
    · obtain ⟨b, off, who, rfl, hbl, hx, cx⟩ := (hR2.out _ B3).at_ hlt
      have hS := Lib.hid (hst.out k who hx)
      have hob := Lib.hid (hop.out who)
      have hn4 := heap_alloc_new wr (.cells #[.string who] 9)
      have hBn := below_new wr (.cells #[.string who] 9)
      have B4 := below_next B3 hBn
      have o4 := own_below o3 hBn
      have ba := (blk_facts (hb2'.out _ B4)).1 0
      have q4 := (blk_facts hn4).1 0
      have hws := B3.size
      clear hx o3 hBn
      have hV1 := Lib.hid (hP.out who _ (hB2'.out _ B4))
      generalize (prV l who at_).1 = F at *
      generalize (prV l who at_).2 = T at *
      generalize ob who = ow at *
      go_wp2_with fail
      refine hV1.out.mono ?_; rintro e w5 ⟨rfl, B5⟩
      have B6 := below_next B4 B5
      have o6 := own_below o4 B5
      have n6 := blk_below hn4 B5
      have hm8 := heap_alloc_new w5 (.cells #[.int .i64 T] 3)
      have B7' := below_new w5 (.cells #[.int .i64 T] 3)
      have B7 := below_next B6 B7'
      have o7 := own_below o6 B7'
      have n7 := blk_below n6 B7'
      have bb7 := hb2'.out _ B7
      have g4 := (blk_facts n7).1 0
      have hH := Lib.hid (hasOr_c (clB who T at_) wr.heap.size w5.heap.size w.heap.size Ac nc cc cl _ (hCm.out _ (hB2'.out _ B7)) (fun y _ W B => openRC_c _ _ _ who T at_ y W (blk_below n7 B) (blk_below hm8 B) (blk_below bb7 B)))
      generalize cl.any (clB who T at_) = ca at *
      clear o4 o6 hn4 n6 B4 B5 B6 hm8 hV1 cx q4 ba B7'
      by_cases e0 : 0 < F
      rotate_left
      · have d0 : decide (0 < F) = false := decide_eq_false e0
        obtain rfl : ow = false := by rw [hob.out]; simp [e0]
        have hS2 := Lib.hid (show P = (TV.take (k + 1)).filter ob by rw [hS.out, if_neg (by decide), List.append_nil]; exact hF.out)
        clear hS hob e0 hF n7
        go_wp2
        go_roundw
        case rel => exact ⟨k + 1, P, by omega, by go_num, by omega, o7, B7, hS2⟩
        case measure => simp [intOf]; omega
      have d0 : decide (0 < F) = true := decide_eq_true e0
      obtain rfl : ow = !ca := by rw [hob.out]; simp [e0]
      clear hob e0
      go_wp2_with fail
      refine hH.out.mono ?_; rintro e w8 ⟨rfl, B8'⟩
      have B8 := below_next B7 B8'
      have o8 := own_below o7 B8'
      have n8 := blk_below n7 B8'
      have g8 := (blk_facts n8).1 0
      have hz8 := B8.size
      clear hH B7 B8' o7 n7 n8 g4
      cases ca
      · have hS2 := Lib.hid (show P ++ [who] = (TV.take (k + 1)).filter ob by rw [hS.out, ← hF.out]; rfl)
        clear hS hF
        go_wp2_with (at_builtin; refine wpList_app rfl (.tmp 35) (.tmp 37) 49 rfl Tryz.underlying49 info_strS rfl (by omega) (by omega) o8 rfl rfl (by first | rfl | (simp; done)) rfl (by simp [Value.oneCell']) (by omega) hz8 ?_; intro v9 w9 hown9 hg9)
        have H := Lib.hid (And.intro (show w9.ownsRow w2.heap.size 9 1 v9 (P ++ [who]).length ((P ++ [who]).map Value.string) by rw [List.map_append, List.length_append]; exact hown9) (below_own B8 o8 hg9 B8.size (Nat.le_refl _)))
        clear hown9 hg9 o8
        go_roundw
        case rel => exact ⟨k + 1, P ++ [who], by omega, by go_num, by rw [List.length_append]; simp; omega, H.out.1, H.out.2, hS2⟩
        case measure => simp [intOf]; omega
      · have hS2 := Lib.hid (show P = (TV.take (k + 1)).filter ob by rw [hS.out, if_neg (by decide), List.append_nil]; exact hF.out)
        clear hS hF
        go_wp2
        go_roundw
        case rel => exact ⟨k + 1, P, by omega, by go_num, by omega, o8, B8, hS2⟩
        case measure => simp [intOf]; omega
    · obtain rfl : k = m := by omega
      obtain rfl : P = OV := by rw [hF.out, List.take_of_length_le (by rw [hm'.out]; exact Nat.le_refl _), hD.out]
      obtain ⟨A9, c9, rfl⟩ := own_shape o3
      have hr : RS 9 wr A9 P.length P := R1.of_own o3 (by omega)
      have hbel := hB2'.out _ B3
      clear hF o3
      go_wp2
      go_ret
      exact ⟨A9, c9, rfl, hr, hbel⟩
end Go.Proofs.YtpepdkgkdbnakaaGreatDoor
