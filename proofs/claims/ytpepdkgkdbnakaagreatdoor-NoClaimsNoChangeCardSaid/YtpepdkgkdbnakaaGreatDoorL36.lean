/- NoClaimsNoChange: the walk. -/
import Derived.Test.YtpepdkgkdbnakaaGreatDoorVerY
import Derived.Test.YtpepdkgkdbnakaaGreatDoorRptM
import Derived.Test.YtpepdkgkdbnakaaGreatDoorClmM
import Derived.Test.YtpepdkgkdbnakaaGreatDoorReady
import Derived.Test.YtpepdkgkdbnakaaGreatDoorDraws
namespace Go.Proofs.YtpepdkgkdbnakaaGreatDoor
open Go.RowKit Go.Shelf Go.Lib Go.Sort
set_option linter.unusedVariables false

/-- a claim that is not granted -/
def ngC (x : Cm) : Cm := ⟨x.who, x.tm, false⟩
theorem clmGo_ng : ∀ (l : List Cm) (o : Option Cm), clmGo (o.map ngC) (l.map ngC) = clmGo o l
  | [], _ => by cases ‹Option Cm› <;> rfl
  | x :: r, o => by
    have ih := clmGo_ng r (some x)
    have e1 : cm1 (ngC x) = cm1 x := rfl
    have e2 : badCm (o.map ngC) (ngC x) = badCm o x := by cases o <;> rfl
    show (if cm1 (ngC x) ≠ 0 then cm1 (ngC x) else if badCm (o.map ngC) (ngC x) = true then 7 else clmGo ((some x).map ngC) (r.map ngC)) = (if cm1 x ≠ 0 then cm1 x else if badCm o x = true then 7 else clmGo (some x) r)
    rw [e1, e2, ih]
theorem clmErr_ng (l : List Cm) : clmErr (l.map ngC) = clmErr l := by
  unfold clmErr
  rw [List.length_map]
  have := clmGo_ng l none
  rw [← this]; rfl
theorem goneV_ng (l : List Rp) (cl : List Cm) (at_ : Int) (who : ByteArray) (f : Int) : goneV l (cl.map ngC) at_ who f = false := by
  unfold goneV
  rw [List.any_map, List.any_eq_false]
  intro x _
  simp [fiB, grB, ngC]
theorem vds_ng (l : List Rp) (cl : List Cm) (at_ : Int) : vdsV l at_ (fun who => goneV l (cl.map ngC) at_ who) = vdsV l at_ (fun _ _ => false) := by
  have e : (fun who => goneV l (cl.map ngC) at_ who) = fun (_ : ByteArray) (_ : Int) => false := by
    funext who f
    exact goneV_ng l cl at_ who f
  rw [e]
theorem vdF_pass (p : Int → Bool) : ∀ (n : Nat) (f : Int), 1 ≤ f → vdF p n f ≠ 0 → p (vdF p n f) = true
  | 0, _, _, h => absurd rfl h
  | n + 1, f, hf, h => by
    unfold vdF at h ⊢
    split
    · rename_i h1; exact h1
    · rename_i h1
      rw [if_neg h1] at h
      exact vdF_pass p n (f + 1) (by omega) h
theorem lastGo_in2 (who : ByteArray) (f at_ : Int) (P : Rp → Prop) : ∀ (l : List Rp) (best : Rp), P best → (∀ x ∈ l, mtB who f at_ x = true → P x) → P (lastGo who f at_ best l)
  | [], _, h, _ => h
  | x :: r, best, h, hl => by
    unfold lastGo
    refine lastGo_in2 who f at_ P r _ ?_ (fun y hy => hl y (List.mem_cons_of_mem _ hy))
    split
    · rename_i h1; exact hl x (List.mem_cons_self ..) h1.1
    · exact h
theorem ids_pos {l : List Rp} {who : ByteArray} {at_ : Int} (h : fltV l who at_ nevG ≠ 0) : 0 < (idsV l who at_ (fltV l who at_ nevG)).length := by
  have h1 : pV l who at_ nevG (fltV l who at_ nevG) = true := vdF_pass (pV l who at_ nevG) 8 1 (by decide) h
  generalize fltV l who at_ nevG = F at *
  unfold pV stB at h1
  simp only [Bool.and_eq_true, decide_eq_true_eq, Bool.not_eq_true'] at h1
  obtain ⟨⟨h2, h3⟩, _⟩ := h1
  have h4 := lastGo_in2 who F at_ (fun y => y = rp0 ∨ (y ∈ l ∧ mtB who F at_ y = true)) l rp0 (.inl rfl) (fun x hx hm => .inr ⟨hx, hm⟩)
  rw [show lastGo who F at_ rp0 l = lastV l who F at_ from rfl] at h4
  rcases h4 with h4 | ⟨h4, h5⟩
  · rw [h4] at h2; exact absurd h2 (by decide)
  · unfold idsV
    rw [if_neg h]
    unfold repL
    rw [List.length_map]
    apply List.length_pos_of_mem (a := lastV l who F at_)
    rw [List.mem_filter]
    exact ⟨h4, by simp [h5, h3]⟩
/-- who can protest has a fault -/
def ncB (who : ByteArray) (x : Vx) : Bool := decide (x.who = who) && (decide (0 < x.fl) && decide ((0 : Int) < (x.ids.length : Int)))
theorem open_has {l : List Rp} {cl : List Cm} {at_ : Int} {who : ByteArray} {L : List Vx} (h : who ∈ openV l cl at_) (hL : L.map Vx.abs = vdsV l at_ (fun _ _ => false)) : L.any (ncB who) = true := by
  obtain ⟨h1, h2⟩ := List.mem_filter.1 h
  unfold opB at h2
  simp only [Bool.and_eq_true, Bool.not_eq_true', decide_eq_false_iff_not] at h2
  have h3 := h2.1
  have h4 : (who, fltV l who at_ nevG, idsV l who at_ (fltV l who at_ nevG)) ∈ L.map Vx.abs := by
    rw [hL]
    exact List.mem_map.2 ⟨who, h1, rfl⟩
  obtain ⟨x, hx, hxa⟩ := List.mem_map.1 h4
  rw [List.any_eq_true]
  refine ⟨x, hx, ?_⟩
  simp only [Vx.abs, Prod.mk.injEq] at hxa
  obtain ⟨a1, a2, a3⟩ := hxa
  have hb := fltV_bd l who at_ nevG
  have hi := ids_pos h3
  unfold ncB
  rw [a1, a2, a3]
  simp only [decide_true, Bool.true_and, Bool.and_eq_true, decide_eq_true_eq]
  exact ⟨by omega, by omega⟩
set_option maxHeartbeats 1600000 in
set_option maxRecDepth 100000 in
theorem ncC_c (p1 : Nat) (who : ByteArray) (x : Vx) (w : World) (h1 : w.heap[p1]? = some (.cells #[.string who] 9 (0, 0))) :
    Calls Tryz.prog 51 #[.agg (vxE x).toArray, .pointer (some ⟨p1, 0, none⟩)] w fun e w' => e = .returned (.bool (ncB who x)) ∧ Below w.heap.size w w' := by
  obtain ⟨xw, fl, A, c, ids⟩ := x
  have hA := Lib.hid (show ncB who ⟨xw, fl, A, c, ids⟩ = (decide (xw = who) && (decide (0 < fl) && decide ((0 : Int) < (ids.length : Int)))) from rfl)
  generalize ncB who ⟨xw, fl, A, c, ids⟩ = R at *
  dsimp only [vxE] at *
  have hBn := below_new w (.cells #[.string xw, .int .i64 fl, .slice A ids.length c] 69)
  have hn0 := heap_alloc_new w (.cells #[.string xw, .int .i64 fl, .slice A ids.length c] 69)
  have a1 := (blk_facts (blk_below h1 hBn)).1 0
  have x0 := (blk_facts hn0).1 0
  have x1 := (blk_facts hn0).1 1
  have x2 := (blk_facts hn0).1 2
  have hl1 := lt_of_heap h1
  generalize ids.length = n at *
  have hcase : (R = true ∧ (xw.toList == who.toList) = true ∧ decide (0 < fl) = true ∧ decide ((0 : Int) < (n : Int)) = true) ∨ (R = false ∧ (((xw.toList == who.toList) = false) ∨ ((xw.toList == who.toList) = true ∧ ((decide (0 < fl) = false) ∨ (decide (0 < fl) = true ∧ decide ((0 : Int) < (n : Int)) = false))))) := by
    by_cases e1 : xw = who
    · have b1 : (xw.toList == who.toList) = true := by rw [e1]; exact beq_self_eq_true _
      by_cases e2 : 0 < fl
      · by_cases e3 : (0 : Int) < (n : Int)
        · exact .inl ⟨by rw [hA.out, decide_eq_true e1, decide_eq_true e2, decide_eq_true e3]; rfl, b1, decide_eq_true e2, decide_eq_true e3⟩
        · exact .inr ⟨by rw [hA.out, decide_eq_true e1, decide_eq_true e2, decide_eq_false e3]; rfl, .inr ⟨b1, .inr ⟨decide_eq_true e2, decide_eq_false e3⟩⟩⟩
      · exact .inr ⟨by rw [hA.out, decide_eq_true e1, decide_eq_false e2]; rfl, .inr ⟨b1, .inl (decide_eq_false e2)⟩⟩
    · exact .inr ⟨by rw [hA.out, decide_eq_false e1]; rfl, .inl (str_neV e1)⟩
  have hcv : decide ((0 : Int) < (n : Int)) = decide (0 < n) := by rw [decide_eq_decide]; omega
  rw [hcv] at hcase
  clear hA hn0 h1 hcv
  rcases hcase with ⟨rfl, b1, b2, b3⟩ | ⟨rfl, b1 | ⟨b1, b2 | ⟨b2, b3⟩⟩⟩
  all_goals
    go_enter Tryz.func51, Tryz.ntmps51
    go_wp2
    go_ret
    exact ⟨by first | rfl | (show Ending.returned (.bool (decide (0 < n))) = _; rw [b3]), hBn⟩
set_option maxRecDepth 100000 in
theorem idxNc_c (p : Vx → Bool) (p1 : Nat) (A : Option Addr) (n c : Nat) (l : List Vx) (w : World) (h : RVx w A n l) (hP : ∀ (x : Vx), x ∈ l → ∀ W, Below w.heap.size w W → Calls Tryz.prog 51 #[.agg (vxE x).toArray, .pointer (some ⟨p1, 0, none⟩)] W fun e w' => e = .returned (.bool (p x)) ∧ Below W.heap.size W w') :
    Calls Tryz.prog 152 #[.slice A n c, .func (.func 51) #[] #[.pointer (some ⟨p1, 0, none⟩)]] w fun e w' => ∃ i : Int, e = .returned (.int .i64 i) ∧ (decide (0 ≤ i) = l.any p) ∧ Below w.heap.size w w' := by
  have hz := Lib.hid hP
  have hR := Lib.hid (fun W B => h.below (w' := W) B)
  have hl := Lib.hid h.1.len
  have hbd := h.1.bd
  clear hP h
  go_enter Tryz.func152, Tryz.ntmps152
  go_wp2_with fail
  go_loopw [8] (fun i wr => ∃ k : Nat, k ≤ n ∧ i = .int .i64 k ∧ Below w.heap.size w wr ∧ Hid (∀ x ∈ l.take k, p x = false)) (fun i _ => n - (intOf i).toNat)
  case atStart => exact ⟨0, Nat.zero_le _, rfl, Below.refl _ _, Lib.hid (fun x hx => by simp at hx)⟩
  case round =>
    rename World => wr
    obtain ⟨k, hk, rfl, hB, hF⟩ := hrel
    by_cases hlt : k < n
    · obtain ⟨b, off, x, rfl, hbl, hx, c0, c1, c2, rx⟩ := RVx_at3 (hR.out _ hB) hlt
      have hx' := Lib.hid hx
      have hzx := Lib.hid (hz.out x (List.mem_of_getElem? hx) wr hB)
      obtain ⟨pb, hpb⟩ : ∃ pb, p x = pb := ⟨_, rfl⟩
      rw [hpb] at hzx
      have hpb' := Lib.hid hpb
      have hnext := Lib.hid (fun (h0 : pb = false) => show ∀ y ∈ l.take (k + 1), p y = false from fun y hy => by
        rw [List.take_add_one, hx'.out] at hy
        rcases List.mem_append.1 hy with hy | hy
        · exact hF.out y hy
        · simp at hy; subst hy; rw [hpb'.out, h0])
      have hfound := Lib.hid (fun (h0 : pb = true) => show decide (0 ≤ (k : Int)) = l.any p by
        rw [decide_eq_true (by omega), eq_comm, List.any_eq_true]
        exact ⟨_, List.mem_of_getElem? hx'.out, by rw [hpb'.out, h0]⟩)
      obtain ⟨xw, fl, Ax, cx, ids⟩ := x
      dsimp only [vxE] at *
      clear hx hpb rx hF hx' hpb'
      generalize ids.length = m at *
      cases pb
      · have hF2 := Lib.hid (hnext.out rfl)
        clear hnext hfound
        go_wp2_with fail
        refine hzx.out.mono ?_; rintro e w1 ⟨rfl, B1⟩
        have hB1 := below_next hB B1
        go_wp2
        go_roundw
        case rel => exact ⟨k + 1, by omega, by go_num, hB1, hF2⟩
        case measure => simp [intOf]; omega
      · have hI := Lib.hid (hfound.out rfl)
        clear hnext hfound
        go_wp2_with fail
        refine hzx.out.mono ?_; rintro e w1 ⟨rfl, B1⟩
        have hB1 := below_next hB B1
        go_wp2
        go_ret
        exact ⟨_, rfl, hI.out, hB1⟩
    · obtain rfl : k = n := by omega
      have hI := Lib.hid (show decide (0 ≤ (-1 : Int)) = l.any p by
        rw [decide_eq_false (by decide), eq_comm, List.any_eq_false]
        intro x hx
        have := hF.out x (by rw [List.take_of_length_le (by rw [hl.out]; exact Nat.le_refl _)]; exact hx)
        simp [this])
      go_wp2
      go_ret
      exact ⟨_, rfl, hI.out, hB⟩
theorem hasNc_c (p : Vx → Bool) (p1 : Nat) (A : Option Addr) (n c : Nat) (l : List Vx) (w : World) (h : RVx w A n l) (hP : ∀ (x : Vx), x ∈ l → ∀ W, Below w.heap.size w W → Calls Tryz.prog 51 #[.agg (vxE x).toArray, .pointer (some ⟨p1, 0, none⟩)] W fun e w' => e = .returned (.bool (p x)) ∧ Below W.heap.size W w') :
    Calls Tryz.prog 50 #[.slice A n c, .func (.func 51) #[] #[.pointer (some ⟨p1, 0, none⟩)]] w fun e w' => e = .returned (.bool (l.any p)) ∧ Below w.heap.size w w' := by
  have hI := Lib.hid (idxNc_c p p1 A n c l w h hP)
  clear hP h
  go_enter Tryz.func50, Tryz.ntmps50
  go_wp2_with fail
  refine hI.out.mono ?_; rintro e w1 ⟨i, rfl, hi, B1⟩
  have hi' := Lib.hid hi
  clear hi
  go_wp2
  go_ret
  exact ⟨by rw [← hi'.out]; rfl, B1⟩
theorem ng_step {cl : List Cm} {k : Nat} {x : Cm} (h : cl[k]? = some x) : (((cl.take k).map ngC ++ cl.drop k).set k (ngC x)) = (cl.take (k + 1)).map ngC ++ cl.drop (k + 1) := by
  have hk := lt_of_at h
  have hlen : ((cl.take k).map ngC).length = k := by rw [List.length_map, List.length_take]; omega
  rw [List.set_append_right _ _ (by omega), hlen, Nat.sub_self, drop_at h, List.take_add_one, h, List.map_append, List.append_assoc]
  rfl
theorem ng_at {cl : List Cm} {k : Nat} {x : Cm} (h : cl[k]? = some x) : ((cl.take k).map ngC ++ cl.drop k)[k]? = some x := by
  have hk := lt_of_at h
  have hlen : ((cl.take k).map ngC).length = k := by rw [List.length_map, List.length_take]; omega
  rw [List.getElem?_append_right (by omega), hlen, Nat.sub_self, List.getElem?_drop, Nat.add_zero, h]
set_option maxHeartbeats 6400000 in
set_option maxRecDepth 100000 in
theorem noClaimsNoChange_walk (a0 : Option Addr) (len0 cap0 : Nat) (z0 : List Int) (w : World) (w0 : IsRow .i64 w a0 len0 cap0 z0) (htab : Tb w) :
    Calls Tryz.prog 5 #[.slice a0 len0 cap0] w fun e w' => e = .returned (.bool true) ∧ Below w.heap.size w w' := by
  have hs := law_start w0
  clear w0
  generalize z0.take len0 = zs at *
  go_enter Tryz.func5, Tryz.ntmps5
  go_wp2_with fail
  have hs' : St (w.alloc (.cells #[.slice a0 len0 cap0, .int .i64 0] 25)) w.heap.size zs 0 := hs
  have hB1 := below_new w (.cells #[.slice a0 len0 cap0, .int .i64 0] 25)
  refine (rangeE_c _ zs 0 0 9 _ hs' (by omega) (by decide) (by decide) (by decide)).mono ?_; rintro e w1 ⟨v, rfl, v0, v1, s1, g1⟩
  obtain ⟨M, rfl⟩ : ∃ M : Nat, v = M := ⟨v.toNat, by omega⟩
  have hB2 := hB1.trans (grown_below g1 (Nat.le_refl _) hB1.size)
  clear hs hs' g1 hB1
  go_wp2_with fail
  refine (rightReports_c _ zs 1 M _ w s1 (by omega) (by omega) htab hB2 (Nat.le_refl _)).mono ?_; rintro e w2 ⟨A, n, c, l, k2, rfl, ho2, hl2, hre, hnM, s2, hk2, g2⟩
  have hR2 : RRp w2 A n l := RN.of_own rpE_len ho2 hl2 (by omega)
  have hB3 := hB2.trans (grown_below g2 (Nat.le_refl _) hB2.size)
  have hre' := Lib.hid hre
  clear htab hB2 s1 g2 ho2 hre hl2
  go_wp2_with fail
  refine (claims_c _ zs k2 _ s2 (by omega)).mono ?_; rintro e w3 ⟨Ac, nc, cc, cl, k3, rfl, ho3, hlc, hnc, s3, hk3, g3⟩
  have hR3 := hR2.keep (T := 25) (by decide) (s2.keep g3)
  have hB4 := hB3.trans (grown_below g3 (Nat.le_refl _) hB3.size)
  have hz2 := hB3.size
  have hsg := s2.lt
  have hz3 := g3.size
  clear hR2 hB3 s2 g3
  go_wp2_with fail
  refine (pickB_c _ zs k3 [0, 15, 60, 1800000, 3600000] 0 3600000 5 5 w3.heap.size #[.int .i64 0, .int .i64 15, .int .i64 60, .int .i64 1800000, .int .i64 3600000] w3 s3 (by omega) rfl rfl rfl (by decide) (by decide) (by simp)).mono ?_; rintro e w4 ⟨at_, rfl, ha0, ha1, s4, g4⟩
  have hR4 := hR3.keep (T := 25) (by decide) (s3.keep g4)
  have ho4 := own_keep ho3 hsg g4
  have hB5 := hB4.trans (grown_below g4 (Nat.le_refl _) hB4.size)
  have hC4 : RCm w4 Ac nc cl := RN.of_own cmE_len ho4 hlc (by omega)
  have hlc' := Lib.hid hlc
  have hz4 := g4.size
  clear hR3 hB4 s3 s4 g4 ho3 hlc
  generalize w2.heap.size = base at *
  have hF := Lib.hid (claimsFault_c Ac nc cc cl w4 hC4)
  clear hC4
  go_wp2_with fail
  refine hF.out.mono ?_; rintro e w5 ⟨rfl, B5⟩
  have hR5 := hR4.below B5
  have ho5 := own_below ho4 B5
  have hB6 := below_next hB5 B5
  have hz5 := B5.size
  have hzb : base ≤ w5.heap.size := by omega
  clear hF B5 ho4 hR4 hB5
  by_cases hCE : clmErr cl = 0
  rotate_left
  · have hd : (clmErr cl != 0) = true := by simpa using hCE
    clear hCE
    generalize clmErr cl = CE at *
    go_wp2_with fail
    refine (ready_c _).mono ?_; rintro e w6 ⟨rfl, B6⟩
    have hfB := below_next hB6 B6
    go_wp2
    go_ret
    exact ⟨rfl, hfB⟩
  have hd : (clmErr cl != 0) = false := by simp [hCE]
  have hCE' := Lib.hid hCE
  have hE9 : ∃ CE, CE = clmErr cl := ⟨_, rfl⟩
  clear hCE
  obtain ⟨CE, hce⟩ := hE9
  rw [← hce] at hd
  rw [← hce]
  clear hce
  have hLo := Lib.hid hlc'.out
  go_wp2_with fail
  go_loopw [34] (fun i wr => ∃ k : Nat, k ≤ nc ∧ i = .int .i64 k ∧ wr.ownsRow base 79 3 (.slice Ac nc cc) nc (((cl.take k).map ngC ++ cl.drop k).flatMap cmE) ∧ RRp wr A n l ∧ Below w.heap.size w wr ∧ base ≤ wr.heap.size) (fun i _ => nc - (intOf i).toNat)
  case atStart => exact ⟨0, Nat.zero_le _, rfl, by simpa using ho5, hR5, hB6, hzb⟩
  case round =>
    clear ho5 hR5 hB6 hzb
    rename World => wr
    obtain ⟨k, hk, rfl, ho, hR, hB, hzb⟩ := hrel
    by_cases hlt : k < nc
    · obtain ⟨x, hx⟩ := at_of_lt (l := cl) (k := k) (by rw [hLo.out]; exact hlt)
      have hlen : ((cl.take k).map ngC ++ cl.drop k).length = nc := own_len cmE_len (by decide) ho
      obtain ⟨b, rfl, hbb⟩ := own_someN ho (by omega)
      have hRC : RCm wr (some ⟨b, 0, none⟩) nc ((cl.take k).map ngC ++ cl.drop k) := RN.of_own cmE_len ho hlen (by omega)
      obtain ⟨b', off', x', hA, hbl, hx', c0, c1, c2⟩ := RCm_at3 hRC hlt
      injection hA with hA
      injection hA with e1 e2
      subst e1 e2
      rw [ng_at hx] at hx'
      obtain rfl := Option.some.inj hx'
      rw [Nat.zero_add] at c0 c1 c2
      have f2 := ho.frozenAt (k * 3 + 2)
      have hst := ho.stored (k * 3 + 2) (.bool false)
      rw [flat_set cmE_len _ k x (ngC x) 2 (.bool false) (ng_at hx) (by decide) rfl, ng_step hx] at hst
      have hB7 := below_own hB ho hst.2 (by omega) hz2
      have hR7 := hR.keep (T := 79) (by decide) (keep_own7 ho hst.2)
      have hz7 := Nat.le_trans hzb hst.2.size
      have H := Lib.hid (And.intro hst.1 (And.intro hR7 (And.intro hB7 hz7)))
      obtain ⟨xw, xt, xg⟩ := x
      dsimp only at *
      clear hst hB7 hR7 hz7 ho hR hB hRC hx hx' hlen
      go_wp2
      go_roundw
      case rel => exact ⟨k + 1, by omega, by go_num, H.out.1, H.out.2.1, H.out.2.2.1, H.out.2.2.2⟩
      case measure => simp [intOf]; omega
    · obtain rfl : k = nc := by omega
      have hfull : (cl.take k).map ngC ++ cl.drop k = cl.map ngC := by
        rw [List.take_of_length_le (by rw [hLo.out]; exact Nat.le_refl _), List.drop_of_length_le (by rw [hLo.out]; exact Nat.le_refl _), List.append_nil]
      rw [hfull] at ho
      have hC : RCm wr Ac k (cl.map ngC) := RN.of_own cmE_len ho (by rw [List.length_map]; exact hLo.out) (by omega)
      have hmb : momB at_ = true := decide_eq_true ⟨ha0, by omega⟩
      have e1 : vrdE l at_ = 0 := by unfold vrdE; rw [if_neg (by simpa using hre'.out), if_pos hmb]
      have e2 : clmE l (cl.map ngC) at_ = 0 := by unfold clmE; rw [if_neg (by simpa using hre'.out), clmErr_ng, if_neg (by simpa using hCE'.out), if_pos hmb]
      have e3 : clmE l [] at_ = 0 := by unfold clmE; rw [if_neg (by simpa using hre'.out), if_neg (by simp [clmErr, clmGo]), if_pos hmb]
      have hVd := Lib.hid (show Calls Tryz.prog 37 #[.slice A n c, .int .i64 at_] wr (RetVs wr 0 (vdsV l at_ (fun _ _ => false))) by have := verdicts_c A n c l at_ wr hR (by omega); rwa [e1, if_pos rfl] at this)
      have hFi := Lib.hid (fun W (B : Below wr.heap.size wr W) => show Calls Tryz.prog 43 #[.slice A n c, .slice Ac k cc, .int .i64 at_] W (RetVs W 0 (vdsV l at_ (fun _ _ => false))) by have := final_c A n c l Ac k cc (cl.map ngC) at_ W (hR.below B) (hC.below B) (by omega); rwa [e2, if_pos rfl, vds_ng] at this)
      have hOp := Lib.hid (fun W (B : Below wr.heap.size wr W) => show Calls Tryz.prog 42 #[.slice A n c, .slice none 0 0, .int .i64 at_] W (RetOp W 0 (openV l [] at_)) by have := open_c A n c l none 0 0 [] at_ W (hR.below B) (RN.nil_ _ _ _ _ _) (by omega); rwa [e3, if_pos rfl] at this)
      have hhas := Lib.hid (fun who (h : who ∈ openV l [] at_) L hL => open_has (L := L) h hL)
      have hOl : (openV l [] at_).length ≤ n := by
        have h1 := List.length_filter_le (opB l [] at_) (toldV l at_)
        have h2 := toldV_len l at_
        rw [hR.len] at h2
        exact Nat.le_trans h1 h2
      clear ho hfull hmb e1 e2 e3 hR hC hCE' hre' hzb hlc' hLo
      generalize vdsV l at_ (fun _ _ => false) = D1 at *
      generalize openV l [] at_ = OV at *
      go_wp2_with fail
      refine hVd.out.mono ?_; rintro e w7 ⟨A7, n7, c7, L7, rfl, r7, hL7, B7⟩
      go_wp2_with fail
      refine (hFi.out _ B7).mono ?_; rintro e w8 ⟨A8, n8, c8, L8, rfl, r8, hL8, B8⟩
      have r78 := r7.below B8
      have B8' := below_next B7 B8
      go_wp2_with fail
      refine (hOp.out _ B8').mono ?_; rintro e w9 ⟨A9, c9, rfl, r9, B9⟩
      have r79 := r78.below B9
      have r89 := r8.below B9
      have B9' := below_next B8' B9
      have hEq := Lib.hid (equalV_c A7 A8 n7 c7 n8 c8 L7 L8 _ r79 r89 (hL7.trans hL8.symm))
      have hL7' := Lib.hid hL7
      have hB9 := below_next hB B9'
      clear hVd hFi hOp r7 r8 r78 r89 B7 B8 B8' B9 B9' hL7 hL8 hB
      go_wp2_with fail
      refine hEq.out.mono ?_; rintro e w10 ⟨rfl, B10⟩
      have r10 := r79.below B10
      have o10 := r9.below B10
      have hB10 := below_next hB9 B10
      clear hEq r79 r9 B10 hB9
      have hR10 := Lib.hid (fun W (B : Below w10.heap.size w10 W) => r10.below B)
      have hO10 := Lib.hid (fun W (B : Below w10.heap.size w10 W) => o10.below B)
      have hB11 := Lib.hid (fun W (B : Below w10.heap.size w10 W) => below_next hB10 B)
      have hb10 := Lib.hid (Below.refl w10.heap.size w10)
      have hbd7 := r10.1.bd
      generalize hom : OV.length = om at *
      have hom' := Lib.hid hom
      clear r10 o10 hB10 hom
      go_wp2_with fail
      go_loopw [79] (fun i wy => ∃ q : Nat, q ≤ om ∧ i = .int .i64 q ∧ Below w10.heap.size w10 wy) (fun i _ => om - (intOf i).toNat)
      case atStart => exact ⟨0, Nat.zero_le _, rfl, hb10.out⟩
      case round =>
        rename World => wy
        obtain ⟨q, hq, rfl, By⟩ := hrel
        by_cases hlt2 : q < om
        · have hlq : (q : Int) < om := by omega
          obtain ⟨b, off, who, rfl, hbl, hx, cx⟩ := (hO10.out _ By).at_ hlt2
          have hn1 := heap_alloc_new wy (.cells #[.string who] 9)
          have hBn := below_new wy (.cells #[.string who] 9)
          have By1 := below_next By hBn
          have hany := hhas.out who (List.mem_of_getElem? hx) L7 hL7'.out
          have hH := Lib.hid (hasNc_c (ncB who) wy.heap.size A7 n7 c7 L7 _ (hR10.out _ By1) (fun x _ W B => ncC_c _ who x W (blk_below hn1 B)))
          rw [hany] at hH
          have y0 := (blk_facts hn1).1 0
          clear hany hx hn1 hBn
          go_wp2_with fail
          refine hH.out.mono ?_; rintro e w11 ⟨rfl, B11⟩
          have By2 := below_next By1 B11
          clear hH B11 By1 By
          go_wp2
          go_roundw
          case rel => exact ⟨q + 1, by omega, by go_num, By2⟩
          case measure => simp [intOf]; omega
        · obtain rfl : q = om := by omega
          have hBf := hB11.out _ By
          go_wp2_with fail
          refine (ready_c _).mono ?_; rintro e w12 ⟨rfl, B12⟩
          have hfB := below_next hBf B12
          go_wp2
          go_ret
          exact ⟨rfl, hfB⟩
end Go.Proofs.YtpepdkgkdbnakaaGreatDoor
