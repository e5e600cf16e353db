import Derived.Test.YtcmfgmdkdpadjaaGreatDoorStartC
import Derived.Test.YtcmfgmdkdpadjaaGreatDoorSortH
import Derived.Test.YtcmfgmdkdpadjaaGreatDoorTogeth
import Derived.Shelf.SlSortCmp.WholeK
import Derived.Test.YtcmfgmdkdpadjaaGreatDoorRepD
/- heat.sortStarts: slices.SortFunc of starts, any number: a permutation, ascending. -/
namespace Go.Proofs.YtcmfgmdkdpadjaaGreatDoor
open Go.RowKit Go.Shelf Go.Lib Go.Sort
set_option linter.unusedVariables false

theorem spLt_iff (x y : Sp) : ltOf spCf x y = true ↔ x.heat < y.heat ∨ (x.heat = y.heat ∧ x.lane < y.lane) := by
  have e : ltOf spCf x y = decide (spCf x y < 0) := rfl
  rw [e, decide_eq_true_iff, spCf_val]
  have h1 := @cmpI_neg x.heat y.heat
  have h2 := @cmpI_zero x.heat y.heat
  have h3 := @cmpI_neg x.lane y.lane
  have h4 := cmp3' x.heat y.heat
  have h5 := cmp3' x.lane y.lane
  split <;> omega
theorem spLt_no (x y : Sp) : ltOf spCf x y = false ↔ ¬ (x.heat < y.heat ∨ (x.heat = y.heat ∧ x.lane < y.lane)) := by
  rw [← spLt_iff, Bool.not_eq_true]
theorem spSWO : SWO (ltOf spCf) := by
  refine ⟨fun x => ?_, fun x y z => ?_, fun x y z => ?_⟩
  · rw [spLt_no]; omega
  · rw [spLt_iff, spLt_iff, spLt_iff]; omega
  · rw [spLt_no, spLt_no, spLt_no]; omega
/-- sorted as starts are -/
def SpSorted (l l' : List Sp) : Prop := l'.Perm l ∧ l'.Pairwise fun x y => ltOf spCf y x = false
theorem stIns0_c (p : Option Addr) (cap : Nat) (fv : Value) (w : World) :
    Calls Tryz.prog 280 #[.slice p 0 cap, .int .i64 0, .int .i64 0, fv] w fun e w' => e = .returned (.tuple #[]) ∧ w' = w := by
  go_enter Tryz.func280, Tryz.ntmps280
  go_wp2
  refine wp_loop_rounds 1 ?_
  rw [rounds_succ]
  go_wp2
  go_end0
  exact ⟨rfl, rfl⟩
set_option maxHeartbeats 1600000 in
set_option maxRecDepth 100000 in
theorem stFunc0_c (p : Option Addr) (cap : Nat) (fv : Value) (w : World) :
    Calls Tryz.prog 182 #[.slice p 0 cap, fv] w fun e w' => e = .returned (.tuple #[]) ∧ w' = w := by
  have hS : ∀ lim : Int, Calls Tryz.prog 236 #[.slice p 0 cap, .int .i64 0, .int .i64 0, .int .i64 lim, fv] w fun e w' => e = .returned (.tuple #[]) ∧ w' = w := by
    intro lim
    have hI := Lib.hid (stIns0_c p cap fv w)
    go_enter Tryz.func236, Tryz.ntmps236
    go_wp2
    refine wp_loop_rounds 1 ?_
    rw [rounds_succ]
    go_wp2_with fail
    refine hI.out.mono ?_; rintro e w' ⟨rfl, rfl⟩
    go_wp2
    (try simp only [Exit.inBlock, Exit.then]); refine bodyPost_ret (results_none rfl _ _ _) rfl ?_
    exact ⟨rfl, rfl⟩
  have hBi := Lib.hid (fun W => Tryz.bits_Len 0 W (by omega) (by omega))
  go_enter Tryz.func182, Tryz.ntmps182
  go_wp2_with fail
  refine (hBi.out _).mono ?_; rintro e w' ⟨rfl, rfl⟩
  go_wp2_with fail
  refine (hS _).mono ?_; rintro e w' ⟨rfl, rfl⟩
  go_wp2
  go_end0
  exact ⟨rfl, rfl⟩
theorem sortStarts_c (l : List Sp) (w : World) (base n : Nat) (u : Value) (hown : w.ownsRow base 129 3 u n (l.flatMap spE)) (hn : n ≤ 1000) :
    Calls Tryz.prog 178 #[u] w fun e w' => e = .returned (.tuple #[]) ∧ ∃ l', w'.ownsRow base 129 3 u n (l'.flatMap spE) ∧ SpSorted l l' ∧ w.grownBy w' u.ownBlock := by
  obtain ⟨A, c, rfl⟩ := own_shape hown
  have hlen := own_len spE_len (by decide) hown
  have hSF : Calls Tryz.prog 182 #[.slice A n c, .func (.func 223) #[] #[]] w fun e w' => e = .returned (.tuple #[]) ∧ ∃ l', w'.ownsRow base 129 3 (.slice A n c) n (l'.flatMap spE) ∧ SpSorted l l' ∧ w.grownBy w' (Value.slice A n c).ownBlock := by
    rcases Nat.eq_zero_or_pos n with h0 | hp
    · subst h0
      have hl : l = [] := List.eq_nil_of_length_eq_zero hlen
      subst hl
      refine (stFunc0_c A c _ w).mono ?_
      rintro e w' ⟨rfl, rfl⟩
      exact ⟨rfl, [], hown, ⟨List.Perm.refl _, List.Pairwise.nil⟩, grown_refl _ _⟩
    · obtain ⟨gb, rfl, hgb⟩ := own_someN hown hp
      have eg : ∀ args w, (callFunc 223 args).run Tryz.prog w = .ok (.enter 223 args) w := enters_of Tryz.func223 (by kernel_rfl) rfl
      have hH := holdsK_own spE 3 spE_len (by omega) hown
      have hsz : l.toArray.size = n := by simpa using hlen
      have hC : CmpLays Tryz.prog 223 #[] spE 3 spCf gb 0 l.toArray.size w := fun m os dk hdk x y => (compareStarts_c x y _).mono fun _ _ ⟨he, hB, hD⟩ => ⟨he, grow_of hB hD⟩
      have h := AnyQ.slices_SortFunc Tryz.laysQT 3 Tryz.isAgg129 Tryz.sizeOf129 spE spE_len (fun x v hv => by simp [spE] at hv; rcases hv with rfl | rfl | rfl <;> rfl) spCf spSWO 223 #[] gb 0 c l.toArray w eg hC hH (hown.lt gb rfl).2 (by rw [hsz]; omega)
      rw [hsz] at h
      refine h.mono ?_
      rintro e w' ⟨rfl, d', m, os, hP, hS, rfl⟩
      obtain ⟨p1, p2, p3⟩ := hP
      have hz : d'.toList.length = n := by rw [Array.length_toList, p1, hsz]
      obtain ⟨h1, h2⟩ := own_sortedK spE 3 spE_len (by omega) hown (l' := d'.toList) hz m os
      rw [Array.toArray_toList] at h1 h2
      refine ⟨rfl, d'.toList, h1, ⟨?_, ?_⟩, h2⟩
      · have e1 : d'.extract 0 n = d' := by rw [← hsz, ← p1]; exact Array.extract_size
        have e2 : l.toArray.extract 0 n = l.toArray := by rw [← hsz]; exact Array.extract_size
        rw [e1, e2] at p3
        exact p3
      · rw [List.pairwise_iff_getElem]
        intro i j hi hj hij
        have hj' : j < d'.size := by simpa using hj
        have h9 := hS i j (Nat.zero_le _) hij (by rw [p1, hsz] at hj'; exact hj')
        rw [getElem!_pos d' i (by omega), getElem!_pos d' j hj'] at h9
        exact h9
  have hSF' := Lib.hid hSF
  clear hSF hown
  go_enter Tryz.func178, Tryz.ntmps178
  go_wp2_with fail
  refine hSF'.out.mono ?_; rintro e w' ⟨rfl, l', h1, h2, h3⟩
  go_wp2
  go_end0
  exact ⟨rfl, l', h1, h2, h3⟩
end Go.Proofs.YtcmfgmdkdpadjaaGreatDoor

/- heat.starts and heat.FinalStarts: who swims where. -/
namespace Go.Proofs.YtcmfgmdkdpadjaaGreatDoor
open Go.RowKit
set_option linter.unusedVariables false

/-- a slice of names that lies in a row -/
structure Hn where
  A : Option Addr
  n : Nat
  c : Nat
  l : List ByteArray
def hnE (x : Hn) : List Value := [.slice x.A x.n x.c]
theorem hnE_len : ∀ x, (hnE x).length = 1 := fun _ => rfl
def RHn (w : World) (A : Option Addr) (n : Nat) (H : List Hn) : Prop := RN 1 hnE 56 w A n H ∧ ∀ x ∈ H, RS 9 w x.A x.n x.l
theorem RHn.below {w w' : World} {A : Option Addr} {n : Nat} {H : List Hn} (h : RHn w A n H) (B : Below w.heap.size w w') : RHn w' A n H := ⟨h.1.below B, fun x hx => (h.2 x hx).below B⟩
theorem RHn_at {w : World} {A : Option Addr} {n : Nat} {H : List Hn} (h : RHn w A n H) {k : Nat} (hk : k < n) : ∃ b off x, A = some ⟨b, off, none⟩ ∧ H[k]? = some x ∧ w.cell? ⟨b, off + k * 1, none⟩ = some (.slice x.A x.n x.c) ∧ RS 9 w x.A x.n x.l := by
  obtain ⟨b, off, x, hA, hb, hx, hc⟩ := h.1.at_ hk
  exact ⟨b, off, x, hA, hx, hc 0 _ rfl, h.2 x (List.mem_of_getElem? hx)⟩
def stIn (LV : List Int) (h : Int) : Nat → List ByteArray → List Sp
  | _, [] => []
  | j, s :: r => ⟨s, h, LV.getD j 0⟩ :: stIn LV h (j + 1) r
def stOut (LV : List Int) : Nat → List (List ByteArray) → List Sp
  | _, [] => []
  | i, l :: r => stIn LV ((i : Int) + 1) 0 l ++ stOut LV (i + 1) r
theorem stIn_at {LV : List Int} {h : Int} {l : List ByteArray} {k : Nat} {s : ByteArray} (hx : l[k]? = some s) : stIn LV h k (l.drop k) = ⟨s, h, LV.getD k 0⟩ :: stIn LV h (k + 1) (l.drop (k + 1)) := by rw [drop_at hx]; rfl
theorem stOut_at {LV : List Int} {H : List Hn} {k : Nat} {x : Hn} (hx : H[k]? = some x) : stOut LV k ((H.drop k).map Hn.l) = stIn LV ((k : Int) + 1) 0 x.l ++ stOut LV (k + 1) ((H.drop (k + 1)).map Hn.l) := by rw [drop_at hx]; rfl
theorem flat_snocS (l : List Sp) (x : Sp) : (l ++ [x]).flatMap spE = l.flatMap spE ++ spE x := by rw [List.flatMap_append]; simp
structure SO (w : World) (u : Value) (acc : List Sp) (wx : World) : Prop where
  own : wx.ownsRow w.heap.size 129 3 u acc.length (acc.flatMap spE)
  bel : Below w.heap.size w wx
section
variable {w wx w' : World} {u v' : Value} {acc : List Sp} {x : Sp}
theorem SO.app (h : SO w u acc wx) (ho : w'.ownsRow w.heap.size 129 3 v' (acc.length + 1) (acc.flatMap spE ++ spE x)) (hg : wx.grownBy w' u.ownBlock) : SO w v' (acc ++ [x]) w' :=
  ⟨by rw [flat_snocS, List.length_append]; exact ho, below_own h.bel h.own hg h.bel.size (Nat.le_refl _)⟩
theorem SO.start (w : World) : SO w (.slice none 0 0) [] w := ⟨World.ownsRow_nil _ _ _ _, Below.refl _ _⟩
end
set_option maxHeartbeats 6400000 in
set_option maxRecDepth 100000 in
theorem starts_c (p : Pl) (hp : PlOk p) (A : Option Addr) (n c : Nat) (H : List Hn) (w : World) (h : RHn w A n H) (hn : n ≤ 60) (hl : ∀ x ∈ H, (x.l.length : Int) ≤ p.hi - p.lo + 1) :
    Calls Tryz.prog 153 #[p.val, .slice A n c] w fun e w' => ∃ A' n' c' D, e = .returned (.slice A' n' c') ∧ RSp w' A' n' D ∧ SpSorted (stOut (laneV p.lo p.hi) 0 (H.map Hn.l)) D ∧ Below w.heap.size w w' := by
  have hLa := Lib.hid (fun W => lanesOfP_c p hp W)
  have hLl := laneV_len hp.1.2
  have hP0 : PoolB w.heap.size p (w.alloc (.cells p.cells 52)) := heap_alloc_new w _
  have hB0 := below_new w (.cells p.cells 52)
  have hPa := Lib.hid (fun v (h : PoolB w.heap.size p v) => h.at_)
  have hR := Lib.hid (fun W B => h.below (w' := W) B)
  have hHl := Lib.hid h.1.len
  have hll := Lib.hid (fun x (hx : x ∈ H) => show (x.l.length : Int) ≤ (laneV p.lo p.hi).length by rw [hLl]; exact hl x hx)
  have hL10 : ((laneV p.lo p.hi).length : Int) ≤ 10 := by rw [hLl]; have := hp.2.1; have := hp.1.1; omega
  have hSo := Lib.hid (fun k x (hx : H[k]? = some x) => stOut_at (LV := laneV p.lo p.hi) hx)
  have hSi := Lib.hid (fun (x : Hn) h k s (hx : x.l[k]? = some s) => stIn_at (LV := laneV p.lo p.hi) (h := h) hx)
  have hSz := Lib.hid (fun h k => show stIn (laneV p.lo p.hi) h k [] = [] from rfl)
  have hOz := Lib.hid (fun k => show stOut (laneV p.lo p.hi) k (([] : List Hn).map Hn.l) = [] from rfl)
  clear h hl hLl
  obtain ⟨lo, hi, le, ci⟩ := p
  dsimp only [Pl.val, Pl.cells] at *
  clear hp
  generalize laneV lo hi = LV at *
  generalize stIn LV = SI at *
  generalize stOut LV = SU at *
  obtain ⟨z0, z1, z2, z3⟩ := hPa.out _ hP0
  go_enter Tryz.func153, Tryz.ntmps153
  go_wp2_with fail
  refine (hLa.out _).mono ?_; rintro e w1 ⟨AL, nL, cL, rfl, hoL, hlL, B1⟩
  have hRL : RI 3 w1 AL nL LV := R1.of_own hoL (by omega)
  have hB1 := below_next hB0 B1
  have hRb := Lib.hid (fun W B => hRL.below (w' := W) B)
  have hR1 := Lib.hid (fun W (B : Below w1.heap.size w1 W) => hR.out W (below_next hB1 B))
  clear hLa hP0 hB0 hPa hR hoL hRL B1 z0 z1 z2 z3
  go_wp2_with fail
  go_loopw [6, 15] (fun u i wr => ∃ (k : Nat) (acc : List Sp), k ≤ n ∧ i = .int .i64 k ∧ acc.length ≤ 10 * k ∧ SO w1 u acc wr ∧ Hid (acc ++ SU k ((H.drop k).map Hn.l) = SU 0 (H.map Hn.l))) (fun _ i _ => n - (intOf i).toNat)
  case atStart => exact ⟨0, [], Nat.zero_le _, rfl, Nat.zero_le _, SO.start w1, Lib.hid rfl⟩
  case round =>
    obtain ⟨k, acc0, hk, rfl, hal0, K, hG⟩ := hrel
    by_cases hlt : k < n
    · obtain ⟨b, off, x, rfl, hx, c0, hIx⟩ := RHn_at (hR1.out _ K.bel) hlt
      rw [Nat.mul_one] at c0
      have hG2 := Lib.hid (show acc0 ++ (SI ((k : Int) + 1) 0 x.l ++ SU (k + 1) ((H.drop (k + 1)).map Hn.l)) = SU 0 (H.map Hn.l) by rw [← hG.out, hSo.out k x hx])
      have hxl := hll.out x (List.mem_of_getElem? hx)
      have hnl := hIx.len
      have hSx := Lib.hid (fun h j s hs => hSi.out x h j s hs)
      obtain ⟨xA, xn, xc, xl⟩ := x
      dsimp only at *
      have hz := K.bel.size
      clear hx hG
      go_wp2_with fail
      clear c0
      go_loopw [6, 22] (fun u i wx => ∃ (j : Nat) (acc : List Sp), j ≤ xn ∧ i = .int .i64 j ∧ acc.length ≤ 10 * k + j ∧ SO w1 u acc wx ∧ RS 9 wx xA xn xl ∧ Hid (acc ++ (SI ((k : Int) + 1) j (xl.drop j) ++ SU (k + 1) ((H.drop (k + 1)).map Hn.l)) = SU 0 (H.map Hn.l))) (fun _ i _ => xn - (intOf i).toNat)
      case atStart => exact ⟨0, acc0, Nat.zero_le _, rfl, by omega, K, hIx, hG2⟩
      case round =>
        clear K hG2 hIx
        rename World => wx
        obtain ⟨j, acc, hj, rfl, hal, K, hBx, hG⟩ := hrel
        obtain ⟨Ao, co, rfl⟩ := own_shape K.own
        by_cases hlt2 : j < xn
        · obtain ⟨bs, os, s, hA, hbs, hs, cs⟩ := hBx.at_ hlt2
          subst hA
          obtain ⟨bl, ol, lv, hAl, _, hlv, cl⟩ := (hRb.out _ K.bel).at_ (k := j) (by omega)
          subst hAl
          have hget : LV.getD j 0 = lv := getD_of hlv
          have hG2 := Lib.hid (show (acc ++ [⟨s, (k : Int) + 1, lv⟩]) ++ (SI ((k : Int) + 1) (j + 1) (xl.drop (j + 1)) ++ SU (k + 1) ((H.drop (k + 1)).map Hn.l)) = SU 0 (H.map Hn.l) by rw [← hG.out, hSx.out _ j s hs, hget, List.append_assoc]; rfl)
          have hown := K.own
          have hsz := K.bel.size
          have hA := Lib.hid (fun v' w' ho hg => K.app (v' := v') (x := ⟨s, (k : Int) + 1, lv⟩) (w' := w') ho hg)
          have hIk := Lib.hid (fun w' (hg : wx.grownBy w' (Value.slice Ao acc.length co).ownBlock) => show RS 9 w' (some ⟨bs, os, none⟩) xn xl from hBx.keep (T := 129) (by decide) (keep_of_app hown hg))
          have l0 : (0 : Int) ≤ (j : Int) := by omega
          have l1 : (j : Int) < (nL : Int) := by omega
          have e1 : IntKind.i64.wrap ((k : Int) + 1) = (k : Int) + 1 := IntWalk.i64_in _ (by omega)
          clear hG hs hlv hget
          go_wp2_with (at_builtin; refine wpList_app rfl (.tmp 27) (.tmp 36) 90 rfl Tryz.underlying90 info_start rfl (by omega) (by omega) hown rfl rfl (by first | rfl | (simp; done)) (by rfl) (by simp [Value.oneCell']) (by omega) hsz ?_; intro v6 w6 hown6 hg6)
          have K6 := hA.out v6 w6 hown6 hg6
          have hI6 := hIk.out w6 hg6
          clear hown6 hg6 hown hA hIk cs cl K
          go_roundw
          case rel => exact ⟨j + 1, acc ++ [⟨s, (k : Int) + 1, lv⟩], by omega, by go_num, by rw [List.length_append]; simp; omega, K6, hI6, hG2⟩
          case measure => simp [intOf]; omega
        · obtain rfl : j = xn := by omega
          have hG3 := Lib.hid (show acc ++ SU (k + 1) ((H.drop (k + 1)).map Hn.l) = SU 0 (H.map Hn.l) by have h := hG.out; rw [drop_end (by rw [hnl]; exact Nat.le_refl _), hSz.out, List.nil_append] at h; exact h)
          clear hG
          go_wp2
          go_roundw
          case rel => exact ⟨k + 1, acc, by omega, by go_num, by omega, K, hG3⟩
          case measure => simp [intOf]; omega
    · obtain rfl : k = n := by omega
      have hfin : acc0 = SU 0 (H.map Hn.l) := by have h := hG.out; rw [drop_end (by rw [hHl.out]; exact Nat.le_refl _), hOz.out, List.append_nil] at h; exact h
      obtain ⟨Ao, co, rfl⟩ := own_shape K.own
      have hSS := Lib.hid (sortStarts_c acc0 _ _ _ _ K.own (by omega))
      have hbe := Lib.hid (fun w' (hg : wr.grownBy w' (Value.slice Ao acc0.length co).ownBlock) => below_next hB1 (below_own K.bel K.own hg K.bel.size (Nat.le_refl _)))
      rw [hfin] at hSS
      clear K hG
      rw [hfin] at hbe ⊢
      go_wp2_with fail
      refine hSS.out.mono ?_; rintro e w7 ⟨rfl, D, hoD, hsD, hgD⟩
      have hBf := hbe.out _ hgD
      have hRD : RSp w7 Ao _ D := RN.of_own spE_len hoD (own_len spE_len (by decide) hoD) (by rw [← hfin]; omega)
      clear hoD hgD hSS hbe
      go_wp2
      go_ret
      exact ⟨Ao, _, co, D, rfl, hRD, hsD, hBf⟩
end Go.Proofs.YtcmfgmdkdpadjaaGreatDoor

/- heat.FinalStarts of right finals. -/
namespace Go.Proofs.YtcmfgmdkdpadjaaGreatDoor
open Go.RowKit
set_option linter.unusedVariables false

theorem info_strs : (Tryz.prog.info? 56).map (fun i => (i.zero, i.size, i.bytes)) = some (some (.slice none 0 0), 1, 24) := by kernel_rfl
/-- who swims a final, and the finals from the last one on -/
def nmF (P : List Pc) (v : Int) : List ByteArray := (P.filter fun y => decide (y.fin = v)).map Pc.who
def heatsV (P : List Pc) : Nat → List (List ByteArray)
  | 0 => []
  | k + 1 => (if nmF P ((k : Int) + 1) = [] then [] else [nmF P ((k : Int) + 1)]) ++ heatsV P k
theorem nmF_snoc (P : List Pc) (v : Int) (y : Pc) : nmF (P ++ [y]) v = nmF P v ++ if y.fin = v then [y.who] else [] := by
  unfold nmF
  rw [List.filter_append, List.map_append]
  congr 1
  by_cases h : y.fin = v <;> simp [h]
theorem nmF_len {f : Fl} (hf : FlOk f) {P : List Pc} (hok : PlsOk f P) {v : Int} (hv : 1 ≤ v) : ((nmF P v).length : Int) ≤ f.sz := by
  have h1 : ∀ m : Nat, (cntF v (P.take m) : Int) ≤ f.sz := by
    intro m
    induction m with
    | zero => have := hf.1.1; show ((0 : Nat) : Int) ≤ _; omega
    | succ m ih =>
      cases hm : P[m]? with
      | none => rw [List.take_add_one, hm]; show (cntF v (P.take m ++ []) : Int) ≤ _; rw [List.append_nil]; exact ih
      | some x =>
        by_cases he : x.fin = v
        · have := hok.cnt m x hm (by omega)
          rw [he] at this
          exact this
        · rw [List.take_add_one, hm]
          show (cntF v (P.take m ++ [x]) : Int) ≤ _
          rw [cntF_snoc, if_neg he]
          exact ih
  have h2 := h1 P.length
  rw [List.take_of_length_le (Nat.le_refl _)] at h2
  unfold nmF
  rw [List.length_map]
  exact h2
theorem heatsV_mem (P : List Pc) : ∀ (k : Nat) (l : List ByteArray), l ∈ heatsV P k → ∃ v : Int, 1 ≤ v ∧ v ≤ k ∧ l = nmF P v ∧ l ≠ []
  | 0, l, h => by simp [heatsV] at h
  | k + 1, l, h => by
    unfold heatsV at h
    rcases List.mem_append.1 h with h | h
    · split at h
      · cases h
      · rename_i hne
        simp at h
        exact ⟨(k : Int) + 1, by omega, by push_cast; omega, h, by rw [h]; exact hne⟩
    · obtain ⟨v, h1, h2, h3, h4⟩ := heatsV_mem P k l h
      exact ⟨v, h1, by push_cast; omega, h3, h4⟩
theorem flat_snocH (l : List Hn) (x : Hn) : (l ++ [x]).flatMap hnE = l.flatMap hnE ++ hnE x := by rw [List.flatMap_append]; simp
structure HS (w : World) (p : Pl) (f : Fl) (u : Value) (acc : List Hn) (wx : World) : Prop where
  own : wx.ownsRow (w.heap.size + 2) 56 1 u acc.length (acc.flatMap hnE)
  inn : ∀ x ∈ acc, RS 9 wx x.A x.n x.l
  pb : PoolB w.heap.size p wx
  fb : FinB (w.heap.size + 1) f wx
  bel : Below w.heap.size w wx
  siz : w.heap.size + 2 ≤ wx.heap.size
section
variable {w wx w' : World} {p : Pl} {f : Fl} {u v' : Value} {acc : List Hn} {x : Hn}
theorem HS.below (h : HS w p f u acc wx) (B : Below wx.heap.size wx w') : HS w p f u acc w' := ⟨own_below h.own B, fun x hx => (h.inn x hx).below B, h.pb.keep _ _ B, h.fb.keep _ _ B, below_next h.bel B, Nat.le_trans h.siz B.size⟩
theorem HS.app (h : HS w p f u acc wx) (hx : RS 9 wx x.A x.n x.l) (ho : w'.ownsRow (w.heap.size + 2) 56 1 v' (acc.length + 1) (acc.flatMap hnE ++ hnE x)) (hg : wx.grownBy w' u.ownBlock) : HS w p f v' (acc ++ [x]) w' := by
  have hk : Keep 56 wx w' := keep_of_app h.own hg
  refine ⟨by rw [flat_snocH, List.length_append]; exact ho, fun y hy => ?_, blk_grown h.pb hg (fun e => by have := own_row_lt h.own _ e.symm; omega), blk_grown h.fb hg (fun e => by have := own_row_lt h.own _ e.symm; omega), below_own h.bel h.own hg h.bel.size (by omega), Nat.le_trans h.siz hg.size⟩
  rcases List.mem_append.1 hy with hy | hy
  · exact (h.inn y hy).keep (by decide) hk
  · simp at hy; subst hy; exact hx.keep (by decide) hk
end
def RetFs (w : World) (p : Pl) (f : Fl) (P : List Pc) (e : Ending) (w' : World) : Prop := ∃ A' n' c' D E, e = .returned (.tuple #[.slice A' n' c', .int .i64 E]) ∧ RSp w' A' n' D ∧ ((p.hi - p.lo + 1 < f.sz ∧ E = 12) ∨ (f.sz ≤ p.hi - p.lo + 1 ∧ E = 0 ∧ SpSorted (stOut (laneV p.lo p.hi) 0 (heatsV P f.mn.toNat)) D)) ∧ Below w.heap.size w w'
set_option maxHeartbeats 6400000 in
set_option maxRecDepth 100000 in
theorem finalStarts_c (p : Pl) (hp : PlOk p) (hpb : PlBd p) (f : Fl) (hf : FlOk f) (A : Option Addr) (n c : Nat) (P : List Pc) (hok : PlsOk f P) (w : World) (h : RPc w A n P) :
    Calls Tryz.prog 61 #[p.val, f.val, .slice A n c] w (RetFs w p f P) := by
  have hCP := Lib.hid (fun W => checkPool_c p hpb W)
  rw [show poolErr p = 0 from if_pos hp] at hCP
  have hCF := Lib.hid (fun W => checkFinal_c f W)
  rw [show finErr f = 0 from if_pos hf] at hCF
  have hCL := Lib.hid (fun W h => checkPlacesOk_c f hf A n c P hok W h)
  have hSt := Lib.hid (fun A n c H W h hn hl => starts_c p hp A n c H W h hn hl)
  have hnl := Lib.hid (fun v (hv : 1 ≤ v) => nmF_len hf hok hv)
  have hhm := Lib.hid (fun k l h => heatsV_mem P k l h)
  have hH0 := Lib.hid (show heatsV P 0 = [] from rfl)
  have hH1 := Lib.hid (fun (k : Nat) => show heatsV P (k + 1) = (if nmF P ((k : Int) + 1) = [] then [] else [nmF P ((k : Int) + 1)]) ++ heatsV P k from rfl)
  have hR := Lib.hid (fun W B => h.below (w' := W) B)
  have hn : n ≤ 300 := by have := hok.big; rw [h.len] at this; exact this
  have hNs := Lib.hid (fun v k (y : Pc) (hy : P[k]? = some y) => show nmF (P.take (k + 1)) v = nmF (P.take k) v ++ if y.fin = v then [y.who] else [] by rw [List.take_add_one, hy]; exact nmF_snoc _ _ _)
  have hNt := Lib.hid (fun v => show nmF (P.take n) v = nmF P v by rw [List.take_of_length_le (by rw [h.len]; exact Nat.le_refl _)])
  have hNl := Lib.hid (fun v k => show (nmF (P.take k) v).length ≤ k from by unfold nmF; rw [List.length_map]; have := List.length_filter_le (fun y : Pc => decide (y.fin = v)) (P.take k); rw [List.length_take] at this; omega)
  have hP1 : PoolB w.heap.size p ((w.alloc (.cells p.cells 52)).alloc (.cells f.cells 66)) := PoolB.keep _ _ (heap_alloc_new w _) (below_new _ _)
  have hF1 : FinB (w.heap.size + 1) f ((w.alloc (.cells p.cells 52)).alloc (.cells f.cells 66)) := by
    have := heap_alloc_new (w.alloc (.cells p.cells 52)) (.cells f.cells 66)
    rw [alloc_size] at this
    exact this
  have K0 : HS w p f (.slice none 0 0) [] ((w.alloc (.cells p.cells 52)).alloc (.cells f.cells 66)) := ⟨World.ownsRow_nil _ _ _ _, fun x hx => (by cases hx), hP1, hF1, (below_new w _).alloc (by simp) _, by simp⟩
  have hKp := Lib.hid (fun u acc v (h : HS w p f u acc v) => h.pb.at_)
  have hKf := Lib.hid (fun u acc v (h : HS w p f u acc v) => h.fb.at_)
  obtain ⟨⟨p0, p1⟩, p2, _⟩ := hp
  obtain ⟨⟨f0, f1⟩, ⟨f2, f3⟩, _⟩ := hf
  clear hP1 hF1 hok h hpb
  unfold RetFs
  obtain ⟨lo, hi, le, ci⟩ := p
  obtain ⟨sz, mn, rs⟩ := f
  dsimp only [Pl.val, Pl.cells, Fl.val, Fl.cells] at *
  have w1' : IntKind.i64.wrap (hi - lo) = hi - lo := IntWalk.i64_in _ (by omega)
  have w2' : IntKind.i64.wrap (hi - lo + 1) = hi - lo + 1 := IntWalk.i64_in _ (by omega)
  obtain ⟨y0, y1, y2, y3⟩ := hKp.out _ _ _ K0
  obtain ⟨z0, z1, z2⟩ := hKf.out _ _ _ K0
  go_enter Tryz.func61, Tryz.ntmps61
  go_wp2_with fail
  refine (hCP.out _).mono ?_; rintro e w2 ⟨rfl, B2⟩
  replace K0 := K0.below B2
  clear hCP B2 y0 y1 y2 y3 z0 z1 z2
  obtain ⟨y0, y1, y2, y3⟩ := hKp.out _ _ _ K0
  obtain ⟨z0, z1, z2⟩ := hKf.out _ _ _ K0
  go_wp2_with fail
  refine (hCF.out _).mono ?_; rintro e w3 ⟨rfl, B3⟩
  replace K0 := K0.below B3
  clear hCF B3 y0 y1 y2 y3 z0 z1 z2
  obtain ⟨y0, y1, y2, y3⟩ := hKp.out _ _ _ K0
  obtain ⟨z0, z1, z2⟩ := hKf.out _ _ _ K0
  go_wp2_with fail
  refine (hCL.out _ (hR.out _ K0.bel)).mono ?_; rintro e w4 ⟨rfl, B4⟩
  replace K0 := K0.below B4
  clear hCL B4 y0 y1 y2 y3 z0 z1 z2
  obtain ⟨y0, y1, y2, y3⟩ := hKp.out _ _ _ K0
  obtain ⟨z0, z1, z2⟩ := hKf.out _ _ _ K0
  by_cases hfull : hi - lo + 1 < sz
  · have hbel := K0.bel
    clear hSt hnl hhm hH0 hH1 hNs hNt hNl
    go_wp2
    go_ret2
    exact ⟨none, 0, 0, [], 12, rfl, RN.nil_ _ _ _ _ _, .inl ⟨hfull, rfl⟩, hbel⟩
  obtain ⟨m, rfl⟩ : ∃ m : Nat, mn = (m : Int) := ⟨mn.toNat, by omega⟩
  have hmt := Lib.hid (show ((m : Int)).toNat = m from by omega)
  go_wp2_with fail
  go_loopw [11, 12] (fun u kv wr => ∃ (k : Nat) (acc : List Hn), k ≤ m ∧ kv = .int .i64 k ∧ acc.length + k ≤ m ∧ HS w ⟨lo, hi, le, ci⟩ ⟨sz, m, rs⟩ u acc wr ∧ Hid (acc.map Hn.l ++ heatsV P k = heatsV P m)) (fun _ kv _ => (intOf kv).toNat)
  case atStart => exact ⟨m, [], Nat.le_refl _, rfl, by simp, K0, Lib.hid rfl⟩
  case round =>
    clear K0 y0 y1 y2 y3 z0 z1 z2
    obtain ⟨k, acc, hk, rfl, hal, K, hG⟩ := hrel
    obtain ⟨Au, cu, rfl⟩ := own_shape K.own
    rcases Nat.eq_zero_or_pos k with h0 | h0
    · subst h0
      have hHm : acc.map Hn.l = heatsV P m := by have h := hG.out; rw [hH0.out, List.append_nil] at h; exact h
      obtain ⟨y0, y1, y2, y3⟩ := hKp.out _ _ _ K
      have hRH : RHn wr Au acc.length acc := ⟨RN.of_own hnE_len K.own rfl (by omega), K.inn⟩
      have hS := Lib.hid (hSt.out Au acc.length cu acc wr hRH (by omega) (fun x hx => by
        have h1 : x.l ∈ heatsV P m := by rw [← hHm]; exact List.mem_map_of_mem hx
        obtain ⟨v, hv1, hv2, hv3, hv4⟩ := hhm.out m x.l h1
        have := hnl.out v hv1
        rw [← hv3] at this
        omega))
      rw [hHm] at hS
      have hbel := K.bel
      clear K hRH hG hHm hSt hnl hhm hH0 hH1 hNs hNt hNl
      go_wp2_with fail
      refine hS.out.mono ?_; rintro e w7 ⟨A7, n7, c7, D, rfl, hRD, hsD, B7⟩
      have hB7 := below_next hbel B7
      have hsD' := Lib.hid hsD
      clear hS hsD B7
      go_wp2
      go_ret2
      exact ⟨A7, n7, c7, D, 0, rfl, hRD, .inr ⟨by omega, rfl, by rw [hmt.out]; exact hsD'.out⟩, hB7⟩
    · obtain ⟨k, rfl⟩ : ∃ j, k = j + 1 := ⟨k - 1, by omega⟩
      have hG2 := Lib.hid (show acc.map Hn.l ++ ((if nmF P ((k : Int) + 1) = [] then [] else [nmF P ((k : Int) + 1)]) ++ heatsV P k) = heatsV P m by rw [← hH1.out]; exact hG.out)
      have q1 : (1 : Int) ≤ ((k + 1 : Nat) : Int) := by omega
      have hkc : ((k + 1 : Nat) : Int) = (k : Int) + 1 := by push_cast; rfl
      clear hG
      have hz0 := K.bel
      have hz1 := K.siz
      have hRw := Lib.hid (fun W (B : Below wr.heap.size wr W) => hR.out W (below_next hz0 B))
      go_wp2_with fail
      go_loopw [13, 49] (fun u i wx => ∃ j : Nat, j ≤ n ∧ i = .int .i64 j ∧ NL wr u (nmF (P.take j) ((k : Int) + 1)) wx) (fun _ i _ => n - (intOf i).toNat)
      case atStart => exact ⟨0, Nat.zero_le _, rfl, NL.start wr⟩
      case round =>
        rename World => wx
        obtain ⟨j, hj, rfl, N⟩ := hrel
        obtain ⟨Ao, co, rfl⟩ := own_shape N.own
        have hnj := hNl.out ((k : Int) + 1) j
        by_cases hlt : j < n
        · obtain ⟨b, off, y, rfl, hbl, hy, c0, c1, c2⟩ := RPc_at3 (hRw.out _ N.bel) hlt
          have hs := Lib.hid (hNs.out ((k : Int) + 1) j y hy)
          obtain ⟨who, fin, rk⟩ := y
          dsimp only at *
          have N5 := N.below (below_new wx (.cells #[.string who, .int .i64 fin, .int .i64 rk] 79))
          have x0 := (blk_facts (heap_alloc_new wx (.cells #[.string who, .int .i64 fin, .int .i64 rk] 79))).1 0
          have x1 := (blk_facts (heap_alloc_new wx (.cells #[.string who, .int .i64 fin, .int .i64 rk] 79))).1 1
          have hown := N5.own
          have hsz := N5.bel.size
          have hA := Lib.hid (fun v' w' ho hg => N5.app (v' := v') (x := who) (w' := w') ho hg)
          clear hy N
          by_cases hq : fin = (k : Int) + 1
          · have hs2 := Lib.hid (show nmF (P.take (j + 1)) ((k : Int) + 1) = nmF (P.take j) ((k : Int) + 1) ++ [who] by rw [hs.out, if_pos hq])
            subst hq
            clear hs
            generalize nmF (P.take j) ((k : Int) + 1) = NF at *
            go_wp2_with (at_builtin; refine wpList_app rfl (.tmp 57) (.tmp 60) 56 rfl Tryz.underlying56 info_strS rfl (by omega) (by omega) hown rfl rfl (by first | rfl | (simp; done)) (by rfl) (by simp [Value.oneCell']) (by omega) hsz ?_; intro v6 w6 hown6 hg6)
            have N6 := hA.out v6 w6 hown6 hg6
            clear hown6 hg6 hown hA N5 x0 x1 c0 c1 c2
            go_roundw
            case rel => exact ⟨v6, _, .int .i64 ((j + 1 : Nat) : Int), ⟨j + 1, by omega, rfl, by rw [hs2.out]; exact N6⟩, rfl, rfl, by go_num⟩
            case measure => simp [intOf]; omega
          · have hs2 := Lib.hid (show nmF (P.take (j + 1)) ((k : Int) + 1) = nmF (P.take j) ((k : Int) + 1) by rw [hs.out, if_neg hq, List.append_nil])
            have e1 : (fin == (k : Int) + 1) = false := beq_eq_false_iff_ne.2 hq
            clear hs hq hown hA
            go_wp2
            go_roundw
            case rel => exact ⟨j + 1, by omega, by go_num, by rw [hs2.out]; exact N5⟩
            case measure => simp [intOf]; omega
        · obtain rfl : j = n := by omega
          have hNf := hNt.out ((k : Int) + 1)
          rw [hNf] at N hnj ⊢
          have K5 := K.below N.bel
          have hrs : RS 9 wx Ao (nmF P ((k : Int) + 1)).length (nmF P ((k : Int) + 1)) := RS.of_own N.own (by omega)
          clear N hNf K
          generalize nmF P ((k : Int) + 1) = NF at *
          by_cases hne : NF = []
          · have hG3 := Lib.hid (show acc.map Hn.l ++ heatsV P k = heatsV P m by have h := hG2.out; rw [if_pos hne, List.nil_append] at h; exact h)
            subst hne
            clear hG2
            go_wp2
            go_roundw
            case rel => exact ⟨k, acc, by omega, by first | rfl | go_num, by omega, K5, hG3⟩
            case measure => simp [intOf] <;> omega
          · have hG3 := Lib.hid (show (acc ++ [(⟨Ao, NF.length, co, NF⟩ : Hn)]).map Hn.l ++ heatsV P k = heatsV P m by have h := hG2.out; rw [if_neg hne] at h; rw [List.map_append, List.append_assoc]; exact h)
            have hpos : 0 < NF.length := List.length_pos_iff.2 hne
            have hpi : (0 : Int) < (NF.length : Int) := by omega
            have hown := K5.own
            have hsz := K5.siz
            have hA := Lib.hid (fun v' w' ho hg => K5.app (x := ⟨Ao, NF.length, co, NF⟩) (v' := v') (w' := w') hrs ho hg)
            clear hG2 hne
            go_wp2_with (at_builtin; refine wpList_app rfl (.tmp 66) (.tmp 68) 73 rfl Tryz.underlying73 info_strs rfl (by omega) (by omega) hown rfl rfl (by first | rfl | (simp; done)) (by rfl) (by simp [Value.oneCell']) (by omega) hsz ?_; intro v6 w6 hown6 hg6)
            have K6 := hA.out v6 w6 hown6 hg6
            clear hown6 hg6 hown hA K5
            go_roundw
            case rel => exact ⟨k, acc ++ [⟨Ao, NF.length, co, NF⟩], by omega, by first | rfl | go_num, by rw [List.length_append]; simp; omega, K6, hG3⟩
            case measure => simp [intOf] <;> omega
end Go.Proofs.YtcmfgmdkdpadjaaGreatDoor
