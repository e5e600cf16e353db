import Derived.Test.YtklggnglaeagpaaGreatDoorPStartC
import Derived.Test.YtklggnglaeagpaaGreatDoorSortH
import Derived.Test.YtklggnglaeagpaaGreatDoorPOrdC
import Derived.Shelf.SlSortCmp.WholeK
/- heat.sortStarts: slices.SortFunc of starts, any number: a permutation, ascending. -/
namespace Go.Proofs.YtklggnglaeagpaaGreatDoor
open Go.RowKit Go.Shelf Go.Lib Go.Sort
set_option linter.unusedVariables false

theorem spLt_iff (x y : Sp) : ltOf spCf x y = true ↔ x.heat < y.heat ∨ (x.heat = y.heat ∧ x.lane < y.lane) := by
  have e : ltOf spCf x y = decide (spCf x y < 0) := rfl
  rw [e, decide_eq_true_iff, spCf_val]
  have h1 := @cmpI_neg x.heat y.heat
  have h2 := @cmpI_zero x.heat y.heat
  have h3 := @cmpI_neg x.lane y.lane
  have h4 := cmp3' x.heat y.heat
  have h5 := cmp3' x.lane y.lane
  split <;> omega
theorem spLt_no (x y : Sp) : ltOf spCf x y = false ↔ ¬ (x.heat < y.heat ∨ (x.heat = y.heat ∧ x.lane < y.lane)) := by
  rw [← spLt_iff, Bool.not_eq_true]
theorem spSWO : SWO (ltOf spCf) := by
  refine ⟨fun x => ?_, fun x y z => ?_, fun x y z => ?_⟩
  · rw [spLt_no]; omega
  · rw [spLt_iff, spLt_iff, spLt_iff]; omega
  · rw [spLt_no, spLt_no, spLt_no]; omega
/-- sorted as starts are -/
def SpSorted (l l' : List Sp) : Prop := l'.Perm l ∧ l'.Pairwise fun x y => ltOf spCf y x = false
theorem stIns0_c (p : Option Addr) (cap : Nat) (fv : Value) (w : World) :
    Calls Tryz.prog 351 #[.slice p 0 cap, .int .i64 0, .int .i64 0, fv] w fun e w' => e = .returned (.tuple #[]) ∧ w' = w := by
  go_enter Tryz.func351, Tryz.ntmps351
  go_wp2
  refine wp_loop_rounds 1 ?_
  rw [rounds_succ]
  go_wp2
  go_end0
  exact ⟨rfl, rfl⟩
set_option maxHeartbeats 1600000 in
set_option maxRecDepth 100000 in
theorem stFunc0_c (p : Option Addr) (cap : Nat) (fv : Value) (w : World) :
    Calls Tryz.prog 202 #[.slice p 0 cap, fv] w fun e w' => e = .returned (.tuple #[]) ∧ w' = w := by
  have hS : ∀ lim : Int, Calls Tryz.prog 274 #[.slice p 0 cap, .int .i64 0, .int .i64 0, .int .i64 lim, fv] w fun e w' => e = .returned (.tuple #[]) ∧ w' = w := by
    intro lim
    have hI := Lib.hid (stIns0_c p cap fv w)
    go_enter Tryz.func274, Tryz.ntmps274
    go_wp2
    refine wp_loop_rounds 1 ?_
    rw [rounds_succ]
    go_wp2_with fail
    refine hI.out.mono ?_; rintro e w' ⟨rfl, rfl⟩
    go_wp2
    (try simp only [Exit.inBlock, Exit.then]); refine bodyPost_ret (results_none rfl _ _ _) rfl ?_
    exact ⟨rfl, rfl⟩
  have hBi := Lib.hid (fun W => Tryz.bits_Len 0 W (by omega) (by omega))
  go_enter Tryz.func202, Tryz.ntmps202
  go_wp2_with fail
  refine (hBi.out _).mono ?_; rintro e w' ⟨rfl, rfl⟩
  go_wp2_with fail
  refine (hS _).mono ?_; rintro e w' ⟨rfl, rfl⟩
  go_wp2
  go_end0
  exact ⟨rfl, rfl⟩
theorem sortStarts_c (l : List Sp) (w : World) (base n : Nat) (u : Value) (hown : w.ownsRow base 153 3 u n (l.flatMap spE)) (hn : n ≤ 1000) :
    Calls Tryz.prog 273 #[u] w fun e w' => e = .returned (.tuple #[]) ∧ ∃ l', w'.ownsRow base 153 3 u n (l'.flatMap spE) ∧ SpSorted l l' ∧ w.grownBy w' u.ownBlock := by
  obtain ⟨A, c, rfl⟩ := own_shape hown
  have hlen := own_len spE_len (by decide) hown
  have hSF : Calls Tryz.prog 202 #[.slice A n c, .func (.func 350) #[] #[]] w fun e w' => e = .returned (.tuple #[]) ∧ ∃ l', w'.ownsRow base 153 3 (.slice A n c) n (l'.flatMap spE) ∧ SpSorted l l' ∧ w.grownBy w' (Value.slice A n c).ownBlock := by
    rcases Nat.eq_zero_or_pos n with h0 | hp
    · subst h0
      have hl : l = [] := List.eq_nil_of_length_eq_zero hlen
      subst hl
      refine (stFunc0_c A c _ w).mono ?_
      rintro e w' ⟨rfl, rfl⟩
      exact ⟨rfl, [], hown, ⟨List.Perm.refl _, List.Pairwise.nil⟩, grown_refl _ _⟩
    · obtain ⟨gb, rfl, hgb⟩ := own_someN hown hp
      have eg : ∀ args w, (callFunc 350 args).run Tryz.prog w = .ok (.enter 350 args) w := enters_of Tryz.func350 (by kernel_rfl) rfl
      have hH := holdsK_own spE 3 spE_len (by omega) hown
      have hsz : l.toArray.size = n := by simpa using hlen
      have hC : CmpLays Tryz.prog 350 #[] spE 3 spCf gb 0 l.toArray.size w := fun m os dk hdk x y => (compareStarts_c x y _).mono fun _ _ ⟨he, hB, hD⟩ => ⟨he, grow_of hB hD⟩
      have h := AnyQ.slices_SortFunc Tryz.laysQT 3 Tryz.isAgg153 Tryz.sizeOf153 spE spE_len (fun x v hv => by simp [spE] at hv; rcases hv with rfl | rfl | rfl <;> rfl) spCf spSWO 350 #[] gb 0 c l.toArray w eg hC hH (hown.lt gb rfl).2 (by rw [hsz]; omega)
      rw [hsz] at h
      refine h.mono ?_
      rintro e w' ⟨rfl, d', m, os, hP, hS, rfl⟩
      obtain ⟨p1, p2, p3⟩ := hP
      have hz : d'.toList.length = n := by rw [Array.length_toList, p1, hsz]
      obtain ⟨h1, h2⟩ := own_sortedK spE 3 spE_len (by omega) hown (l' := d'.toList) hz m os
      rw [Array.toArray_toList] at h1 h2
      refine ⟨rfl, d'.toList, h1, ⟨?_, ?_⟩, h2⟩
      · have e1 : d'.extract 0 n = d' := by rw [← hsz, ← p1]; exact Array.extract_size
        have e2 : l.toArray.extract 0 n = l.toArray := by rw [← hsz]; exact Array.extract_size
        rw [e1, e2] at p3
        exact p3
      · rw [List.pairwise_iff_getElem]
        intro i j hi hj hij
        have hj' : j < d'.size := by simpa using hj
        have h9 := hS i j (Nat.zero_le _) hij (by rw [p1, hsz] at hj'; exact hj')
        rw [getElem!_pos d' i (by omega), getElem!_pos d' j hj'] at h9
        exact h9
  have hSF' := Lib.hid hSF
  clear hSF hown
  go_enter Tryz.func273, Tryz.ntmps273
  go_wp2_with fail
  refine hSF'.out.mono ?_; rintro e w' ⟨rfl, l', h1, h2, h3⟩
  go_wp2
  go_end0
  exact ⟨rfl, l', h1, h2, h3⟩
end Go.Proofs.YtklggnglaeagpaaGreatDoor

/- heat.starts and heat.FinalStarts: who swims where. -/
namespace Go.Proofs.YtklggnglaeagpaaGreatDoor
open Go.RowKit
set_option linter.unusedVariables false

/-- a slice of names that lies in a row -/
structure Hn where
  A : Option Addr
  n : Nat
  c : Nat
  l : List ByteArray
def hnE (x : Hn) : List Value := [.slice x.A x.n x.c]
theorem hnE_len : ∀ x, (hnE x).length = 1 := fun _ => rfl
def RHn (w : World) (A : Option Addr) (n : Nat) (H : List Hn) : Prop := RN 1 hnE 97 w A n H ∧ ∀ x ∈ H, RS 9 w x.A x.n x.l
theorem RHn.below {w w' : World} {A : Option Addr} {n : Nat} {H : List Hn} (h : RHn w A n H) (B : Below w.heap.size w w') : RHn w' A n H := ⟨h.1.below B, fun x hx => (h.2 x hx).below B⟩
theorem RHn_at {w : World} {A : Option Addr} {n : Nat} {H : List Hn} (h : RHn w A n H) {k : Nat} (hk : k < n) : ∃ b off x, A = some ⟨b, off, none⟩ ∧ H[k]? = some x ∧ w.cell? ⟨b, off + k * 1, none⟩ = some (.slice x.A x.n x.c) ∧ RS 9 w x.A x.n x.l := by
  obtain ⟨b, off, x, hA, hb, hx, hc⟩ := h.1.at_ hk
  exact ⟨b, off, x, hA, hx, hc 0 _ rfl, h.2 x (List.mem_of_getElem? hx)⟩
def stIn (LV : List Int) (h : Int) : Nat → List ByteArray → List Sp
  | _, [] => []
  | j, s :: r => ⟨s, h, LV.getD j 0⟩ :: stIn LV h (j + 1) r
def stOut (LV : List Int) : Nat → List (List ByteArray) → List Sp
  | _, [] => []
  | i, l :: r => stIn LV ((i : Int) + 1) 0 l ++ stOut LV (i + 1) r
theorem stIn_at {LV : List Int} {h : Int} {l : List ByteArray} {k : Nat} {s : ByteArray} (hx : l[k]? = some s) : stIn LV h k (l.drop k) = ⟨s, h, LV.getD k 0⟩ :: stIn LV h (k + 1) (l.drop (k + 1)) := by rw [drop_at hx]; rfl
theorem stOut_at {LV : List Int} {H : List Hn} {k : Nat} {x : Hn} (hx : H[k]? = some x) : stOut LV k ((H.drop k).map Hn.l) = stIn LV ((k : Int) + 1) 0 x.l ++ stOut LV (k + 1) ((H.drop (k + 1)).map Hn.l) := by rw [drop_at hx]; rfl
theorem flat_snocS (l : List Sp) (x : Sp) : (l ++ [x]).flatMap spE = l.flatMap spE ++ spE x := by rw [List.flatMap_append]; simp
structure SO (w : World) (u : Value) (acc : List Sp) (wx : World) : Prop where
  own : wx.ownsRow w.heap.size 153 3 u acc.length (acc.flatMap spE)
  bel : Below w.heap.size w wx
section
variable {w wx w' : World} {u v' : Value} {acc : List Sp} {x : Sp}
theorem SO.app (h : SO w u acc wx) (ho : w'.ownsRow w.heap.size 153 3 v' (acc.length + 1) (acc.flatMap spE ++ spE x)) (hg : wx.grownBy w' u.ownBlock) : SO w v' (acc ++ [x]) w' :=
  ⟨by rw [flat_snocS, List.length_append]; exact ho, below_own h.bel h.own hg h.bel.size (Nat.le_refl _)⟩
theorem SO.start (w : World) : SO w (.slice none 0 0) [] w := ⟨World.ownsRow_nil _ _ _ _, Below.refl _ _⟩
end
set_option maxHeartbeats 6400000 in
set_option maxRecDepth 100000 in
theorem starts_c (p : Pl) (hp : PlOk p) (A : Option Addr) (n c : Nat) (H : List Hn) (w : World) (h : RHn w A n H) (hn : n ≤ 60) (hl : ∀ x ∈ H, (x.l.length : Int) ≤ p.hi - p.lo + 1) :
    Calls Tryz.prog 200 #[p.val, .slice A n c] w fun e w' => ∃ A' n' c' D, e = .returned (.slice A' n' c') ∧ RSp w' A' n' D ∧ SpSorted (stOut (laneV p.lo p.hi) 0 (H.map Hn.l)) D ∧ Below w.heap.size w w' := by
  have hLa := Lib.hid (fun W => lanesOfP_c p hp W)
  have hLl := laneV_len hp.1.2
  have hP0 : PoolB w.heap.size p (w.alloc (.cells p.cells 131)) := heap_alloc_new w _
  have hB0 := below_new w (.cells p.cells 131)
  have hPa := Lib.hid (fun v (h : PoolB w.heap.size p v) => h.at_)
  have hR := Lib.hid (fun W B => h.below (w' := W) B)
  have hHl := Lib.hid h.1.len
  have hll := Lib.hid (fun x (hx : x ∈ H) => show (x.l.length : Int) ≤ (laneV p.lo p.hi).length by rw [hLl]; exact hl x hx)
  have hL10 : ((laneV p.lo p.hi).length : Int) ≤ 10 := by rw [hLl]; have := hp.2.1; have := hp.1.1; omega
  have hSo := Lib.hid (fun k x (hx : H[k]? = some x) => stOut_at (LV := laneV p.lo p.hi) hx)
  have hSi := Lib.hid (fun (x : Hn) h k s (hx : x.l[k]? = some s) => stIn_at (LV := laneV p.lo p.hi) (h := h) hx)
  have hSz := Lib.hid (fun h k => show stIn (laneV p.lo p.hi) h k [] = [] from rfl)
  have hOz := Lib.hid (fun k => show stOut (laneV p.lo p.hi) k (([] : List Hn).map Hn.l) = [] from rfl)
  clear h hl hLl
  obtain ⟨lo, hi, le, ci⟩ := p
  dsimp only [Pl.val, Pl.cells] at *
  clear hp
  generalize laneV lo hi = LV at *
  generalize stIn LV = SI at *
  generalize stOut LV = SU at *
  obtain ⟨z0, z1, z2, z3⟩ := hPa.out _ hP0
  go_enter Tryz.func200, Tryz.ntmps200
  go_wp2_with fail
  refine (hLa.out _).mono ?_; rintro e w1 ⟨AL, nL, cL, rfl, hoL, hlL, B1⟩
  have hRL : RI 3 w1 AL nL LV := R1.of_own hoL (by omega)
  have hB1 := below_next hB0 B1
  have hRb := Lib.hid (fun W B => hRL.below (w' := W) B)
  have hR1 := Lib.hid (fun W (B : Below w1.heap.size w1 W) => hR.out W (below_next hB1 B))
  clear hLa hP0 hB0 hPa hR hoL hRL B1 z0 z1 z2 z3
  go_wp2_with fail
  go_loopw [6, 15] (fun u i wr => ∃ (k : Nat) (acc : List Sp), k ≤ n ∧ i = .int .i64 k ∧ acc.length ≤ 10 * k ∧ SO w1 u acc wr ∧ Hid (acc ++ SU k ((H.drop k).map Hn.l) = SU 0 (H.map Hn.l))) (fun _ i _ => n - (intOf i).toNat)
  case atStart => exact ⟨0, [], Nat.zero_le _, rfl, Nat.zero_le _, SO.start w1, Lib.hid rfl⟩
  case round =>
    obtain ⟨k, acc0, hk, rfl, hal0, K, hG⟩ := hrel
    by_cases hlt : k < n
    · obtain ⟨b, off, x, rfl, hx, c0, hIx⟩ := RHn_at (hR1.out _ K.bel) hlt
      rw [Nat.mul_one] at c0
      have hG2 := Lib.hid (show acc0 ++ (SI ((k : Int) + 1) 0 x.l ++ SU (k + 1) ((H.drop (k + 1)).map Hn.l)) = SU 0 (H.map Hn.l) by rw [← hG.out, hSo.out k x hx])
      have hxl := hll.out x (List.mem_of_getElem? hx)
      have hnl := hIx.len
      have hSx := Lib.hid (fun h j s hs => hSi.out x h j s hs)
      obtain ⟨xA, xn, xc, xl⟩ := x
      dsimp only at *
      have hz := K.bel.size
      clear hx hG
      go_wp2_with fail
      clear c0
      go_loopw [6, 22] (fun u i wx => ∃ (j : Nat) (acc : List Sp), j ≤ xn ∧ i = .int .i64 j ∧ acc.length ≤ 10 * k + j ∧ SO w1 u acc wx ∧ RS 9 wx xA xn xl ∧ Hid (acc ++ (SI ((k : Int) + 1) j (xl.drop j) ++ SU (k + 1) ((H.drop (k + 1)).map Hn.l)) = SU 0 (H.map Hn.l))) (fun _ i _ => xn - (intOf i).toNat)
      case atStart => exact ⟨0, acc0, Nat.zero_le _, rfl, by omega, K, hIx, hG2⟩
      case round =>
        clear K hG2 hIx
        rename World => wx
        obtain ⟨j, acc, hj, rfl, hal, K, hBx, hG⟩ := hrel
        obtain ⟨Ao, co, rfl⟩ := own_shape K.own
        by_cases hlt2 : j < xn
        · obtain ⟨bs, os, s, hA, hbs, hs, cs⟩ := hBx.at_ hlt2
          subst hA
          obtain ⟨bl, ol, lv, hAl, _, hlv, cl⟩ := (hRb.out _ K.bel).at_ (k := j) (by omega)
          subst hAl
          have hget : LV.getD j 0 = lv := getD_of hlv
          have hG2 := Lib.hid (show (acc ++ [⟨s, (k : Int) + 1, lv⟩]) ++ (SI ((k : Int) + 1) (j + 1) (xl.drop (j + 1)) ++ SU (k + 1) ((H.drop (k + 1)).map Hn.l)) = SU 0 (H.map Hn.l) by rw [← hG.out, hSx.out _ j s hs, hget, List.append_assoc]; rfl)
          have hown := K.own
          have hsz := K.bel.size
          have hA := Lib.hid (fun v' w' ho hg => K.app (v' := v') (x := ⟨s, (k : Int) + 1, lv⟩) (w' := w') ho hg)
          have hIk := Lib.hid (fun w' (hg : wx.grownBy w' (Value.slice Ao acc.length co).ownBlock) => show RS 9 w' (some ⟨bs, os, none⟩) xn xl from hBx.keep (T := 153) (by decide) (keep_of_app hown hg))
          have l0 : (0 : Int) ≤ (j : Int) := by omega
          have l1 : (j : Int) < (nL : Int) := by omega
          have e1 : IntKind.i64.wrap ((k : Int) + 1) = (k : Int) + 1 := IntWalk.i64_in _ (by omega)
          clear hG hs hlv hget
          go_wp2_with (at_builtin; refine wpList_app rfl (.tmp 27) (.tmp 36) 146 rfl Tryz.underlying146 info_start rfl (by omega) (by omega) hown rfl rfl (by first | rfl | (simp; done)) (by rfl) (by simp [Value.oneCell']) (by omega) hsz ?_; intro v6 w6 hown6 hg6)
          have K6 := hA.out v6 w6 hown6 hg6
          have hI6 := hIk.out w6 hg6
          clear hown6 hg6 hown hA hIk cs cl K
          go_roundw
          case rel => exact ⟨j + 1, acc ++ [⟨s, (k : Int) + 1, lv⟩], by omega, by go_num, by rw [List.length_append]; simp; omega, K6, hI6, hG2⟩
          case measure => simp [intOf]; omega
        · obtain rfl : j = xn := by omega
          have hG3 := Lib.hid (show acc ++ SU (k + 1) ((H.drop (k + 1)).map Hn.l) = SU 0 (H.map Hn.l) by have h := hG.out; rw [drop_end (by rw [hnl]; exact Nat.le_refl _), hSz.out, List.nil_append] at h; exact h)
          clear hG
          go_wp2
          go_roundw
          case rel => exact ⟨k + 1, acc, by omega, by go_num, by omega, K, hG3⟩
          case measure => simp [intOf]; omega
    · obtain rfl : k = n := by omega
      have hfin : acc0 = SU 0 (H.map Hn.l) := by have h := hG.out; rw [drop_end (by rw [hHl.out]; exact Nat.le_refl _), hOz.out, List.append_nil] at h; exact h
      obtain ⟨Ao, co, rfl⟩ := own_shape K.own
      have hSS := Lib.hid (sortStarts_c acc0 _ _ _ _ K.own (by omega))
      have hbe := Lib.hid (fun w' (hg : wr.grownBy w' (Value.slice Ao acc0.length co).ownBlock) => below_next hB1 (below_own K.bel K.own hg K.bel.size (Nat.le_refl _)))
      rw [hfin] at hSS
      clear K hG
      rw [hfin] at hbe ⊢
      go_wp2_with fail
      refine hSS.out.mono ?_; rintro e w7 ⟨rfl, D, hoD, hsD, hgD⟩
      have hBf := hbe.out _ hgD
      have hRD : RSp w7 Ao _ D := RN.of_own spE_len hoD (own_len spE_len (by decide) hoD) (by rw [← hfin]; omega)
      clear hoD hgD hSS hbe
      go_wp2
      go_ret
      exact ⟨Ao, _, co, D, rfl, hRD, hsD, hBf⟩
end Go.Proofs.YtklggnglaeagpaaGreatDoor
