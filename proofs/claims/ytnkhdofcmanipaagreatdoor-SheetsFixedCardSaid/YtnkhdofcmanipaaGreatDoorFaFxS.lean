/- api.Fix: ==, slices.Equal, Index, Contains, Clone, SortFunc. Printed by wip/genset.py. -/
import Derived.Test.YtnkhdofcmanipaaGreatDoorFaFxB
import Derived.Test.YtnkhdofcmanipaaGreatDoorSortH
import Derived.Test.YtnkhdofcmanipaaGreatDoorFaApp2
import Derived.Test.YtnkhdofcmanipaaGreatDoorFaMkReg
import Derived.Laws.StructEq
import Derived.Shelf.SlSortCmp.WholeK
import Derived.Deep.QuietTactic
import Derived.BigQuiet
import Derived.BigGuardPart
namespace Go.Proofs.YtnkhdofcmanipaaGreatDoor
open Go.RowKit Go.Shelf Go.Lib Go.Sort
set_option linter.unusedVariables false

theorem str_neX {a b : ByteArray} (h : a ≠ b) : (a.toList == b.toList) = false := by
  rw [beq_eq_false_iff_ne, ByteArray.toList_eq, ByteArray.toList_eq]
  intro e
  exact h (by cases a; cases b; congr 1; exact Array.toList_inj.mp e)
instance : DecidableEq Fx := fun a b => decidable_of_iff (a.rc = b.rc ∧ a.ht = b.ht ∧ a.ln = b.ln ∧ a.le = b.le ∧ a.tm = b.tm ∧ a.vr = b.vr ∧ a.by_ = b.by_) ⟨fun h => by
  obtain ⟨x0, x1, x2, x3, x4, x5, x6⟩ := a
  obtain ⟨y0, y1, y2, y3, y4, y5, y6⟩ := b
  obtain ⟨rfl, rfl, rfl, rfl, rfl, rfl, rfl⟩ := h
  rfl, fun h => by subst h; exact ⟨rfl, rfl, rfl, rfl, rfl, rfl, rfl⟩⟩
set_option maxHeartbeats 3200000 in
set_option maxRecDepth 100000 in
theorem equalFx_c (A1 A2 : Option Addr) (n c m d : Nat) (l1 l2 : List Fx) (w : World) (h1 : RFx w A1 n l1) (h2 : RFx w A2 m l2) :
    Calls Tryz.prog 26 #[.slice A1 n c, .slice A2 m d] w fun e w' => e = .returned (.bool (decide (l1 = l2))) ∧ ∃ q, w' = w.drewN q := by
  have b1 := h1.bd
  have b2 := h2.bd
  by_cases hnm : n = m
  rotate_left
  · have hd : decide (l1 = l2) = false := by simp; rintro rfl; have := h1.len; have := h2.len; omega
    have hne : ((n : Int) != (m : Int)) = true := by rw [bne_iff_ne]; omega
    rw [hd]
    clear hd
    go_enter Tryz.func26, Tryz.ntmps26
    go_wp2
    go_ret
    exact ⟨rfl, 0, rfl⟩
  subst hnm
  have hL1 := Lib.hid h1.len
  have hL2 := Lib.hid h2.len
  go_enter Tryz.func26, Tryz.ntmps26
  go_wp2
  go_loopw [13] (fun i wr => ∃ k q : Nat, k ≤ n ∧ i = .int .i64 k ∧ wr = w.drewN q ∧ Hid (∀ j, j < k → l1[j]? = l2[j]?)) (fun i _ => n - (intOf i).toNat)
  case atStart => exact ⟨0, 0, Nat.zero_le _, rfl, rfl, Lib.hid (fun j h => absurd h (by omega))⟩
  case round =>
    obtain ⟨k, q0, hk, rfl, rfl, hF⟩ := hrel
    by_cases hlt : k < n
    · obtain ⟨b, off, x, rfl, hbl, hx, c0, c1, c2, c3, c4, c5, c6⟩ := RFx_at7 h1 hlt
      obtain ⟨b', off', y, rfl, hbl', hy, e0, e1, e2, e3, e4, e5, e6⟩ := RFx_at7 h2 hlt
      have hx' := Lib.hid hx
      have hy' := Lib.hid hy
      clear hx hy
      by_cases hxy : x = y
      · subst hxy
        obtain ⟨x0, x1, x2, x3, x4, x5, x6⟩ := x
        dsimp only at *
        go_wp2
        go_quiet (fail)
        go_wp2
        go_roundw
        case rel => exact ⟨k + 1, _, by omega, by go_num, rfl, Lib.hid (fun j hj => by
          by_cases hjk : j = k
          · subst hjk; rw [hx'.out, hy'.out]
          · exact hF.out j (by omega))⟩
        case measure => simp [intOf]; omega
      · obtain ⟨x0, x1, x2, x3, x4, x5, x6⟩ := x
        obtain ⟨y0, y1, y2, y3, y4, y5, y6⟩ := y
        dsimp only at c0 c1 c2 c3 c4 c5 c6 e0 e1 e2 e3 e4 e5 e6
        have hcases : ((x0.toList == y0.toList) = false) ∨ (x0 = y0 ∧ (((x1 == y1) = false) ∨ (x1 = y1 ∧ (((x2 == y2) = false) ∨ (x2 = y2 ∧ (((x3 == y3) = false) ∨ (x3 = y3 ∧ (((x4 == y4) = false) ∨ (x4 = y4 ∧ (((x5 == y5) = false) ∨ (x5 = y5 ∧ ((x6.toList == y6.toList) = false)))))))))))) := by
          by_cases q0 : x0 = y0
          · refine .inr ⟨q0, ?_⟩
            by_cases q1 : x1 = y1
            · refine .inr ⟨q1, ?_⟩
              by_cases q2 : x2 = y2
              · refine .inr ⟨q2, ?_⟩
                by_cases q3 : x3 = y3
                · refine .inr ⟨q3, ?_⟩
                  by_cases q4 : x4 = y4
                  · refine .inr ⟨q4, ?_⟩
                    by_cases q5 : x5 = y5
                    · refine .inr ⟨q5, ?_⟩
                      exact str_neX (fun q6 => hxy (by rw [q0, q1, q2, q3, q4, q5, q6]))
                    · exact .inl (beq_eq_false_iff_ne.2 q5)
                  · exact .inl (beq_eq_false_iff_ne.2 q4)
                · exact .inl (beq_eq_false_iff_ne.2 q3)
              · exact .inl (beq_eq_false_iff_ne.2 q2)
            · exact .inl (beq_eq_false_iff_ne.2 q1)
          · exact .inl (str_neX q0)
        have hfin : Hid (decide (l1 = l2) = false) := Lib.hid (by
          simp only [decide_eq_false_iff_not]
          rintro rfl
          rw [hx'.out] at hy'
          exact hxy (Option.some.inj hy'.out))
        clear hxy
        rcases hcases with h0 | ⟨rfl, h1 | ⟨rfl, h2 | ⟨rfl, h3 | ⟨rfl, h4 | ⟨rfl, h5 | ⟨rfl, h6⟩⟩⟩⟩⟩⟩
        all_goals
          go_wp2
          go_quiet (fail)
          go_wp2
          go_ret
          exact ⟨ret_b (by rw [hfin.out]), _, by rw [World.drewN_drewN]⟩
    · have hfin : Hid (decide (l1 = l2) = true) := Lib.hid (by
        simp only [decide_eq_true_eq]
        apply List.ext_getElem?; intro j
        by_cases hj : j < n
        · exact hF.out j (by omega)
        · rw [List.getElem?_eq_none (by rw [hL1.out]; omega), List.getElem?_eq_none (by rw [hL2.out]; omega)])
      go_wp2
      go_ret
      exact ⟨ret_b (by rw [hfin.out]), _, rfl⟩
theorem fx_src {w : World} {A : Option Addr} {n : Nat} {l : List Fx} (h : RFx w A n l) (hp : 0 < n) : ∃ b off, A = some ⟨b, off, none⟩ ∧ ∀ j u, (l.flatMap fxE)[j]? = some u → w.cell? ⟨b, off + j, none⟩ = some u := by
  obtain ⟨b, off, cs, fz, ha, hb, hc⟩ := h.2.2 hp
  refine ⟨b, off, ha, fun j u hu => ?_⟩
  have hj := lt_of_at hu
  rw [flat_len fxE_len] at hj
  obtain ⟨x, hx⟩ := at_of_lt (l := l) (k := j / 7) (by omega)
  have hi : j % 7 < 7 := Nat.mod_lt _ (by decide)
  have e : j = (j / 7) * 7 + j % 7 := by omega
  have hf := flat_atC fxE_len l (j / 7) (j % 7) x hx hi
  rw [← e, hu] at hf
  rw [cell_of_row w b _ cs _ fz hb]
  have h9 := hc (j / 7) x hx (j % 7) u hf.symm
  rw [show off + j = off + (j / 7) * 7 + j % 7 by omega]
  exact h9
theorem fx_one (l : List Fx) : ∀ u ∈ l.flatMap fxE, u.oneCell' = true := by
  intro u hu
  obtain ⟨x, _, hx⟩ := List.mem_flatMap.1 hu
  simp only [fxE, List.mem_cons, List.not_mem_nil, or_false] at hx
  rcases hx with rfl | rfl | rfl | rfl | rfl | rfl | rfl <;> rfl
set_option maxRecDepth 100000 in
theorem cloneFx_c (A : Option Addr) (n c : Nat) (l : List Fx) (w : World) (h : RFx w A n l) (hn : n ≤ 1000) :
    Calls Tryz.prog 62 #[.slice A n c] w fun e w' => ∃ A' c', e = .returned (.slice A' n c') ∧ w'.ownsRow w.heap.size 69 7 (.slice A' n c') n (l.flatMap fxE) ∧ Below w.heap.size w w' := by
  rcases A with _ | ad
  · have hn0 : n = 0 := by
      rcases Nat.eq_zero_or_pos n with h0 | hp
      · exact h0
      · obtain ⟨b, off, cs, fz, e, _⟩ := h.2.2 hp; cases e
    subst hn0
    have hl : l = [] := List.eq_nil_of_length_eq_zero h.len
    subst hl
    have hnil : ∀ W, (binOp .eql 53 (.slice none 0 c) (.slice none 0 0)).run Tryz.prog W = .ok (.bool true) W := fun W => Go.Lib.run_eql_slice_nil W _ _ none 0 c 0 0 Tryz.underlying53
    go_enter Tryz.func62, Tryz.ntmps62
    go_wp2
    go_ret
    exact ⟨none, 0, rfl, World.ownsRow_nil _ _ _ _, Below.refl _ _⟩
  · have hlen := h.len
    have hB := below_new w (.cells #[] 69)
    have hz : w.heap.size ≤ (w.alloc (.cells #[] 69)).heap.size := by simp
    have hown : (w.alloc (.cells #[] 69)).ownsRow w.heap.size 69 7 (.slice (some ⟨w.heap.size, 0, none⟩) 0 0) 0 ([] : List Value) := ⟨rfl, .inr ⟨w.heap.size, 0, #[], rfl, Nat.le_refl _, heap_alloc_new w _, Nat.le_refl _, Nat.zero_le _, by simp, rfl⟩⟩
    have hs := fx_src (h.below hB)
    have hnil : ∀ W, (binOp .eql 53 (.slice (some ad) n c) (.slice none 0 0)).run Tryz.prog W = .ok (.bool false) W := fun W => Go.Lib.run_eql_slice_nil W _ _ (some ad) n c 0 0 Tryz.underlying53
    go_enter Tryz.func62, Tryz.ntmps62
    go_wp2_with (at_builtin; refine wpList_appR rfl (.tmp 5) (.tmp 6) 53 rfl Tryz.underlying53 info_fix rfl (by omega) (by omega) hown rfl (fun e => by cases e) hs rfl (by rw [flat_len fxE_len, hlen]) (fx_one l) (by omega) hz ?_; intro v4 w4 hown4 hg4)
    have hB4 := below_own hB hown hg4 hz (Nat.le_refl _)
    rw [List.nil_append, Nat.zero_add] at hown4
    obtain ⟨A9, c9, rfl⟩ := own_shape hown4
    go_wp2
    go_ret
    exact ⟨A9, c9, rfl, hown4, hB4⟩
/-- sorted as they are -/
def FxSorted (l l' : List Fx) : Prop := l'.Perm l ∧ l'.Pairwise fun x y => ltOf fxCf y x = false
theorem fxInsq0_c (p : Option Addr) (cap : Nat) (fv : Value) (w : World) :
    Calls Tryz.prog 139 #[.slice p 0 cap, .int .i64 0, .int .i64 0, fv] w fun e w' => e = .returned (.tuple #[]) ∧ w' = w := by
  go_enter Tryz.func139, Tryz.ntmps139
  go_wp2
  refine wp_loop_rounds 1 ?_
  rw [rounds_succ]
  go_wp2
  go_end0
  exact ⟨rfl, rfl⟩
set_option maxHeartbeats 1600000 in
set_option maxRecDepth 100000 in
theorem fxFunc0_c (p : Option Addr) (cap : Nat) (fv : Value) (w : World) :
    Calls Tryz.prog 64 #[.slice p 0 cap, fv] w fun e w' => e = .returned (.tuple #[]) ∧ w' = w := by
  have hS : ∀ lim : Int, Calls Tryz.prog 108 #[.slice p 0 cap, .int .i64 0, .int .i64 0, .int .i64 lim, fv] w fun e w' => e = .returned (.tuple #[]) ∧ w' = w := by
    intro lim
    have hI := Lib.hid (fxInsq0_c p cap fv w)
    go_enter Tryz.func108, Tryz.ntmps108
    go_wp2
    refine wp_loop_rounds 1 ?_
    rw [rounds_succ]
    go_wp2_with fail
    refine hI.out.mono ?_; rintro e w' ⟨rfl, rfl⟩
    go_wp2
    (try simp only [Exit.inBlock, Exit.then]); refine bodyPost_ret (results_none rfl _ _ _) rfl ?_
    exact ⟨rfl, rfl⟩
  have hBi := Lib.hid (fun W => Tryz.bits_Len 0 W (by omega) (by omega))
  go_enter Tryz.func64, Tryz.ntmps64
  go_wp2_with fail
  refine (hBi.out _).mono ?_; rintro e w' ⟨rfl, rfl⟩
  go_wp2_with fail
  refine (hS _).mono ?_; rintro e w' ⟨rfl, rfl⟩
  go_wp2
  go_end0
  exact ⟨rfl, rfl⟩
theorem sortFFx_c (F : Nat) (eg : ∀ args w, (callFunc F args).run Tryz.prog w = .ok (.enter F args) w) (hF : ∀ (x y : Fx) (W : World), Calls Tryz.prog F #[.agg (fxE x).toArray, .agg (fxE y).toArray] W fun e w' => e = .returned (.int .i64 (fxCf x y)) ∧ Below W.heap.size W w' ∧ W.drawn ≤ w'.drawn) (l : List Fx) (w : World) (base n : Nat) (u : Value) (hown : w.ownsRow base 69 7 u n (l.flatMap fxE)) (hn : n ≤ 1000) :
    Calls Tryz.prog 64 #[u, .func (.func F) #[] #[]] w fun e w' => e = .returned (.tuple #[]) ∧ ∃ l', w'.ownsRow base 69 7 u n (l'.flatMap fxE) ∧ FxSorted l l' ∧ w.grownBy w' u.ownBlock := by
  obtain ⟨A, c, rfl⟩ := own_shape hown
  have hlen := own_len fxE_len (by decide) hown
  rcases Nat.eq_zero_or_pos n with h0 | hp
  · subst h0
    have hl : l = [] := List.eq_nil_of_length_eq_zero hlen
    subst hl
    refine (fxFunc0_c A c _ w).mono ?_
    rintro e w' ⟨rfl, rfl⟩
    exact ⟨rfl, [], hown, ⟨List.Perm.refl _, List.Pairwise.nil⟩, grown_refl _ _⟩
  · obtain ⟨gb, rfl, hgb⟩ := own_someN hown hp
    have hH := holdsK_own fxE 7 fxE_len (by omega) hown
    have hsz : l.toArray.size = n := by simpa using hlen
    have hC : CmpLays Tryz.prog F #[] fxE 7 fxCf gb 0 l.toArray.size w := fun m os dk hdk x y => (hF x y _).mono fun _ _ ⟨he, hB, hD⟩ => ⟨he, grow_of hB hD⟩
    have h := AnyQ.slices_SortFunc Tryz.laysQX 7 Tryz.isAgg69 Tryz.sizeOf69 fxE fxE_len (fun x v hv => by simp [fxE] at hv; rcases hv with rfl | rfl | rfl | rfl | rfl | rfl | rfl <;> rfl) fxCf fxSWO F #[] gb 0 c l.toArray w eg hC hH (hown.lt gb rfl).2 (by rw [hsz]; omega)
    rw [hsz] at h
    refine h.mono ?_
    rintro e w' ⟨rfl, d', m, os, hP, hS, rfl⟩
    obtain ⟨p1, p2, p3⟩ := hP
    have hz : d'.toList.length = n := by rw [Array.length_toList, p1, hsz]
    obtain ⟨h1, h2⟩ := own_sortedK fxE 7 fxE_len (by omega) hown (l' := d'.toList) hz m os
    rw [Array.toArray_toList] at h1 h2
    refine ⟨rfl, d'.toList, h1, ⟨?_, ?_⟩, h2⟩
    · have e1 : d'.extract 0 n = d' := by rw [← hsz, ← p1]; exact Array.extract_size
      have e2 : l.toArray.extract 0 n = l.toArray := by rw [← hsz]; exact Array.extract_size
      rw [e1, e2] at p3
      exact p3
    · rw [List.pairwise_iff_getElem]
      intro i j hi hj hij
      have hj' : j < d'.size := by simpa using hj
      have h9 := hS i j (Nat.zero_le _) hij (by rw [p1, hsz] at hj'; exact hj')
      rw [getElem!_pos d' i (by omega), getElem!_pos d' j hj'] at h9
      exact h9
end Go.Proofs.YtnkhdofcmanipaaGreatDoor
