import Derived.Test.YtklggnglaeagpaaGreatDoorVerR
/- tumbref1.stands and tumbref1.verdictOf. Printed by wip/genvers.py. -/
namespace Go.Proofs.YtklggnglaeagpaaGreatDoor
open Go.RowKit Go.Shelf Go.Lib Go.Sort
set_option linter.unusedVariables false

set_option maxHeartbeats 3200000 in
set_option maxRecDepth 100000 in
theorem standsR_c (A : Option Addr) (n c : Nat) (l : List Rp) (who : ByteArray) (f at_ : Int) (w : World) (h : RRp w A n l) (hn : n ≤ 1000) (hw : ∀ x ∈ l, 1 ≤ x.wt) :
    Calls Tryz.prog 257 #[.slice A n c, .string who, .int .i64 f, .int .i64 at_] w fun e w' => e = .returned (.tuple #[.int .i64 (lastV l who f at_).tm, .bool (stB l who f at_)]) ∧ Below w.heap.size w w' := by
  have hA := Lib.hid (about_c A n c l who f at_ w h hn)
  obtain ⟨h1, h2, h3⟩ := last_about hw who f at_
  have hS := Lib.hid (show stB l who f at_ = (decide (0 < (lastV l who f at_).wt) && !(lastV l who f at_).nt) from rfl)
  generalize stB l who f at_ = S at *
  generalize lastV l who f at_ = V at *
  generalize aboutV l who f at_ = AV at *
  have h1' := Lib.hid h1
  have h2' := Lib.hid h2
  clear h1 h2 h3 hw h
  go_enter Tryz.func257, Tryz.ntmps257
  go_wp2_with fail
  refine hA.out.mono ?_; rintro e w1 ⟨A1, n1, c1, rfl, r1, B1⟩
  have hl1 := Lib.hid r1.len
  have hbd := r1.bd
  by_cases hn0 : n1 = 0
  · subst hn0
    have hnil : AV = [] := List.eq_nil_of_length_eq_zero hl1.out
    have hV : V = rp0 := by rw [h1'.out, hnil]; rfl
    subst hV
    have hS2 : S = false := by rw [hS.out]; rfl
    subst hS2
    clear hS h1' h2' hnil
    go_wp2
    go_ret2
    exact ⟨rfl, B1⟩
  · have hn1 : ((n1 : Int) == 0) = false := by rw [beq_eq_false_iff_ne]; omega
    obtain ⟨b, off, x, rfl, hbl, hx, c0, c1, c2, c3, c4, c5, c6⟩ := RRp_at7 r1 (k := n1 - 1) (by omega)
    have hV : V = x := by
      rw [h1'.out]
      unfold lastOr
      rw [List.getLast?_eq_getElem?, hl1.out, hx]
      rfl
    have hpos : 0 < V.wt := h2'.out.2 (fun e => hn0 (by have := hl1.out; rw [e] at this; simpa using this.symm))
    subst hV
    obtain ⟨id, jd, wo, fault, tm, wt, nt⟩ := V
    have hS2 : S = !nt := by rw [hS.out]; simp [show 0 < wt from hpos]
    subst hS2
    dsimp only [rpE] at *
    have u1 : IntKind.i64.wrap ((n1 : Int) - 1) = (n1 : Int) - 1 := IntWalk.i64_in _ (by omega)
    have u2 : 0 ≤ (n1 : Int) - 1 := by omega
    have u3 : ((n1 : Int) - 1).toNat = n1 - 1 := by omega
    have u4 : (n1 : Int) - 1 < n1 := by omega
    have hn5 := heap_alloc_new w1 (.cells #[.string id, .string jd, .string wo, .int .i64 fault, .int .i64 tm, .int .i64 wt, .bool nt] 96)
    have hB5 := below_next B1 (below_new w1 (.cells #[.string id, .string jd, .string wo, .int .i64 fault, .int .i64 tm, .int .i64 wt, .bool nt] 96))
    have x4 := (blk_facts hn5).1 4
    have x6 := (blk_facts hn5).1 6
    clear hS h1' h2' hx hn0
    go_wp2
    go_quiet (fail)
    go_wp2
    go_ret2
    exact ⟨rfl, below_drewN hB5 _⟩
/-- what the reference's verdict hands back -/
def RetVr (w : World) (who : ByteArray) (F : Int) (ids : List ByteArray) (e : Ending) (w' : World) : Prop := ∃ A c, e = .returned (.agg #[.string who, .int .i64 F, .slice A ids.length c]) ∧ RS 9 w' A ids.length ids ∧ CapOk A ids.length c ∧ Below w.heap.size w w'
def nidL (l : List Rp) : List ByteArray := (l.filter fun x => !x.nt).map Rp.id
theorem nidL_at {l : List Rp} {k : Nat} {x : Rp} (h : l[k]? = some x) : nidL (l.drop k) = (if x.nt = false then [x.id] else []) ++ nidL (l.drop (k + 1)) := by
  rw [drop_at h]
  unfold nidL
  by_cases hm : x.nt = false
  · rw [if_pos hm, List.filter_cons_of_pos (by simp [hm])]; rfl
  · rw [if_neg hm, List.filter_cons_of_neg (by simpa using hm)]; rfl
theorem nidL_about {l : List Rp} (hw : ∀ x ∈ l, 1 ≤ x.wt) (who : ByteArray) (f at_ : Int) : repL who f at_ (lastV l who f at_).wt l = nidL (aboutV l who f at_) := by
  have h3 := (last_about hw who f at_).2.2
  unfold repL nidL aboutV
  rw [List.filter_filter, h3]
  congr 1
  apply List.filter_congr
  intro x _
  unfold abB
  cases mtB who f at_ x <;> cases decide (x.wt = mostV l who f at_) <;> cases x.nt <;> rfl
theorem nidL_len (l : List Rp) : (nidL l).length ≤ l.length := by
  unfold nidL; rw [List.length_map]; exact List.length_filter_le _ _
theorem about_len (l : List Rp) (who : ByteArray) (f at_ : Int) : (aboutV l who f at_).length ≤ l.length := List.length_filter_le _ _
set_option maxHeartbeats 6400000 in
set_option maxRecDepth 100000 in
theorem verdictOf_c (A : Option Addr) (n c : Nat) (l : List Rp) (who : ByteArray) (at_ : Int) (Ab : Option Addr) (nb cb : Nat) (but : List Int) (w : World) (h : RRp w A n l) (hn : n ≤ 1000) (hw : ∀ x ∈ l, 1 ≤ x.wt) (hb : RI 3 w Ab nb but) :
    Calls Tryz.prog 156 #[.slice A n c, .string who, .int .i64 at_, .slice Ab nb cb] w (RetVr w who (fltV l who at_ (fun f => hasB but f)) (idsV l who at_ (fltV l who at_ (fun f => hasB but f)))) := by
  have hR := Lib.hid (fun W B => h.below (w' := W) B)
  have hbb := Lib.hid (fun W B => hb.below (w' := W) B)
  have hl := Lib.hid h.len
  have hSt := Lib.hid (fun f W (B : Below w.heap.size w W) => standsR_c A n c l who f at_ W (h.below B) hn hw)
  have hAb := Lib.hid (fun f W (B : Below w.heap.size w W) => about_c A n c l who f at_ W (h.below B) hn)
  have hCo := Lib.hid (fun f W (B : Below w.heap.size w W) => contains_c Ab nb cb but f W (hb.below B))
  have hF0 := Lib.hid (show vdF (pV l who at_ (fun f => hasB but f)) 8 1 = fltV l who at_ (fun f => hasB but f) from rfl)
  have hpV := Lib.hid (fun f => show pV l who at_ (fun f => hasB but f) f = (stB l who f at_ && !hasB but f) from rfl)
  have hid0 := Lib.hid (show idsV l who at_ 0 = [] from rfl)
  have hid1 := Lib.hid (fun (F : Int) (h : F ≠ 0) => show idsV l who at_ F = nidL (aboutV l who F at_) from (if_neg h).trans (nidL_about hw who F at_))
  have hRl := Lib.hid (fun (F : Int) => show (aboutV l who F at_).length ≤ n by rw [← h.len]; exact about_len _ _ _ _)
  generalize fltV l who at_ (fun f => hasB but f) = F at *
  generalize pV l who at_ (fun f => hasB but f) = pp at *
  clear h hb hw
  have hb8 := blk_alloc (heap_alloc_new w (.cells #[.string ⟨#[]⟩, .int .i64 0, .slice none 0 0] 99)) (.cells #[.string who, .int .i64 0, .slice none 0 0] 99)
  have hb10 := heap_alloc_new (w.alloc (.cells #[.string ⟨#[]⟩, .int .i64 0, .slice none 0 0] 99)) (.cells #[.string who, .int .i64 0, .slice none 0 0] 99)
  rw [alloc_sizeS] at hb10
  have K0 : VK w who (.int .i64 0) (.slice none 0 0) ((w.alloc (.cells #[.string ⟨#[]⟩, .int .i64 0, .slice none 0 0] 99)).alloc (.cells #[.string who, .int .i64 0, .slice none 0 0] 99)) := ⟨hb8, hb10, below_next (below_new w _) (below_new _ _)⟩
  clear hb8 hb10
  go_enter Tryz.func156, Tryz.ntmps156
  go_wp2_with fail
  go_loopw [10] (fun f wr => ∃ (j : Nat), j ≤ 8 ∧ f = .int .i64 (1 + (j : Int)) ∧ VK w who (.int .i64 0) (.slice none 0 0) wr ∧ Hid (vdF pp (8 - j) (1 + (j : Int)) = F)) (fun f _ => 9 - (intOf f).toNat)
  case atStart => exact ⟨0, Nat.zero_le _, rfl, K0, hF0⟩
  case round =>
    clear K0
    rename World => wr
    obtain ⟨j, hj, rfl, K, hF⟩ := hrel
    by_cases hlt : j < 8
    · have hd8 : decide (1 + (j : Int) ≤ 8) = true := decide_eq_true (by omega)
      have hstep := Lib.hid (show (if pp (1 + (j : Int)) = true then 1 + (j : Int) else vdF pp (8 - (j + 1)) (1 + ((j + 1 : Nat) : Int))) = F by
        rw [← hF.out, show 8 - j = (8 - (j + 1)) + 1 by omega, show (1 + ((j + 1 : Nat) : Int)) = 1 + (j : Int) + 1 by omega]; rfl)
      have uw : IntKind.i64.wrap (1 + (j : Int) + 1) = 1 + (j : Int) + 1 := IntWalk.i64_in _ (by omega)
      have hpf := Lib.hid (hpV.out (1 + (j : Int)))
      have hSt1 := Lib.hid (hSt.out (1 + (j : Int)) wr K.bel)
      have hCo1 := Lib.hid (fun W B => hCo.out (1 + (j : Int)) W B)
      have hAb1 := Lib.hid (fun W B => hAb.out (1 + (j : Int)) W B)
      have hid9 := Lib.hid (hid1.out (1 + (j : Int)) (by omega))
      have hRl1 := hRl.out (1 + (j : Int))
      have hf1 : (1 : Int) ≤ 1 + (j : Int) := by omega
      generalize stB l who (1 + (j : Int)) at_ = sb at *
      generalize lastV l who (1 + (j : Int)) at_ = V at *
      generalize hasB but (1 + (j : Int)) = gb at *
      generalize aboutV l who (1 + (j : Int)) at_ = AV at *
      generalize pp (1 + (j : Int)) = pb at *
      clear hF
      go_wp2_with fail
      refine hSt1.out.mono ?_; rintro e w1 ⟨rfl, B1⟩
      replace K := K.below B1
      clear B1 hSt1
      cases sb
      · have hst2 := Lib.hid ((if_neg (by rw [hpf.out]; simp)).symm.trans hstep.out)
        clear hstep hpf
        go_wp2
        go_roundw
        case rel => exact ⟨j + 1, by omega, by go_num, K, hst2⟩
        case measure => simp [intOf]; omega
      go_wp2_with fail
      refine (hCo1.out _ K.bel).mono ?_; rintro e w2 ⟨rfl, rfl⟩
      clear hCo1
      cases gb
      rotate_left
      · have hst2 := Lib.hid ((if_neg (by rw [hpf.out]; simp)).symm.trans hstep.out)
        clear hstep hpf
        go_wp2
        go_roundw
        case rel => exact ⟨j + 1, by omega, by go_num, K, hst2⟩
        case measure => simp [intOf]; omega
      obtain rfl : F = 1 + (j : Int) := by rw [← hstep.out, if_pos (by rw [hpf.out]; rfl)]
      clear hstep hpf hd8
      have q1 := (blk_facts K.b10).1 1
      have q2 := (blk_facts K.b10).2 1
      have K2 := K.set (.int .i64 (1 + (j : Int)))
      clear K
      go_wp2_with fail
      refine (hAb1.out _ K2.bel).mono ?_; rintro e w3 ⟨A3, n3, c3, rfl, r3, B3⟩
      have K3 := K2.below B3
      have hl3 := Lib.hid r3.len
      have hl3' := r3.len
      rw [hl3'] at hRl1
      have hR3 := Lib.hid (fun W B => r3.below (w' := W) B)
      have hB03 := Lib.hid (Below.refl w3.heap.size w3)
      clear q1 q2 K2 B3 hAb1 r3 hl3'
      have hs3 := lt_of_heap K3.b10
      obtain ⟨RP, hrep0⟩ : ∃ RP, nidL AV = RP := ⟨_, rfl⟩
      have hrep := Lib.hid hrep0
      replace hid9 := Lib.hid (hid9.out.trans hrep0)
      have hRPl := nidL_len AV
      rw [hrep0, hl3.out] at hRPl
      clear hrep0
      go_wp2_with fail
      go_loopw [44] (fun i wr => ∃ (k : Nat) (P : List ByteArray) (u : Value), k ≤ n3 ∧ i = .int .i64 k ∧ P.length ≤ k ∧ VK w who (.int .i64 (1 + (j : Int))) u wr ∧ wr.ownsRow (w.heap.size + 2) 9 1 u P.length (P.map Value.string) ∧ RRp wr A3 n3 AV ∧ Hid (RP = P ++ nidL (AV.drop k))) (fun i _ => n3 - (intOf i).toNat)
      case atStart => exact ⟨0, [], _, Nat.zero_le _, rfl, Nat.le_refl _, K3, World.ownsRow_nil _ _ _ _, hR3.out _ hB03.out, Lib.hid (by rw [← hrep.out]; rfl)⟩
      case round =>
        clear K3
        rename World => wr
        obtain ⟨k, P, u, hk, rfl, hP, K, hown, hR4, hF⟩ := hrel
        by_cases hlt2 : k < n3
        · obtain ⟨b, off, x, rfl, hbl, hx, c0, c1, c2, c3', c4, c5, c6⟩ := RRp_at7 hR4 hlt2
          have hS := Lib.hid (nidL_at hx)
          clear hx
          obtain ⟨id, jd, wo, fault, tm, wt, nt⟩ := x
          dsimp only [rpE] at *
          have hn0 := heap_alloc_new wr (.cells #[.string id, .string jd, .string wo, .int .i64 fault, .int .i64 tm, .int .i64 wt, .bool nt] 96)
          have hBN := below_new wr (.cells #[.string id, .string jd, .string wo, .int .i64 fault, .int .i64 tm, .int .i64 wt, .bool nt] 96)
          have K5 := K.below hBN
          have how5 := own_below hown hBN
          have hR5 := hR4.below hBN
          have hws := K.bel.size
          have hz5 : (wr.alloc (.cells #[.string id, .string jd, .string wo, .int .i64 fault, .int .i64 tm, .int .i64 wt, .bool nt] 96)).heap.size = wr.heap.size + 1 := by simp
          have hs10 := lt_of_heap K.b10
          have x0 := (blk_facts hn0).1 0
          have x6 := (blk_facts hn0).1 6
          have q2 := (blk_facts K5.b10).1 2
          clear hR4
          cases nt
          · have hS2 := Lib.hid (hF.out.trans (by rw [hS.out, if_pos rfl, ← List.append_assoc]))
            have hz6 : w.heap.size + 2 ≤ (wr.alloc (.cells #[.string id, .string jd, .string wo, .int .i64 fault, .int .i64 tm, .int .i64 wt, .bool false] 96)).heap.size := by rw [hz5]; omega
            clear hS hF hown K hbl
            go_wp2_with (at_builtin; refine wpList_app rfl (.tmp 52) (.tmp 55) 97 rfl Tryz.underlying97 info_strS rfl (by omega) (by omega) how5 rfl rfl (by first | rfl | (simp; done)) rfl (by simp [Value.oneCell']) (by omega) hz6 ?_; intro v7 w7 hown7 hg7; obtain ⟨A7, c7, rfl⟩ := own_shape hown7; have hb10 := blk_grown K5.b10 hg7 (fun e => by have := own_row_lt how5 _ e.symm; omega); have hb8 := blk_grown K5.b8 hg7 (fun e => by have := own_row_lt how5 _ e.symm; omega); have hR7 := hR5.keep (T := 9) (by decide) (keep_own7 how5 hg7); have K7 : VK w who (.int .i64 (1 + (j : Int))) u w7 := ⟨hb8, hb10, below_own K5.bel how5 hg7 K5.bel.size (by omega)⟩; have g2 := (blk_facts hb10).1 2; have f2 := (blk_facts hb10).2 2; have K8 := K7.setU (.slice A7 (P.length + 1) c7); have hR8 := hR7.keep (T := 99) (by decide) (Keep.of_grown hb10 (grown_setCell (grown_refl w7 (some (w.heap.size + 1))) (p := ⟨w.heap.size + 1, 2, none⟩) (.inl rfl) (.slice A7 (P.length + 1) c7))); have hown8 : (w7.setCell ⟨w.heap.size + 1, 2, none⟩ (.slice A7 (P.length + 1) c7)).ownsRow (w.heap.size + 2) 9 1 (.slice A7 (P.length + 1) c7) (P ++ [id]).length ((P ++ [id]).map Value.string) := (show w7.ownsRow (w.heap.size + 2) 9 1 (.slice A7 (P.length + 1) c7) (P ++ [id]).length ((P ++ [id]).map Value.string) by rw [List.map_append, List.length_append]; exact hown7).kept (grown_setCell (grown_refl w7 (some (w.heap.size + 1))) (p := ⟨w.heap.size + 1, 2, none⟩) (.inl rfl) _) (own_ne hown7 (by omega)); clear hown7 hb10 hb8 K7)
            go_roundw
            case rel => exact ⟨k + 1, P ++ [id], .slice A7 (P.length + 1) c7, by omega, by go_num, by rw [List.length_append]; simp; omega, K8, hown8, hR8, hS2⟩
            case measure => simp [intOf]; omega
          · have hS2 := Lib.hid (hF.out.trans (by rw [hS.out, if_neg (by decide), List.nil_append]))
            clear hS hF hown K
            go_wp2
            go_roundw
            case rel => exact ⟨k + 1, P, u, by omega, by go_num, by omega, K5, how5, hR5, hS2⟩
            case measure => simp [intOf]; omega
        · obtain rfl : k = n3 := by omega
          have hfin : RP = P := by rw [hF.out, drop_end (by rw [hl3.out]; exact Nat.le_refl _)]; simp [nidL]
          subst hfin
          obtain ⟨A9, c9, rfl⟩ := own_shape hown
          have hrs : RS 9 wr A9 RP.length RP := R1.of_own hown (by omega)
          have hcp := Lib.hid (capOk_own hown)
          clear hF hown hR4
          have hbF1 := Lib.hid (vd3_blk K.b8 (.string who) (.int .i64 (1 + (j : Int))) (.slice A9 RP.length c9))
          have hBF1 := Lib.hid (vd3_below K.bel (Nat.le_refl _) (.string who) (.int .i64 (1 + (j : Int))) (.slice A9 RP.length c9))
          have hrF1 := Lib.hid (vd3_RS K.b8 hrs (.string who) (.int .i64 (1 + (j : Int))) (.slice A9 RP.length c9))
          have y0 := (blk_facts K.b10).1 0
          have y1 := (blk_facts K.b10).1 1
          have y2 := (blk_facts K.b10).1 2
          have v0 := (blk_facts K.b8).1 0
          have v1 := (blk_facts K.b8).1 1
          have v2 := (blk_facts K.b8).1 2
          have f0 := (blk_facts K.b8).2 0
          have f1 := (blk_facts K.b8).2 1
          have f2 := (blk_facts K.b8).2 2
          clear K hrs
          go_wp2
          generalize hW : ((wr.setCell ⟨w.heap.size, 0, none⟩ (.string who)).setCell ⟨w.heap.size, 1, none⟩ (.int .i64 (1 + (j : Int)))).setCell ⟨w.heap.size, 2, none⟩ (.slice A9 RP.length c9) = wF
          have hbF := hbF1.out
          have hBF := hBF1.out
          have hrF := hrF1.out
          replace hbF : wF.heap[w.heap.size]? = some (.cells #[.string who, .int .i64 (1 + (j : Int)), (.slice A9 RP.length c9)] 99 (0, 0)) := by rw [← hW]; exact hbF
          replace hBF : Below w.heap.size w wF := by rw [← hW]; exact hBF
          replace hrF : RS 9 wF A9 RP.length RP := by rw [← hW]; exact hrF
          clear hW v0 v1 v2 f0 f1 f2 y0 y1 y2 hbF1 hBF1 hrF1
          have zF := (blk_facts hbF).1
          (try simp only [Exit.inBlock, Exit.then])
          refine bodyPost_ret (v := .agg #[.string who, .int .i64 (1 + (j : Int)), (.slice A9 RP.length c9)]) ?_ rfl (show RetVr w who (1 + (j : Int)) (idsV l who at_ (1 + (j : Int))) _ _ by rw [hid9.out]; exact ⟨A9, c9, rfl, hrF, hcp.out, hBF⟩)
          simp [results, Tryz.results156, go_sem, zF]
    · obtain rfl : j = 8 := by omega
      have hFz : F = 0 := by rw [← hF.out]; rfl
      subst hFz
      have hrs : RS 9 wr none 0 [] := R1.nil_ _ _ _ _
      clear hF
      have hbF1 := Lib.hid (vd3_blk K.b8 (.string who) (.int .i64 0) (.slice none 0 0))
      have hBF1 := Lib.hid (vd3_below K.bel (Nat.le_refl _) (.string who) (.int .i64 0) (.slice none 0 0))
      have hrF1 := Lib.hid (vd3_RS K.b8 hrs (.string who) (.int .i64 0) (.slice none 0 0))
      have y0 := (blk_facts K.b10).1 0
      have y1 := (blk_facts K.b10).1 1
      have y2 := (blk_facts K.b10).1 2
      have v0 := (blk_facts K.b8).1 0
      have v1 := (blk_facts K.b8).1 1
      have v2 := (blk_facts K.b8).1 2
      have f0 := (blk_facts K.b8).2 0
      have f1 := (blk_facts K.b8).2 1
      have f2 := (blk_facts K.b8).2 2
      clear K hrs
      go_wp2
      generalize hW : ((wr.setCell ⟨w.heap.size, 0, none⟩ (.string who)).setCell ⟨w.heap.size, 1, none⟩ (.int .i64 0)).setCell ⟨w.heap.size, 2, none⟩ (.slice none 0 0) = wF
      have hbF := hbF1.out
      have hBF := hBF1.out
      have hrF := hrF1.out
      replace hbF : wF.heap[w.heap.size]? = some (.cells #[.string who, .int .i64 0, (.slice none 0 0)] 99 (0, 0)) := by rw [← hW]; exact hbF
      replace hBF : Below w.heap.size w wF := by rw [← hW]; exact hBF
      replace hrF : RS 9 wF none 0 [] := by rw [← hW]; exact hrF
      clear hW v0 v1 v2 f0 f1 f2 y0 y1 y2 hbF1 hBF1 hrF1
      have zF := (blk_facts hbF).1
      (try simp only [Exit.inBlock, Exit.then])
      refine bodyPost_ret (v := .agg #[.string who, .int .i64 0, (.slice none 0 0)]) ?_ rfl (show RetVr w who 0 (idsV l who at_ 0) _ _ by rw [hid0.out]; exact ⟨none, 0, rfl, hrF, .inl ⟨rfl, rfl, rfl⟩, hBF⟩)
      simp [results, Tryz.results156, go_sem, zF]
end Go.Proofs.YtklggnglaeagpaaGreatDoor

/- Lists of verdicts: judge.Verdicts, tumbref1.VerdictsOf; slices.EqualFunc by tumbref1.SameVerdict. Printed by wip/genvert.py. -/
namespace Go.Proofs.YtklggnglaeagpaaGreatDoor
open Go.RowKit Go.Shelf Go.Lib Go.Sort
set_option linter.unusedVariables false

/-- a verdict that lies in a row -/
structure Vx where
  who : ByteArray
  fl : Int
  A : Option Addr
  c : Nat
  ids : List ByteArray
def vxE (x : Vx) : List Value := [.string x.who, .int .i64 x.fl, .slice x.A x.ids.length x.c]
theorem vxE_len : ∀ x, (vxE x).length = 3 := fun _ => rfl
def Vx.abs (x : Vx) : ByteArray × Int × List ByteArray := (x.who, x.fl, x.ids)
def RVx (w : World) (A : Option Addr) (n : Nat) (L : List Vx) : Prop := RN 3 vxE 99 w A n L ∧ ∀ x ∈ L, RS 9 w x.A x.ids.length x.ids
theorem RVx.below {w w' : World} {A : Option Addr} {n : Nat} {L : List Vx} (h : RVx w A n L) (B : Below w.heap.size w w') : RVx w' A n L := ⟨h.1.below B, fun x hx => (h.2 x hx).below B⟩
theorem RVx_at3 {w : World} {A : Option Addr} {n : Nat} {L : List Vx} (h : RVx w A n L) {k : Nat} (hk : k < n) : ∃ b off x, A = some ⟨b, off, none⟩ ∧ b < w.heap.size ∧ L[k]? = some x ∧ w.cell? ⟨b, off + k * 3, none⟩ = some (.string x.who) ∧ w.cell? ⟨b, off + k * 3 + 1, none⟩ = some (.int .i64 x.fl) ∧ w.cell? ⟨b, off + k * 3 + 2, none⟩ = some (.slice x.A x.ids.length x.c) ∧ RS 9 w x.A x.ids.length x.ids := by
  obtain ⟨b, off, x, hA, hb, hx, hc⟩ := h.1.at_ hk
  exact ⟨b, off, x, hA, hb, hx, hc 0 _ rfl, hc 1 _ rfl, hc 2 _ rfl, h.2 x (List.mem_of_getElem? hx)⟩
theorem info_verdict : (Tryz.prog.info? 99).map (fun i => (i.zero, i.size, i.bytes)) = some (some (.agg #[.string ⟨#[]⟩, .int .i64 0, .slice none 0 0]), 3, 48) := by kernel_rfl
/-- verdicts under way -/
structure VsK (w : World) (u : Value) (L : List Vx) (wx : World) : Prop where
  o : wx.ownsRow w.heap.size 99 3 u L.length (L.flatMap vxE)
  r : ∀ x ∈ L, RS 9 wx x.A x.ids.length x.ids
  bel : Below w.heap.size w wx
section
variable {w wx w' : World} {u v' : Value} {L : List Vx} {x : Vx}
theorem VsK.start (B : Below w.heap.size w wx) : VsK w (.slice none 0 0) [] wx := ⟨World.ownsRow_nil _ _ _ _, (fun x h => by cases h), B⟩
theorem VsK.below (h : VsK w u L wx) (B : Below wx.heap.size wx w') : VsK w u L w' := ⟨own_below h.o B, fun x hx => (h.r x hx).below B, below_next h.bel B⟩
theorem VsK.app (h : VsK w u L wx) (hx : RS 9 wx x.A x.ids.length x.ids) (ho : w'.ownsRow w.heap.size 99 3 v' (L.length + 1) (L.flatMap vxE ++ vxE x)) (hg : wx.grownBy w' u.ownBlock) : VsK w v' (L ++ [x]) w' := by
  have hk := keep_own7 h.o hg
  refine ⟨by rw [List.length_append, List.flatMap_append, List.flatMap_singleton]; exact ho, fun y hy => ?_, below_own h.bel h.o hg h.bel.size (Nat.le_refl _)⟩
  rcases List.mem_append.1 hy with hy | hy
  · exact (h.r y hy).keep (by decide) hk
  · obtain rfl := List.mem_singleton.1 hy
    exact hx.keep (by decide) hk
theorem VsK.fin {A : Option Addr} {n c : Nat} (h : VsK w (.slice A n c) L wx) (hn : n = L.length) (hb : n ≤ 140737488355328) : RVx wx A n L := ⟨RN.of_own vxE_len (by rw [hn] at h ⊢; exact h.o) hn.symm hb, h.r⟩
end
/-- what is decided of all of whom something is told -/
def vdsV (l : List Rp) (at_ : Int) (gone : ByteArray → Int → Bool) : List (ByteArray × Int × List ByteArray) := (toldV l at_).map fun who => (who, fltV l who at_ (gone who), idsV l who at_ (fltV l who at_ (gone who)))
theorem toldV_len (l : List Rp) (at_ : Int) : (toldV l at_).length ≤ l.length := Nat.le_trans (onceB_len _) (toldL_len l at_)
theorem equalS2_c (A1 A2 : Option Addr) (n c m d : Nat) (l : List ByteArray) (w : World) (h1 : RS 9 w A1 n l) (h2 : RS 9 w A2 m l) :
    Calls Tryz.prog 99 #[.slice A1 n c, .slice A2 m d] w fun e w' => e = .returned (.bool true) ∧ Below w.heap.size w w' := by
  have hn := h1.len
  have hm := h2.len
  have b1 := h1.bd
  obtain rfl : n = m := hn.symm.trans hm
  rcases Nat.eq_zero_or_pos n with h0 | hp
  · subst h0
    exact (Tryz.slices_Equal_string_empty A1 A2 c 0 d w (by omega)).mono fun _ _ ⟨he, hw⟩ => ⟨he, by rw [hw]; exact Below.refl _ _⟩
  · obtain ⟨b1', o1, rfl, hc1⟩ := shelfS h1 hp
    obtain ⟨b2', o2, rfl, hc2⟩ := shelfS h2 hp
    refine (Tryz.slices_Equal_string b1' o1 n c b2' o2 n d l l w (by omega) (by omega) (by omega) (by omega) hc1 hc2).mono fun _ _ ⟨he, q, hw⟩ => ⟨?_, by rw [hw]; exact below_drewN (Below.refl _ _) q⟩
    rw [he]; simp
theorem sameV_c (who : ByteArray) (fl : Int) (A1 A2 : Option Addr) (c1 c2 : Nat) (ids : List ByteArray) (w : World) (h1 : RS 9 w A1 ids.length ids) (h2 : RS 9 w A2 ids.length ids) :
    Calls Tryz.prog 48 #[.agg #[.string who, .int .i64 fl, .slice A1 ids.length c1], .agg #[.string who, .int .i64 fl, .slice A2 ids.length c2]] w fun e w' => e = .returned (.bool true) ∧ Below w.heap.size w w' := by
  have hb1 := blk_alloc (heap_alloc_new w (.cells #[.string who, .int .i64 fl, .slice A1 ids.length c1] 99)) (.cells #[.string who, .int .i64 fl, .slice A2 ids.length c2] 99)
  have hb2 := heap_alloc_new (w.alloc (.cells #[.string who, .int .i64 fl, .slice A1 ids.length c1] 99)) (.cells #[.string who, .int .i64 fl, .slice A2 ids.length c2] 99)
  rw [alloc_sizeS] at hb2
  have hB := below_next (below_new w (.cells #[.string who, .int .i64 fl, .slice A1 ids.length c1] 99)) (below_new (w.alloc (.cells #[.string who, .int .i64 fl, .slice A1 ids.length c1] 99)) (.cells #[.string who, .int .i64 fl, .slice A2 ids.length c2] 99))
  have x0 := (blk_facts hb1).1 0
  have x1 := (blk_facts hb1).1 1
  have x2 := (blk_facts hb1).1 2
  have y0 := (blk_facts hb2).1 0
  have y1 := (blk_facts hb2).1 1
  have y2 := (blk_facts hb2).1 2
  have hE := Lib.hid (equalS2_c A1 A2 ids.length c1 ids.length c2 ids _ (h1.below hB) (h2.below hB))
  clear hb1 hb2 h1 h2
  generalize ids.length = n at *
  go_enter Tryz.func48, Tryz.ntmps48
  go_wp2_with fail
  refine hE.out.mono ?_; rintro e w' ⟨rfl, B⟩
  have hB2 := below_next hB B
  go_wp2
  go_ret
  exact ⟨rfl, hB2⟩
set_option maxHeartbeats 1600000 in
set_option maxRecDepth 100000 in
theorem equalV_c (A1 A2 : Option Addr) (n c m d : Nat) (L1 L2 : List Vx) (w : World) (h1 : RVx w A1 n L1) (h2 : RVx w A2 m L2) (he : L1.map Vx.abs = L2.map Vx.abs) :
    Calls Tryz.prog 46 #[.slice A1 n c, .slice A2 m d, .func (.func 48) #[] #[]] w fun e w' => e = .returned (.bool true) ∧ Below w.heap.size w w' := by
  have hnm : n = m := by
    have e1 := h1.1.len
    have e2 := h2.1.len
    have e3 := congrArg List.length he
    rw [List.length_map, List.length_map] at e3
    omega
  subst hnm
  have b1 := h1.1.bd
  have hR1 := Lib.hid (fun W B => h1.below (w' := W) B)
  have hR2 := Lib.hid (fun W B => h2.below (w' := W) B)
  have he' := Lib.hid he
  clear h1 h2 he
  go_enter Tryz.func46, Tryz.ntmps46
  go_wp2_with fail
  go_loopw [17] (fun i wr => ∃ k : Nat, k ≤ n ∧ i = .int .i64 k ∧ Below w.heap.size w wr) (fun i _ => n - (intOf i).toNat)
  case atStart => exact ⟨0, Nat.zero_le _, rfl, Below.refl _ _⟩
  case round =>
    rename World => wr
    obtain ⟨k, hk, rfl, hB⟩ := hrel
    by_cases hlt : k < n
    · have hlti : (k : Int) < n := by omega
      obtain ⟨b, off, x, rfl, hbl, hx, c0, c1, c2, rx⟩ := RVx_at3 (hR1.out _ hB) hlt
      obtain ⟨b', off', y, rfl, hbl', hy, d0, d1, d2, ry⟩ := RVx_at3 (hR2.out _ hB) hlt
      have hxy : x.abs = y.abs := by
        have h9 := congrArg (fun l => l[k]?) he'.out
        simp only [List.getElem?_map, hx, hy, Option.map_some, Option.some.injEq] at h9
        exact h9
      obtain ⟨who, fl, A, cc, ids⟩ := x
      obtain ⟨who', fl', A', cc', ids'⟩ := y
      simp only [Vx.abs, Prod.mk.injEq] at hxy
      obtain ⟨rfl, rfl, rfl⟩ := hxy
      dsimp only at *
      have hs := Lib.hid (fun W (B : Below wr.heap.size wr W) => sameV_c who fl A A' cc cc' ids W (rx.below B) (ry.below B))
      have hB1 := below_new wr (.cells #[.string who, .int .i64 fl, .slice A ids.length cc] 99)
      have hB2 := below_next hB1 (below_new (wr.alloc (.cells #[.string who, .int .i64 fl, .slice A ids.length cc] 99)) (.cells #[.string who, .int .i64 fl, .slice A' ids.length cc'] 99))
      have hs2 := Lib.hid (hs.out _ hB2)
      have hn1 := blk_alloc (heap_alloc_new wr (.cells #[.string who, .int .i64 fl, .slice A ids.length cc] 99)) (.cells #[.string who, .int .i64 fl, .slice A' ids.length cc'] 99)
      have hn2 := heap_alloc_new (wr.alloc (.cells #[.string who, .int .i64 fl, .slice A ids.length cc] 99)) (.cells #[.string who, .int .i64 fl, .slice A' ids.length cc'] 99)
      rw [alloc_sizeS] at hn2
      have x0 := (blk_facts hn1).1 0
      have x1 := (blk_facts hn1).1 1
      have x2 := (blk_facts hn1).1 2
      have y0 := (blk_facts hn2).1 0
      have y1 := (blk_facts hn2).1 1
      have y2 := (blk_facts hn2).1 2
      have e0 := (World.cell?_of_block (hB1.block b' hbl')).trans d0
      have e1 := (World.cell?_of_block (hB1.block b' hbl')).trans d1
      have e2 := (World.cell?_of_block (hB1.block b' hbl')).trans d2
      have hBB := below_next hB hB2
      clear hx hy hs rx ry hn1 hn2
      generalize ids.length = q at *
      go_wp2_with fail
      refine hs2.out.mono ?_; rintro e w5 ⟨rfl, B5⟩
      have hB5 := below_next hBB B5
      go_wp2
      go_roundw
      case rel => exact ⟨k + 1, by omega, by go_num, hB5⟩
      case measure => simp [intOf]; omega
    · obtain rfl : k = n := by omega
      go_wp2
      go_ret
      exact ⟨rfl, hB⟩
def RetV1 (w : World) (D : List (ByteArray × Int × List ByteArray)) (e : Ending) (w' : World) : Prop := ∃ (A : Option Addr) (n c : Nat) (L : List Vx), e = .returned (.slice A n c) ∧ RVx w' A n L ∧ L.map Vx.abs = D ∧ Below w.heap.size w w'
theorem never_c (f : Int) (W : World) : Calls Tryz.prog 153 #[.int .i64 f] W fun e w' => e = .returned (.bool false) ∧ Below W.heap.size W w' := by
  go_enter Tryz.func153, Tryz.ntmps153
  go_wp2
  go_ret
  exact ⟨rfl, Below.refl _ _⟩
def momB (at_ : Int) : Bool := decide (0 ≤ at_ ∧ at_ ≤ 345686399999)
def vrdE (l : List Rp) (at_ : Int) : Int := if rpErr l ≠ 0 then rpErr l else if momB at_ = true then 0 else 1
theorem vds_take {l : List Rp} {at_ : Int} {gone : ByteArray → Int → Bool} {k : Nat} {who : ByteArray} (h : (toldV l at_)[k]? = some who) : ((toldV l at_).take (k + 1)).map (fun who => (who, fltV l who at_ (gone who), idsV l who at_ (fltV l who at_ (gone who)))) = ((toldV l at_).take k).map (fun who => (who, fltV l who at_ (gone who), idsV l who at_ (fltV l who at_ (gone who)))) ++ [(who, fltV l who at_ (gone who), idsV l who at_ (fltV l who at_ (gone who)))] := by
  rw [List.take_add_one, h, List.map_append]; rfl
end Go.Proofs.YtklggnglaeagpaaGreatDoor
