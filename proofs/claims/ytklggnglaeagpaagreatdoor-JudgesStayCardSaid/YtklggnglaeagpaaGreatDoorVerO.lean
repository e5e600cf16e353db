import Derived.Test.YtklggnglaeagpaaGreatDoorVerT
/- judge.Verdicts with rows of its own: what is told is new memory. Out of VerD and VerT by wip/mkvero.py. -/
namespace Go.Proofs.YtklggnglaeagpaaGreatDoor
open Go.RowKit Go.Shelf Go.Lib Go.Sort
set_option linter.unusedVariables false

theorem vd3_own {w wr : World} {u : Value} {n : Nat} {xs : List Value} (h : wr.ownsRow (w.heap.size + 2) 9 1 u n xs) (a b c : Value) : (((wr.setCell ⟨w.heap.size, 0, none⟩ a).setCell ⟨w.heap.size, 1, none⟩ b).setCell ⟨w.heap.size, 2, none⟩ c).ownsRow w.heap.size 9 1 u n xs := by
  have hne : u.ownBlock = none ∨ u.ownBlock ≠ some w.heap.size := by
    cases e : u.ownBlock with
    | none => exact .inl rfl
    | some i => exact .inr (fun h9 => by injection h9 with h9; have := (h.lt i e).1; omega)
  exact own_mono (((h.kept (grown_setCell (grown_refl _ _) (p := ⟨w.heap.size, 0, none⟩) (.inl rfl) a) hne).kept (grown_setCell (grown_refl _ _) (p := ⟨w.heap.size, 1, none⟩) (.inl rfl) b) hne).kept (grown_setCell (grown_refl _ _) (p := ⟨w.heap.size, 2, none⟩) (.inl rfl) c) hne) (by omega)
def RetVdO (w : World) (who : ByteArray) (F : Int) (ids : List ByteArray) (T : Int) (e : Ending) (w' : World) : Prop := ∃ A c, e = .returned (.tuple #[.agg #[.string who, .int .i64 F, .slice A ids.length c], .int .i64 T]) ∧ RS 9 w' A ids.length ids ∧ CapOk A ids.length c ∧ w'.ownsRow w.heap.size 9 1 (.slice A ids.length c) ids.length (ids.map Value.string) ∧ Below w.heap.size w w'
set_option maxHeartbeats 6400000 in
set_option maxRecDepth 100000 in
theorem verdictNO_c (A : Option Addr) (n c : Nat) (l : List Rp) (who : ByteArray) (at_ : Int) (gone : Int → Bool) (w : World) (h : RRp w A n l) (hn : n ≤ 100000)
    (hG : ∀ (j : Nat) W, j < 8 → Below w.heap.size w W → Calls Tryz.prog 153 #[.int .i64 (1 + (j : Int))] W fun e w' => e = .returned (.bool (gone (1 + (j : Int)))) ∧ Below W.heap.size W w') :
    Calls Tryz.prog 152 #[.slice A n c, .string who, .int .i64 at_, .func (.func 153) #[] #[]] w (RetVdO w who (fltV l who at_ gone) (idsV l who at_ (fltV l who at_ gone)) (tmV l who at_ (fltV l who at_ gone))) := by
  have hR := Lib.hid (fun W B => h.below (w' := W) B)
  have hl := Lib.hid h.len
  have hSt := Lib.hid (fun f W (B : Below w.heap.size w W) => stands_c A n c l who f at_ W (h.below B))
  have hLa := Lib.hid (fun f W (B : Below w.heap.size w W) => last_c A n c l who f at_ W (h.below B))
  have hG' := Lib.hid hG
  have hF0 := Lib.hid (show vdF (pV l who at_ gone) 8 1 = fltV l who at_ gone from rfl)
  have hpV := Lib.hid (fun f => show pV l who at_ gone f = (stB l who f at_ && !gone f) from rfl)
  have hid0 := Lib.hid (show idsV l who at_ 0 = [] from rfl)
  have htm0 := Lib.hid (show tmV l who at_ 0 = 0 from rfl)
  have hid1 := Lib.hid (fun (F : Int) (h : F ≠ 0) => show idsV l who at_ F = repL who F at_ (lastV l who F at_).wt l from if_neg h)
  have htm1 := Lib.hid (fun (F : Int) (h : F ≠ 0) => show tmV l who at_ F = (lastV l who F at_).tm from if_neg h)
  have hGa := Lib.hid (fun (F W : Int) k x (h : l[k]? = some x) => repL_at (who := who) (f := F) (at_ := at_) (W := W) h)
  have hRl := Lib.hid (fun (F W : Int) => show (repL who F at_ W l).length ≤ n by rw [← h.len]; exact repL_len _ _ _ _ _)
  generalize fltV l who at_ gone = F at *
  generalize pV l who at_ gone = pp at *
  clear h hG
  have hb8 := blk_alloc (heap_alloc_new w (.cells #[.string ⟨#[]⟩, .int .i64 0, .slice none 0 0] 99)) (.cells #[.string who, .int .i64 0, .slice none 0 0] 99)
  have hb10 := heap_alloc_new (w.alloc (.cells #[.string ⟨#[]⟩, .int .i64 0, .slice none 0 0] 99)) (.cells #[.string who, .int .i64 0, .slice none 0 0] 99)
  rw [alloc_sizeS] at hb10
  have K0 : VK w who (.int .i64 0) (.slice none 0 0) ((w.alloc (.cells #[.string ⟨#[]⟩, .int .i64 0, .slice none 0 0] 99)).alloc (.cells #[.string who, .int .i64 0, .slice none 0 0] 99)) := ⟨hb8, hb10, below_next (below_new w _) (below_new _ _)⟩
  clear hb8 hb10
  go_enter Tryz.func152, Tryz.ntmps152
  go_wp2_with fail
  go_loopw [11] (fun f wr => ∃ (j : Nat), j ≤ 8 ∧ f = .int .i64 (1 + (j : Int)) ∧ VK w who (.int .i64 0) (.slice none 0 0) wr ∧ Hid (vdF pp (8 - j) (1 + (j : Int)) = F)) (fun f _ => 9 - (intOf f).toNat)
  case atStart => exact ⟨0, Nat.zero_le _, rfl, K0, hF0⟩
  case round =>
    clear K0
    rename World => wr
    obtain ⟨j, hj, rfl, K, hF⟩ := hrel
    by_cases hlt : j < 8
    · have hd8 : decide (1 + (j : Int) ≤ 8) = true := decide_eq_true (by omega)
      have hstep := Lib.hid (show (if pp (1 + (j : Int)) = true then 1 + (j : Int) else vdF pp (8 - (j + 1)) (1 + ((j + 1 : Nat) : Int))) = F by
        rw [← hF.out, show 8 - j = (8 - (j + 1)) + 1 by omega, show (1 + ((j + 1 : Nat) : Int)) = 1 + (j : Int) + 1 by omega]; rfl)
      have uw : IntKind.i64.wrap (1 + (j : Int) + 1) = 1 + (j : Int) + 1 := IntWalk.i64_in _ (by omega)
      have hpf := Lib.hid (hpV.out (1 + (j : Int)))
      have hSt1 := Lib.hid (hSt.out (1 + (j : Int)) wr K.bel)
      have hG1 := Lib.hid (fun W B => hG'.out j W hlt B)
      have hLa1 := Lib.hid (fun W B => hLa.out (1 + (j : Int)) W B)
      have hid9 := Lib.hid (hid1.out (1 + (j : Int)) (by omega))
      have htm9 := Lib.hid (htm1.out (1 + (j : Int)) (by omega))
      have hGa1 := Lib.hid (fun W k x h => hGa.out (1 + (j : Int)) W k x h)
      have hRl1 := Lib.hid (fun W => hRl.out (1 + (j : Int)) W)
      have hf1 : (1 : Int) ≤ 1 + (j : Int) := by omega
      generalize stB l who (1 + (j : Int)) at_ = sb at *
      generalize lastV l who (1 + (j : Int)) at_ = V at *
      generalize gone (1 + (j : Int)) = gb at *
      generalize pp (1 + (j : Int)) = pb at *
      clear hF
      go_wp2_with fail
      refine hSt1.out.mono ?_; rintro e w1 ⟨rfl, B1⟩
      replace K := K.below B1
      clear B1 hSt1
      cases sb
      · have hst2 := Lib.hid ((if_neg (by rw [hpf.out]; simp)).symm.trans hstep.out)
        clear hstep hpf
        go_wp2
        go_roundw
        case rel => exact ⟨j + 1, by omega, by go_num, K, hst2⟩
        case measure => simp [intOf]; omega
      go_wp2_with fail
      refine (hG1.out _ K.bel).mono ?_; rintro e w2 ⟨rfl, B2⟩
      replace K := K.below B2
      clear B2 hG1
      cases gb
      rotate_left
      · have hst2 := Lib.hid ((if_neg (by rw [hpf.out]; simp)).symm.trans hstep.out)
        clear hstep hpf
        go_wp2
        go_roundw
        case rel => exact ⟨j + 1, by omega, by go_num, K, hst2⟩
        case measure => simp [intOf]; omega
      obtain rfl : F = 1 + (j : Int) := by rw [← hstep.out, if_pos (by rw [hpf.out]; rfl)]
      clear hstep hpf hd8
      have q1 := (blk_facts K.b10).1 1
      have q2 := (blk_facts K.b10).2 1
      have K2 := K.set (.int .i64 (1 + (j : Int)))
      clear K
      obtain ⟨id1, jd1, wo1, fault1, tm1, wt1, nt1⟩ := V
      dsimp only [rpE] at *
      go_wp2_with fail
      refine (hLa1.out _ K2.bel).mono ?_; rintro e w3 ⟨rfl, B3⟩
      have K3 := K2.below B3
      clear q1 q2 K2 B3 hLa1
      have hn3 := heap_alloc_new w3 (.cells #[.string id1, .string jd1, .string wo1, .int .i64 fault1, .int .i64 tm1, .int .i64 wt1, .bool nt1] 96)
      have hs3 := lt_of_heap K3.b10
      have K4 := K3.below (below_new w3 (.cells #[.string id1, .string jd1, .string wo1, .int .i64 fault1, .int .i64 tm1, .int .i64 wt1, .bool nt1] 96))
      have hz4 : (w3.alloc (.cells #[.string id1, .string jd1, .string wo1, .int .i64 fault1, .int .i64 tm1, .int .i64 wt1, .bool nt1] 96)).heap.size = w3.heap.size + 1 := by simp
      clear K3
      have hRl2 := hRl1.out wt1
      obtain ⟨RP, hrep0⟩ : ∃ RP, repL who (1 + (j : Int)) at_ wt1 l = RP := ⟨_, rfl⟩
      have hrep := Lib.hid hrep0
      rw [hrep0] at hRl2
      replace hid9 := Lib.hid (hid9.out.trans hrep0)
      clear hrep0
      have hGa2 := Lib.hid (fun k x h => hGa1.out wt1 k x h)
      go_wp2_with fail
      go_loopw [51] (fun i wr => ∃ (k : Nat) (P : List ByteArray) (u : Value), k ≤ n ∧ i = .int .i64 k ∧ P.length ≤ k ∧ VK w who (.int .i64 (1 + (j : Int))) u wr ∧ wr.heap[w3.heap.size]? = some (.cells #[.string id1, .string jd1, .string wo1, .int .i64 fault1, .int .i64 tm1, .int .i64 wt1, .bool nt1] 96 (0, 0)) ∧ wr.ownsRow (w.heap.size + 2) 9 1 u P.length (P.map Value.string) ∧ w3.heap.size < wr.heap.size ∧ Hid (RP = P ++ repL who (1 + (j : Int)) at_ wt1 (l.drop k))) (fun i _ => n - (intOf i).toNat)
      case atStart => exact ⟨0, [], _, Nat.zero_le _, rfl, Nat.le_refl _, K4, hn3, World.ownsRow_nil _ _ _ _, by rw [hz4]; omega, Lib.hid (by rw [← hrep.out]; rfl)⟩
      case round =>
        clear K4 hn3 hz4
        rename World => wr
        obtain ⟨k, P, u, hk, rfl, hP, K, hn3, hown, hsz, hF⟩ := hrel
        by_cases hlt2 : k < n
        · obtain ⟨b, off, x, rfl, hbl, hx, c0, c1, c2, c3, c4, c5, c6⟩ := RRp_at7 (hR.out _ K.bel) hlt2
          have hS := Lib.hid (hGa2.out k x hx)
          clear hx
          obtain ⟨id, jd, wo, fault, tm, wt, nt⟩ := x
          dsimp only [rpE] at *
          have hn0 := heap_alloc_new wr (.cells #[.string id, .string jd, .string wo, .int .i64 fault, .int .i64 tm, .int .i64 wt, .bool nt] 96)
          have hBN := below_new wr (.cells #[.string id, .string jd, .string wo, .int .i64 fault, .int .i64 tm, .int .i64 wt, .bool nt] 96)
          have K5 := K.below hBN
          have hn5 := blk_below hn3 hBN
          have how5 := own_below hown hBN
          have hws := K.bel.size
          have hz5 : (wr.alloc (.cells #[.string id, .string jd, .string wo, .int .i64 fault, .int .i64 tm, .int .i64 wt, .bool nt] 96)).heap.size = wr.heap.size + 1 := by simp
          have hn0l := lt_of_heap hn0
          have x0 := (blk_facts hn0).1 0
          have x1 := (blk_facts hn0).1 1
          have x2 := (blk_facts hn0).1 2
          have x3 := (blk_facts hn0).1 3
          have x4 := (blk_facts hn0).1 4
          have x5 := (blk_facts hn0).1 5
          have x6 := (blk_facts hn0).1 6
          have y5 := (blk_facts hn5).1 5
          have q2 := (blk_facts K5.b10).1 2
          have hcase : (wo = who ∧ fault = 1 + (j : Int) ∧ tm ≤ at_ ∧ wt = wt1 ∧ nt = false) ∨ ((wo.toList == who.toList) = false) ∨ (wo = who ∧ (((fault == 1 + (j : Int)) = false) ∨ (fault = 1 + (j : Int) ∧ ((decide (tm ≤ at_) = false) ∨ (decide (tm ≤ at_) = true ∧ (((wt == wt1) = false) ∨ (wt = wt1 ∧ nt = true))))))) := by
            by_cases e1 : wo = who
            · by_cases e2 : fault = 1 + (j : Int)
              · by_cases e3 : tm ≤ at_
                · by_cases e4 : wt = wt1
                  · cases nt
                    · exact .inl ⟨e1, e2, e3, e4, rfl⟩
                    · exact .inr (.inr ⟨e1, .inr ⟨e2, .inr ⟨decide_eq_true e3, .inr ⟨e4, rfl⟩⟩⟩⟩)
                  · exact .inr (.inr ⟨e1, .inr ⟨e2, .inr ⟨decide_eq_true e3, .inl (beq_eq_false_iff_ne.2 e4)⟩⟩⟩)
                · exact .inr (.inr ⟨e1, .inr ⟨e2, .inl (decide_eq_false e3)⟩⟩)
              · exact .inr (.inr ⟨e1, .inl (beq_eq_false_iff_ne.2 e2)⟩)
            · exact .inr (.inl (str_neV e1))
          rcases hcase with ⟨h1, h2, e3, h4, h5⟩ | hcase
          · have hS2 := Lib.hid (hF.out.trans (by rw [hS.out, if_pos (by simp [mtB, h1, h2, e3, h4, h5]), ← List.append_assoc]))
            have d3 : decide (tm ≤ at_) = true := decide_eq_true e3
            have hz6 : w.heap.size + 2 ≤ (wr.alloc (.cells #[.string id, .string jd, .string wo, .int .i64 fault, .int .i64 tm, .int .i64 wt, .bool nt] 96)).heap.size := by rw [hz5]; omega
            have b1 : (wo.toList == who.toList) = true := by rw [h1]; exact beq_self_eq_true _
            have b2 : (fault == 1 + (j : Int)) = true := by rw [h2]; exact beq_self_eq_true _
            have b4 : (wt == wt1) = true := by rw [h4]; exact beq_self_eq_true _
            subst h5
            clear hS hF hown K hn3 hbl h1 h2 h4 e3
            go_wp2_with (at_builtin; refine wpList_app rfl (.tmp 84) (.tmp 87) 97 rfl Tryz.underlying97 info_strS rfl (by omega) (by omega) how5 rfl rfl (by first | rfl | (simp; done)) rfl (by simp [Value.oneCell']) (by omega) hz6 ?_; intro v7 w7 hown7 hg7; obtain ⟨A7, c7, rfl⟩ := own_shape hown7; have hb10 := blk_grown K5.b10 hg7 (fun e => by have := own_row_lt how5 _ e.symm; omega); have hb8 := blk_grown K5.b8 hg7 (fun e => by have := own_row_lt how5 _ e.symm; omega); have hn7 := blk_grown hn5 hg7 (fun e => by have h1 := own_ty3 how5 hn5 (by decide) _ e.symm; exact h1 rfl); have K7 : VK w who (.int .i64 (1 + (j : Int))) u w7 := ⟨hb8, hb10, below_own K5.bel how5 hg7 K5.bel.size (by omega)⟩; have g2 := (blk_facts hb10).1 2; have f2 := (blk_facts hb10).2 2; have K8 := K7.setU (.slice A7 (P.length + 1) c7); have hs7 := hg7.size; have hown8 : (w7.setCell ⟨w.heap.size + 1, 2, none⟩ (.slice A7 (P.length + 1) c7)).ownsRow (w.heap.size + 2) 9 1 (.slice A7 (P.length + 1) c7) (P ++ [id]).length ((P ++ [id]).map Value.string) := (show w7.ownsRow (w.heap.size + 2) 9 1 (.slice A7 (P.length + 1) c7) (P ++ [id]).length ((P ++ [id]).map Value.string) by rw [List.map_append, List.length_append]; exact hown7).kept (grown_setCell (grown_refl w7 (some (w.heap.size + 1))) (p := ⟨w.heap.size + 1, 2, none⟩) (.inl rfl) _) (own_ne hown7 (by omega)); clear hown7 hb10 hb8 K7)
            go_roundw
            case rel => exact ⟨k + 1, P ++ [id], .slice A7 (P.length + 1) c7, by omega, by go_num, by rw [List.length_append]; simp; omega, K8, (by rw [Below.heap_setCell _ _ _ _ (by show w3.heap.size ≠ w.heap.size + 1; omega)]; exact hn7), hown8, by simp [World.setCell]; omega, hS2⟩
            case measure => simp [intOf]; omega
          · have hno : ¬ (mtB who (1 + (j : Int)) at_ ⟨id, jd, wo, fault, tm, wt, nt⟩ && (decide (wt = wt1) && !nt)) = true := by
              intro hh
              simp only [mtB, Bool.and_eq_true, decide_eq_true_eq, Bool.not_eq_true'] at hh
              obtain ⟨⟨h3, h4, h5⟩, h6, h7⟩ := hh
              rcases hcase with q | ⟨_, q | ⟨_, q | ⟨_, q | ⟨_, q⟩⟩⟩⟩
              · rw [h3] at q; simp at q
              · rw [h4] at q; simp at q
              · exact absurd h5 (of_decide_eq_false q)
              · rw [h6] at q; simp at q
              · rw [h7] at q; cases q
            have hS2 := Lib.hid (hF.out.trans (by rw [hS.out, if_neg hno, List.nil_append]))
            clear hS hno hF hown K hn3
            rcases hcase with q | ⟨h1, q | ⟨h2, q | ⟨q, q' | ⟨h4, h5⟩⟩⟩⟩
            · go_wp2
              go_roundw
              case rel => exact ⟨k + 1, P, u, by omega, by go_num, by omega, K5, hn5, how5, by omega, hS2⟩
              case measure => simp [intOf]; omega
            · have b1 : (wo.toList == who.toList) = true := by rw [h1]; exact beq_self_eq_true _
              clear h1
              go_wp2
              go_roundw
              case rel => exact ⟨k + 1, P, u, by omega, by go_num, by omega, K5, hn5, how5, by omega, hS2⟩
              case measure => simp [intOf]; omega
            · have b1 : (wo.toList == who.toList) = true := by rw [h1]; exact beq_self_eq_true _
              have b2 : (fault == 1 + (j : Int)) = true := by rw [h2]; exact beq_self_eq_true _
              clear h1 h2
              go_wp2
              go_roundw
              case rel => exact ⟨k + 1, P, u, by omega, by go_num, by omega, K5, hn5, how5, by omega, hS2⟩
              case measure => simp [intOf]; omega
            · have b1 : (wo.toList == who.toList) = true := by rw [h1]; exact beq_self_eq_true _
              have b2 : (fault == 1 + (j : Int)) = true := by rw [h2]; exact beq_self_eq_true _
              clear h1 h2
              go_wp2
              go_roundw
              case rel => exact ⟨k + 1, P, u, by omega, by go_num, by omega, K5, hn5, how5, by omega, hS2⟩
              case measure => simp [intOf]; omega
            · have b1 : (wo.toList == who.toList) = true := by rw [h1]; exact beq_self_eq_true _
              have b2 : (fault == 1 + (j : Int)) = true := by rw [h2]; exact beq_self_eq_true _
              have b4 : (wt == wt1) = true := by rw [h4]; exact beq_self_eq_true _
              subst h5
              clear h1 h2 h4
              go_wp2
              go_roundw
              case rel => exact ⟨k + 1, P, u, by omega, by go_num, by omega, K5, hn5, how5, by omega, hS2⟩
              case measure => simp [intOf]; omega
        · obtain rfl : k = n := by omega
          have hfin : RP = P := by rw [hF.out, drop_end (by rw [hl.out]; exact Nat.le_refl _)]; simp [repL]
          subst hfin
          obtain ⟨A9, c9, rfl⟩ := own_shape hown
          have hrs : RS 9 wr A9 RP.length RP := R1.of_own hown (by omega)
          have hcp := Lib.hid (capOk_own hown)
          have hoF1 := Lib.hid (vd3_own hown (.string who) (.int .i64 (1 + (j : Int))) (.slice A9 RP.length c9))
          clear hF hown
          have hbF1 := Lib.hid (vd3_blk K.b8 (.string who) (.int .i64 (1 + (j : Int))) (.slice A9 RP.length c9))
          have hBF1 := Lib.hid (vd3_below K.bel (Nat.le_refl _) (.string who) (.int .i64 (1 + (j : Int))) (.slice A9 RP.length c9))
          have hrF1 := Lib.hid (vd3_RS K.b8 hrs (.string who) (.int .i64 (1 + (j : Int))) (.slice A9 RP.length c9))
          have y0 := (blk_facts K.b10).1 0
          have y1 := (blk_facts K.b10).1 1
          have y2 := (blk_facts K.b10).1 2
          have v0 := (blk_facts K.b8).1 0
          have v1 := (blk_facts K.b8).1 1
          have v2 := (blk_facts K.b8).1 2
          have f0 := (blk_facts K.b8).2 0
          have f1 := (blk_facts K.b8).2 1
          have f2 := (blk_facts K.b8).2 2
          clear K hrs
          go_wp2
          generalize hW : ((wr.setCell ⟨w.heap.size, 0, none⟩ (.string who)).setCell ⟨w.heap.size, 1, none⟩ (.int .i64 (1 + (j : Int)))).setCell ⟨w.heap.size, 2, none⟩ (.slice A9 RP.length c9) = wF
          have hbF := hbF1.out
          have hBF := hBF1.out
          have hrF := hrF1.out
          have hoF := hoF1.out
          replace hbF : wF.heap[w.heap.size]? = some (.cells #[.string who, .int .i64 (1 + (j : Int)), (.slice A9 RP.length c9)] 99 (0, 0)) := by rw [← hW]; exact hbF
          replace hBF : Below w.heap.size w wF := by rw [← hW]; exact hBF
          replace hrF : RS 9 wF A9 RP.length RP := by rw [← hW]; exact hrF
          replace hoF : wF.ownsRow w.heap.size 9 1 (.slice A9 RP.length c9) RP.length (RP.map Value.string) := by rw [← hW]; exact hoF
          clear hoF1
          clear hW v0 v1 v2 f0 f1 f2 y0 y1 y2 hbF1 hBF1 hrF1
          have zF := (blk_facts hbF).1
          (try simp only [Exit.inBlock, Exit.then])
          refine bodyPost_ret (v := .tuple #[.agg #[.string who, .int .i64 (1 + (j : Int)), (.slice A9 RP.length c9)], .int .i64 tm1]) ?_ rfl (show RetVdO w who (1 + (j : Int)) (idsV l who at_ (1 + (j : Int))) (tmV l who at_ (1 + (j : Int))) _ _ by rw [hid9.out, htm9.out]; exact ⟨A9, c9, rfl, hrF, hcp.out, hoF, hBF⟩)
          simp [results, Tryz.results152, go_sem, zF]

    · obtain rfl : j = 8 := by omega
      have hFz : F = 0 := by rw [← hF.out]; rfl
      subst hFz
      have hrs : RS 9 wr none 0 [] := R1.nil_ _ _ _ _
      clear hF
      have hbF1 := Lib.hid (vd3_blk K.b8 (.string who) (.int .i64 0) (.slice none 0 0))
      have hBF1 := Lib.hid (vd3_below K.bel (Nat.le_refl _) (.string who) (.int .i64 0) (.slice none 0 0))
      have hrF1 := Lib.hid (vd3_RS K.b8 hrs (.string who) (.int .i64 0) (.slice none 0 0))
      have y0 := (blk_facts K.b10).1 0
      have y1 := (blk_facts K.b10).1 1
      have y2 := (blk_facts K.b10).1 2
      have v0 := (blk_facts K.b8).1 0
      have v1 := (blk_facts K.b8).1 1
      have v2 := (blk_facts K.b8).1 2
      have f0 := (blk_facts K.b8).2 0
      have f1 := (blk_facts K.b8).2 1
      have f2 := (blk_facts K.b8).2 2
      clear K hrs
      go_wp2
      generalize hW : ((wr.setCell ⟨w.heap.size, 0, none⟩ (.string who)).setCell ⟨w.heap.size, 1, none⟩ (.int .i64 0)).setCell ⟨w.heap.size, 2, none⟩ (.slice none 0 0) = wF
      have hbF := hbF1.out
      have hBF := hBF1.out
      have hrF := hrF1.out
      replace hbF : wF.heap[w.heap.size]? = some (.cells #[.string who, .int .i64 0, (.slice none 0 0)] 99 (0, 0)) := by rw [← hW]; exact hbF
      replace hBF : Below w.heap.size w wF := by rw [← hW]; exact hBF
      replace hrF : RS 9 wF none 0 [] := by rw [← hW]; exact hrF
      clear hW v0 v1 v2 f0 f1 f2 y0 y1 y2 hbF1 hBF1 hrF1
      have zF := (blk_facts hbF).1
      (try simp only [Exit.inBlock, Exit.then])
      refine bodyPost_ret (v := .tuple #[.agg #[.string who, .int .i64 0, (.slice none 0 0)], .int .i64 0]) ?_ rfl (show RetVdO w who 0 (idsV l who at_ 0) (tmV l who at_ 0) _ _ by rw [hid0.out, htm0.out]; exact ⟨none, 0, rfl, hrF, .inl ⟨rfl, rfl, rfl⟩, World.ownsRow_nil _ _ _ _, hBF⟩)
      simp [results, Tryz.results152, go_sem, zF]

theorem own_tyO {w : World} {B1 B2 s1 s2 n1 n2 : Nat} {e1 e2 : TypeId} {u1 u2 : Value} {x1 x2 : List Value} (h1 : w.ownsRow B1 e1 s1 u1 n1 x1) (h2 : w.ownsRow B2 e2 s2 u2 n2 x2) (he : e2 ≠ e1) : u2.ownBlock = none ∨ u2.ownBlock ≠ u1.ownBlock := by
  rcases h2.2 with ⟨rfl, _⟩ | ⟨g2, cap2, cur2, rfl, _, hh2, _⟩
  · exact .inl rfl
  · refine .inr ?_
    rcases h1.2 with ⟨rfl, _⟩ | ⟨g1, cap1, cur1, rfl, _, hh1, _⟩
    · simp [Value.ownBlock]
    · intro e
      have e' : g2 = g1 := by simpa [Value.ownBlock] using e
      subst e'
      rw [hh1] at hh2
      injection hh2 with hh2
      injection hh2 with _ hh2
      exact he hh2.symm
/-- verdicts under way, with rows of their own -/
structure VsKO (w : World) (u : Value) (L : List Vx) (wx : World) : Prop where
  o : wx.ownsRow w.heap.size 99 3 u L.length (L.flatMap vxE)
  r : ∀ x ∈ L, RS 9 wx x.A x.ids.length x.ids
  wo : ∀ x ∈ L, wx.ownsRow w.heap.size 9 1 (.slice x.A x.ids.length x.c) x.ids.length (x.ids.map Value.string)
  bel : Below w.heap.size w wx
section
variable {w wx w' : World} {u v' : Value} {L : List Vx} {x : Vx}
theorem VsKO.start (B : Below w.heap.size w wx) : VsKO w (.slice none 0 0) [] wx := ⟨World.ownsRow_nil _ _ _ _, (fun x h => by cases h), (fun x h => by cases h), B⟩
theorem VsKO.below (h : VsKO w u L wx) (B : Below wx.heap.size wx w') : VsKO w u L w' := ⟨own_below h.o B, fun x hx => (h.r x hx).below B, fun x hx => own_below (h.wo x hx) B, below_next h.bel B⟩
theorem VsKO.app (h : VsKO w u L wx) (hx : RS 9 wx x.A x.ids.length x.ids) (hw : wx.ownsRow w.heap.size 9 1 (.slice x.A x.ids.length x.c) x.ids.length (x.ids.map Value.string)) (ho : w'.ownsRow w.heap.size 99 3 v' (L.length + 1) (L.flatMap vxE ++ vxE x)) (hg : wx.grownBy w' u.ownBlock) : VsKO w v' (L ++ [x]) w' := by
  have hk := keep_own7 h.o hg
  refine ⟨by rw [List.length_append, List.flatMap_append, List.flatMap_singleton]; exact ho, fun y hy => ?_, fun y hy => ?_, below_own h.bel h.o hg h.bel.size (Nat.le_refl _)⟩
  · rcases List.mem_append.1 hy with hy | hy
    · exact (h.r y hy).keep (by decide) hk
    · obtain rfl := List.mem_singleton.1 hy
      exact hx.keep (by decide) hk
  · rcases List.mem_append.1 hy with hy | hy
    · exact (h.wo y hy).kept hg (own_tyO h.o (h.wo y hy) (by decide))
    · obtain rfl := List.mem_singleton.1 hy
      exact hw.kept hg (own_tyO h.o hw (by decide))
theorem VsKO.fin {A : Option Addr} {n c : Nat} (h : VsKO w (.slice A n c) L wx) (hn : n = L.length) (hb : n ≤ 140737488355328) : RVx wx A n L := ⟨RN.of_own vxE_len (by rw [hn] at h ⊢; exact h.o) hn.symm hb, h.r⟩
end
def RetVsO (w : World) (E : Int) (D : List (ByteArray × Int × List ByteArray)) (e : Ending) (w' : World) : Prop := ∃ (A : Option Addr) (n c : Nat) (L : List Vx), e = .returned (.tuple #[.slice A n c, .int .i64 E]) ∧ RVx w' A n L ∧ w'.ownsRow w.heap.size 99 3 (.slice A n c) L.length (L.flatMap vxE) ∧ (∀ x ∈ L, w'.ownsRow w.heap.size 9 1 (.slice x.A x.ids.length x.c) x.ids.length (x.ids.map Value.string)) ∧ L.map Vx.abs = D ∧ Below w.heap.size w w'
set_option maxHeartbeats 6400000 in
set_option maxRecDepth 100000 in
theorem verdictsO_c (A : Option Addr) (n c : Nat) (l : List Rp) (at_ : Int) (w : World) (h : RRp w A n l) (hn : n ≤ 1000) :
    Calls Tryz.prog 42 #[.slice A n c, .int .i64 at_] w (RetVsO w (vrdE l at_) (if vrdE l at_ = 0 then vdsV l at_ (fun _ _ => false) else [])) := by
  have hC := Lib.hid (checkReports_c A n c l w h)
  have hT := Lib.hid (fun W (B : Below w.heap.size w W) => told_c A n c l at_ W (h.below B) (by omega))
  have hV := Lib.hid (fun who W (B : Below w.heap.size w W) => verdictNO_c A n c l who at_ (fun _ => false) W (h.below B) (by omega) (fun j W2 _ _ => never_c _ W2))
  have hE := Lib.hid (show vrdE l at_ = if rpErr l ≠ 0 then rpErr l else if momB at_ = true then 0 else 1 from rfl)
  have hD := Lib.hid (show vdsV l at_ (fun _ _ => false) = (toldV l at_).map fun who => (who, fltV l who at_ (fun _ => false), idsV l who at_ (fltV l who at_ (fun _ => false))) from rfl)
  have hst := Lib.hid (fun k who h => vds_take (l := l) (at_ := at_) (gone := fun _ _ => false) (k := k) (who := who) h)
  have hTl := toldV_len l at_
  rw [h.len] at hTl
  have hmb : momB at_ = decide (0 ≤ at_ ∧ at_ ≤ 345686399999) := rfl
  generalize vrdE l at_ = E at *
  generalize rpErr l = RE at *
  generalize momB at_ = mb at *
  generalize toldV l at_ = TV at *
  have hmb' := Lib.hid hmb
  clear hmb h
  go_enter Tryz.func42, Tryz.ntmps42
  go_wp2_with fail
  refine hC.out.mono ?_; rintro e w1 ⟨rfl, B1⟩
  by_cases h0 : RE = 0
  rotate_left
  · have hd : (RE != 0) = true := by simpa using h0
    obtain rfl : E = RE := by rw [hE.out, if_pos h0]
    have h0' := Lib.hid h0
    clear h0 hE
    go_wp2
    go_ret2
    exact ⟨none, 0, 0, [], rfl, ⟨RN.nil_ _ _ _ _ _, fun x h => by cases h⟩, World.ownsRow_nil _ _ _ _, (fun x h => by cases h), by first | rfl | (rw [if_neg h0'.out]; rfl), B1⟩
  subst h0
  cases mb
  · obtain rfl : E = 1 := by rw [hE.out, if_neg (by decide), if_neg (by decide)]
    clear hE
    go_wp2_with (go_at_call 150; refine (isMoment_c _ _).mono ?_; rintro e w' ⟨rfl, rfl⟩; rw [← hmb'.out])
    go_ret2
    exact ⟨none, 0, 0, [], rfl, ⟨RN.nil_ _ _ _ _ _, fun x h => by cases h⟩, World.ownsRow_nil _ _ _ _, (fun x h => by cases h), by first | rfl | (rw [if_neg (by decide)]; rfl), B1⟩
  obtain rfl : E = 0 := by rw [hE.out, if_neg (by decide), if_pos rfl]
  clear hE
  go_wp2_with (first | (go_at_call 150; refine (isMoment_c _ _).mono ?_; rintro e w' ⟨rfl, rfl⟩; rw [← hmb'.out]))
  refine (hT.out _ B1).mono ?_; rintro e w2 ⟨A2, c2, rfl, r2, B2⟩
  have hB2 := below_next B1 B2
  have K0 : VsKO w (.slice none 0 0) [] w2 := VsKO.start hB2
  have hTd := Lib.hid (show TV.map (fun who => (who, fltV l who at_ (fun _ => false), idsV l who at_ (fltV l who at_ (fun _ => false)))) = vdsV l at_ (fun _ _ => false) from hD.out.symm)
  generalize hm : TV.length = m at *
  have hm' := Lib.hid hm
  clear hm hT hC B1 B2 hD
  go_wp2_with fail
  go_loopw [7, 24] (fun u i wr => ∃ (k : Nat) (L : List Vx), k ≤ m ∧ i = .int .i64 k ∧ L.length ≤ k ∧ VsKO w u L wr ∧ RS 9 wr A2 m TV ∧ Hid (L.map Vx.abs = (TV.take k).map (fun who => (who, fltV l who at_ (fun _ => false), idsV l who at_ (fltV l who at_ (fun _ => false)))))) (fun _ i _ => m - (intOf i).toNat)
  case atStart => exact ⟨0, [], Nat.zero_le _, rfl, Nat.le_refl _, K0, r2, Lib.hid rfl⟩
  case round =>
    clear K0 r2
    rename World => wr
    obtain ⟨k, L, hk, rfl, hL, K, rT, hF⟩ := hrel
    by_cases hlt : k < m
    · obtain ⟨b, off, who, rfl, hbl, hx, cx⟩ := rT.at_ hlt
      have hF2 := Lib.hid (show (L.map Vx.abs ++ [(who, fltV l who at_ (fun _ => false), idsV l who at_ (fltV l who at_ (fun _ => false)))]) = (TV.take (k + 1)).map (fun who => (who, fltV l who at_ (fun _ => false), idsV l who at_ (fltV l who at_ (fun _ => false)))) by rw [hst.out k who hx, hF.out])
      have hV1 := Lib.hid (hV.out who wr K.bel)
      clear hx hF
      generalize tmV l who at_ (fltV l who at_ (fun _ => false)) = tv at *
      generalize idsV l who at_ (fltV l who at_ (fun _ => false)) = iv at *
      generalize fltV l who at_ (fun _ => false) = fv at *
      go_wp2_with fail
      refine hV1.out.mono ?_; rintro e w5 ⟨A5, c5, rfl, r5, hcp, o5, B5⟩
      have K5 := K.below B5
      have rT5 := rT.below B5
      have hn6 := heap_alloc_new w5 (.cells #[.string who, .int .i64 fv, .slice A5 iv.length c5] 99)
      have hBn := below_new w5 (.cells #[.string who, .int .i64 fv, .slice A5 iv.length c5] 99)
      have K6 := K5.below hBn
      have r6 := r5.below hBn
      have o6 := own_mono (own_below o5 hBn) K.bel.size
      have rT6 := rT5.below hBn
      have hz6 := K6.bel.size
      have y0 := (blk_facts hn6).1 0
      have y1 := (blk_facts hn6).1 1
      have y2 := (blk_facts hn6).1 2
      clear K K5 B5 rT rT5 hBn r5 o5 hcp hV1 hn6 cx
      go_wp2_with (at_builtin; refine wpList_app rfl (.tmp 35) (.tmp 37) 28 rfl Tryz.underlying28 info_verdict rfl (by omega) (by omega) K6.o rfl rfl (by first | rfl | (simp; done)) rfl (by simp [Value.oneCell']) (by omega) hz6 ?_; intro v7 w7 hown7 hg7)
      have K7 := K6.app (x := ⟨who, fv, A5, c5, iv⟩) r6 o6 hown7 hg7
      have rT7 := rT6.keep (T := 99) (by decide) (keep_own7 K6.o hg7)
      clear hown7 hg7 K6 r6 rT6 o6
      go_roundw
      case rel => exact ⟨k + 1, _, by omega, by go_num, by rw [List.length_append]; simp; omega, K7, rT7, Lib.hid (by rw [List.map_append]; exact hF2.out)⟩
      case measure => simp [intOf]; omega
    · obtain rfl : k = m := by omega
      have hD9 : L.map Vx.abs = vdsV l at_ (fun _ _ => false) := by rw [hF.out, List.take_of_length_le (by rw [hm'.out]; exact Nat.le_refl _), hTd.out]
      have hD9' := Lib.hid hD9
      obtain ⟨A9, c9, rfl⟩ := own_shape K.o
      have hfin := K.fin rfl (by omega)
      have hfo := Lib.hid (And.intro K.o K.wo)
      have hbel := K.bel
      clear hF hD9 K
      go_wp2
      go_ret2
      exact ⟨A9, L.length, c9, L, rfl, hfin, hfo.out.1, hfo.out.2, by first | exact hD9'.out | (rw [if_pos rfl]; exact hD9'.out), hbel⟩
end Go.Proofs.YtklggnglaeagpaaGreatDoor
