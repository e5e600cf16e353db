import Derived.Test.YtpepdkgkdbnakaaGreatDoorTouP
import Derived.Test.YtpepdkgkdbnakaaGreatDoorApp2
import Derived.Deep.DeepCutAuto
/- pad.touched, tumbref1.TouchedOf. Printed by wip/gentou.py. -/
namespace Go.Proofs.YtpepdkgkdbnakaaGreatDoor
open Go.RowKit Go.Shelf Go.Lib Go.Sort
set_option linter.unusedVariables false

theorem RN.dropN {α : Type} {size : Nat} {enc : α → List Value} {e : TypeId} {w : World} {b n j : Nat} {l : List α} (h : RN size enc e w (some ⟨b, 0, none⟩) n l) (hj : j ≤ n) : RN size enc e w (some ⟨b, j * size, none⟩) (n - j) (l.drop j) := by
  have hl := h.len
  refine ⟨by rw [List.length_drop]; omega, by have := h.2.1; omega, fun hp => ?_⟩
  obtain ⟨b', o', cs, fz, hA, hb, hc⟩ := h.2.2 (by omega)
  injection hA with hA
  injection hA with e1 e2
  subst e1 e2
  refine ⟨b, j * size, cs, fz, rfl, hb, fun k x hx i u hu => ?_⟩
  rw [List.getElem?_drop] at hx
  have := hc (j + k) x hx i u hu
  rw [show 0 + (j + k) * size + i = j * size + k * size + i by rw [Nat.add_mul]; omega] at this
  exact this
/-- the end of a slice that was read: l[k:] -/
theorem slice_drop {α : Type} {size : Nat} {enc : α → List Value} {e T : TypeId} {w : World} {A : Option Addr} {n c k : Nat} {l : List α} (h : RN size enc e w A n l) (hcp : CapOk A n c) (hk : k ≤ n) (hT : Tryz.prog.underlying T = some (.slice e)) (hs : ∀ W, Sem.run Tryz.prog (sizeOf e) W = .ok size W) :
    ∃ A' c', (∀ W, Sem.run Tryz.prog (Instr.sliceAt T (.slice A n c) (some (.int .i64 (k : Int))) none none) W = .ok (.slice A' (n - k) c') W) ∧ (∀ W, Sem.run Tryz.prog (Instr.slice T (.slice A n c) (some (.int .i64 (k : Int))) none none) W = .ok (.slice A' (n - k) c') W) ∧ RN size enc e w A' (n - k) (l.drop k) := by
  have he : Tryz.prog.elem T = e := by unfold Program.elem; rw [hT]
  have hT2 : Tryz.prog.underlying T = some (.slice (Tryz.prog.elem T)) := by rw [he]; exact hT
  have hr : ∀ W, Sem.run Tryz.prog (Instr.slice T (.slice A n c) (some (.int .i64 (k : Int))) none none) W = .ok (.slice (if c = k then A else A.map (·.add (k * size))) (n - k) (c - k)) W := fun W => by
    rw [run_slice_l W T A n c hT2 .i64 (k : Int) (by omega) (by omega), he, hs]
    simp [Result.andThen, sliced]
  refine ⟨_, _, fun W => (run_sliceAt_slice W T _ _ _ _ hT2).trans (hr W), hr, ?_⟩
  have hl := h.len
  have hnil : n - k = 0 → ∀ B, RN size enc e w B (n - k) (l.drop k) := fun h0 B => ⟨by rw [List.length_drop]; omega, by have := h.2.1; omega, fun hp => by omega⟩
  rcases hcp with ⟨rfl, h0, rfl⟩ | ⟨b, rfl, hnc⟩
  · exact hnil (by omega) _
  · by_cases hc : c = k
    · exact hnil (by omega) _
    · rw [if_neg hc]
      have e1 : Option.map (fun x : Addr => x.add (k * size)) (some ⟨b, 0, none⟩) = some ⟨b, k * size, none⟩ := by
        show some ((⟨b, 0, none⟩ : Addr).add (k * size)) = _
        rw [add_flat, Nat.zero_add]
      rw [e1]
      exact RN.dropN h hk
theorem map_at {α β : Type} {f : α → β} {l : List α} {k : Nat} {x : α} (h : l[k]? = some x) : (l.drop k).map f = f x :: (l.drop (k + 1)).map f := by rw [drop_at h]; rfl

set_option maxHeartbeats 6400000 in
set_option maxRecDepth 100000 in
theorem touched_c (N : Nat) (hN1 : 1 ≤ N) (hN : N ≤ 16) (Ac : Option Addr) (nc cc : Nat) (cl : List Ck) (A : Option Addr) (n c : Nat) (l : List Sg) (w : World) (hc : RCk w Ac nc cl) (h : RSg w A n l) (hcb : CkBd cl) (hsb : SgBd l) (hn : n ≤ 19) (H : Nat) (h1 : 1 ≤ H) (h2 : H ≤ (startsV cl l).length) (lane : Int) :
    Calls Tryz.prog 192 #[.int .i64 N, .slice Ac nc cc, .slice A n c, .int .i64 H, .int .i64 lane] w (RetTou w (touT cl l N H lane)) := by
  have hTo := Lib.hid (fun W B => padTouches_c Ac nc cc cl A n c l W (hc.below (w' := W) B) (h.below (w' := W) B) hcb hsb hn H h1 h2 lane)
  have hS3 := Lib.hid (fun W B => padSignals_c Ac nc cc cl A n c l W (hc.below (w' := W) B) (h.below (w' := W) B) hcb hsb hn H h1 h2 lane 3)
  have hS4 := Lib.hid (fun W B => padSignals_c Ac nc cc cl A n c l W (hc.below (w' := W) B) (h.below (w' := W) B) hcb hsb hn H h1 h2 lane 4)
  have htb : ∀ x ∈ touV cl l H lane, 0 ≤ x ∧ x ≤ 1000000000 := fun x hx => ⟨touV_ge cl l H lane h1 h2 x hx, by have := touV_le cl l H lane x hx; omega⟩
  have htl := touV_len cl l H lane
  have hLa := Lib.hid (fun A' n' c' W h1 h2 => padLaps_c N A' n' c' (touV cl l H lane) W h1 hN1 hN h2 htb)
  have hLl := lapsV_len N _ htb hN1 hN
  have hln := h.len
  have hT3 := tdL_len cl l H lane 3
  have hT4 := tdL_len cl l H lane 4
  have hRes : Hid (touT cl l N H lane = ⟨lastV (lapsV N (touV cl l H lane)), btnV (s0V cl l H) (tdL cl l H lane 3), wsV (tdL cl l H lane 4)⟩) := Lib.hid rfl
  have K0 := TB.start (Below.refl w.heap.size w)
  generalize touT cl l N H lane = TT at *
  generalize lapsV N (touV cl l H lane) = LV at *
  generalize touV cl l H lane = TV at *
  generalize tdL cl l H lane 3 = T3L at *
  generalize tdL cl l H lane 4 = T4L at *
  generalize s0V cl l H = s0 at *
  clear hc h hcb hsb htb h2
  go_enter Tryz.func192, Tryz.ntmps192
  go_wp2_with fail
  refine (hTo.out _ K0.bel).mono ?_; rintro e w1 ⟨A1, c1, rfl, o1, B1⟩
  have r1 : RI 3 w1 A1 TV.length TV := R1.of_own o1 (by omega)
  have K1 := K0.below B1
  clear hTo o1 B1 K0
  go_wp2_with fail
  refine (hLa.out A1 _ c1 _ r1 (by omega)).mono ?_; rintro e w2 ⟨A2, c2, rfl, o2, B2⟩
  have r2 : RLp w2 A2 LV.length LV := RN.of_own lpE_len o2 rfl (by omega)
  have K2 := K1.below B2
  clear hLa o2 B2 K1 r1
  go_upto_if 27 with (fail)
  go_cut [] (fun wx => TB w w.heap.size (lastV LV) 0 (.slice none 0 0) [] wx)
  case first =>
    clear hS3 hS4 hRes
    have cY := (blk_facts K2.y).1
    by_cases hz : LV.length = 0
    · replace hz := List.eq_nil_of_length_eq_zero hz
      subst hz
      have hl0 := Lib.hid (show lastV [] = 0 from rfl)
      go_wp2
      go_meet
      case rel => rw [hl0.out]; exact K2
    · obtain ⟨b, off, rfl, hb, hcs⟩ := RN.last r2 (by omega)
      have c1' := hcs 1 _ rfl
      have hl0 := Lib.hid (show lastV LV = (LV.getD (LV.length - 1) default).time by unfold lastV; rw [if_neg hz])
      generalize LV.getD (LV.length - 1) default = la at *
      generalize la.time = lt at *
      have K3 := K2.set0 lt
      have hq1 : ((LV.length : Int) - 1).toNat = LV.length - 1 := by omega
      have hq2 : (1 : Int) ≤ (LV.length : Int) := by omega
      have hfr := (blk_facts K2.y).2 0
      clear hcs r2 K2
      generalize LV.length = m at *
      go_wp2
      go_meet
      case rel => rw [hl0.out]; exact K3
  case rest =>
    have K := hcut
    clear hcut K2 r2
    rename World => w3
    go_wp2_with fail
    refine (hS3.out _ K.bel).mono ?_; rintro e w4 ⟨A4, c4, rfl, r4, B4, _⟩
    have K4 := K.below B4
    clear hS3 K B4
    generalize lastV LV = pd at *
    go_upto_if 43 with (fail)
    go_cut [] (fun wx => TB w w.heap.size pd (btnV s0 T3L) (.slice none 0 0) [] wx)
    case first =>
      clear hS4 hRes
      have cY := (blk_facts K4.y).1
      by_cases hz : T3L.length = 0
      · replace hz := List.eq_nil_of_length_eq_zero hz
        subst hz
        have hl0 := Lib.hid (show btnV s0 [] = 0 from rfl)
        go_wp2
        go_meet
        case rel => rw [hl0.out]; exact K4
      · obtain ⟨b, off, rfl, hb, hcs⟩ := RN.last r4 (by omega)
        have c7 := hcs 7 _ rfl
        have hl0 : btnV s0 T3L = if 1 ≤ ((T3L.getD (T3L.length - 1) default).tm - s0).tdiv 10 ∧ ((T3L.getD (T3L.length - 1) default).tm - s0).tdiv 10 ≤ 360000 then ((T3L.getD (T3L.length - 1) default).tm - s0).tdiv 10 else 0 := by unfold btnV; rw [if_neg hz]
        generalize T3L.getD (T3L.length - 1) default = la at *
        generalize (la.tm - s0).tdiv 10 = bt at *
        have hq1 : ((T3L.length : Int) - 1).toNat = T3L.length - 1 := by omega
        have hq2 : (1 : Int) ≤ (T3L.length : Int) := by omega
        have hfr := (blk_facts K4.y).2 1
        have K5 := K4.set1 bt
        clear hcs r4
        generalize T3L.length = m at *
        by_cases hin : 1 ≤ bt ∧ bt ≤ 360000
        · rw [if_pos hin] at hl0
          replace hl0 := Lib.hid hl0
          have hd := decide_eq_true hin
          go_wp2_with fail
          refine (isTime_c _ _).mono ?_; rintro e w' ⟨rfl, rfl⟩
          rw [hd]
          go_wp2
          go_meet
          case rel => rw [hl0.out]; exact K5
        · rw [if_neg hin] at hl0
          replace hl0 := Lib.hid hl0
          have hd := decide_eq_false hin
          go_wp2_with fail
          refine (isTime_c _ _).mono ?_; rintro e w' ⟨rfl, rfl⟩
          rw [hd]
          go_wp2
          go_meet
          case rel => rw [hl0.out]; exact K4
    case rest =>
      have K := hcut
      clear hcut K4 r4
      rename World => w5
      go_wp2_with fail
      refine (hS4.out _ K.bel).mono ?_; rintro e w6 ⟨A6, c6, rfl, r6, B6, hcp⟩
      have K6 := K.below B6
      clear hS4 K B6
      generalize btnV s0 T3L = bt at *
      have hRes2 := hRes.out
      subst hRes2
      clear hRes
      have hmx : max (0 : Int) ((T4L.length : Int) - 3) = ((T4L.length - 3 : Nat) : Int) := by omega
      have hws : Hid (wsV T4L = (T4L.drop (T4L.length - 3)).map fun t => t.x.time) := Lib.hid rfl
      have hwl := wsV_len T4L
      have hwd : (wsV T4L).length = (T4L.drop (T4L.length - 3)).length := by unfold wsV; rw [List.length_map]
      have hdl : (T4L.drop (T4L.length - 3)).length = T4L.length - (T4L.length - 3) := by rw [List.length_drop]
      have hT4' := hT4
      obtain ⟨A9, c9, hsl1, hsl2, r8⟩ := slice_drop (k := T4L.length - 3) r6 hcp (by omega) (T := 290) Tryz.underlying290 Tryz.sizeOf293
      rw [← hdl] at hsl1 hsl2 r8
      have K8 := K6
      clear r6 hcp K6
      obtain ⟨kx, hkx⟩ : ∃ kx, T4L.length - 3 = kx := ⟨_, rfl⟩
      rw [hkx] at hsl1 hsl2 r8 hmx hdl hws hwd
      have hD3 : (T4L.drop kx).length ≤ 3 := by omega
      generalize wsV T4L = WS at *
      generalize T4L.drop kx = D at *
      generalize T4L.length = m4 at *
      clear hdl hkx
      go_wp2_with fail
      skip
      · skip
        clear hT4 hT4' hsl1 hsl2 hmx
        go_loopw [67] (fun iv wx => ∃ (k : Nat) (u : Value) (acc : List Int), k ≤ D.length ∧ iv = .int .i64 k ∧ TB w w.heap.size pd bt u acc wx ∧ acc.length ≤ k ∧ RN 8 (tdE8 s0) 293 wx A9 D.length D ∧ Hid (acc ++ (D.drop k).map (fun t => t.x.time) = WS)) (fun iv _ => D.length - (intOf iv).toNat)
        case atStart => exact ⟨0, _, [], Nat.zero_le _, rfl, K8, Nat.le_refl _, r8, Lib.hid (by rw [hws.out]; rfl)⟩
        case round =>
          clear K8 r8
          obtain ⟨k, u, acc, hk, rfl, K, hac, r, hF⟩ := hrel
          by_cases hlt : k < D.length
          · obtain ⟨b, off, x, rfl, hbl, hx, hcs⟩ := r.at_ hlt
            have c0 : wr.cell? ⟨b, off + k * 8, none⟩ = some (.string x.x.dev) := hcs 0 _ rfl
            have c1 := hcs 1 _ rfl
            have c2 := hcs 2 _ rfl
            have c3 := hcs 3 _ rfl
            have c4 := hcs 4 _ rfl
            have c5 := hcs 5 _ rfl
            have c6 := hcs 6 _ rfl
            have c7 := hcs 7 _ rfl
            have hS2 := Lib.hid (show acc ++ [x.x.time] ++ (D.drop (k + 1)).map (fun t => t.x.time) = WS by rw [← hF.out, map_at hx, List.append_assoc]; rfl)
            clear hx hcs hF
            obtain ⟨⟨dev, no, kd, tm, ln, time⟩, at9⟩ := x
            dsimp only at *
            generalize (at9 - s0).tdiv 10 = hu at *
            obtain ⟨Au, cu, rfl⟩ := own_shape K.own
            have Kn := K.below (below_new wr (.cells #[.string dev, .int .i64 no, .int .i64 kd, .int .i64 tm, .int .i64 ln, .int .i64 time, .int .i64 at9, .int .i64 hu] 293))
            have rn := r.below (below_new wr (.cells #[.string dev, .int .i64 no, .int .i64 kd, .int .i64 tm, .int .i64 ln, .int .i64 time, .int .i64 at9, .int .i64 hu] 293))
            have cY : (World.alloc wr (.cells #[.string dev, .int .i64 no, .int .i64 kd, .int .i64 tm, .int .i64 ln, .int .i64 time, .int .i64 at9, .int .i64 hu] 293)).cell? ⟨w.heap.size + 1, 2, none⟩ = some (.slice Au acc.length cu) := (blk_facts Kn.y).1 2
            have hown := Lib.hid Kn.own
            have hz := Kn.hz
            clear K r
            go_wp2_with (at_builtin; refine wpList_app rfl (.tmp 72) (.tmp 76) 22 rfl Tryz.underlying22 info_int rfl (by omega) (by omega) hown.out rfl rfl (by first | rfl | (simp; done)) (by rfl) (by simp [Value.oneCell']) (by omega) (by omega) ?_; intro v7 w7 hown7 hg7; have hfz := (blk_facts (blk_grown Kn.y hg7 (Kn.ne (by omega)))).2 2; have hcz := (blk_facts (blk_grown Kn.y hg7 (Kn.ne (by omega)))).1 2; obtain ⟨A7, e7, rfl⟩ := own_shape hown7)
            have K7 := Kn.app hown7 hg7
            have r7 := Kn.keeps rn hg7 (by decide) (by decide) (.slice A7 (acc.length + 1) e7)
            clear Kn rn hown7 hg7 hown cY
            go_roundw
            case rel => exact ⟨k + 1, _, acc ++ [time], by omega, by go_num, K7, by rw [List.length_append]; simp; omega, r7, hS2⟩
            case measure => simp [intOf]; omega
          · obtain rfl : k = D.length := by omega
            have hA : acc = WS := by
              have := hF.out
              rw [drop_end (Nat.le_refl _), List.map_nil, List.append_nil] at this
              exact this
            subst hA
            obtain ⟨A5, c5, rfl⟩ := own_shape K.own
            have hri : RI 3 wr A5 acc.length acc := R1.of_own K.own (by omega)
            have y0 : wr.cell? ⟨w.heap.size + 1, 0, none⟩ = some (.int .i64 pd) := (blk_facts K.y).1 0
            have y1 : wr.cell? ⟨w.heap.size + 1, 1, none⟩ = some (.int .i64 bt) := (blk_facts K.y).1 1
            have y2 : wr.cell? ⟨w.heap.size + 1, 2, none⟩ = some (.slice A5 acc.length c5) := (blk_facts K.y).1 2
            have hKz := K.z
            have hZ := (blk_facts K.z)
            obtain ⟨hZ1, hZ2⟩ := hZ
            have hbl := K.bel
            have hhb := K.hb
            clear hF r K hws hwd
            go_wp2
            refine bodyPost_ret (v := .agg #[.int .i64 pd, .int .i64 bt, .slice A5 acc.length c5]) (by simp [results, Tryz.results192, go_sem, hZ1]) rfl ⟨A5, c5, rfl, ?_, ?_⟩
            · refine R1.keep (T := 253) hri (by decide) (Keep.of_grown (g := w.heap.size) hKz ?_)
              repeat (with_reducible refine grown_setCell ?_ (.inl rfl) _)
              exact grown_refl _ _
            · repeat (with_reducible refine Below.setCell ?_ (by first | (simp; done) | (simp; omega)) _)
              exact hbl
end Go.Proofs.YtpepdkgkdbnakaaGreatDoor
/- tumbref1.TouchedOf. Printed by wip/gentou.py. -/
namespace Go.Proofs.YtpepdkgkdbnakaaGreatDoor
open Go.RowKit Go.Shelf Go.Lib Go.Sort
set_option linter.unusedVariables false
end Go.Proofs.YtpepdkgkdbnakaaGreatDoor
/- pad.Touched, tumblaw1.sameTouch. -/
namespace Go.Proofs.YtpepdkgkdbnakaaGreatDoor
open Go.RowKit Go.Shelf Go.Lib Go.Sort
set_option linter.unusedVariables false

def RetTouE (w : World) (E : Int) (t : T3) (e : Ending) (w' : World) : Prop := ∃ A c, e = .returned (.tuple #[.agg #[.int .i64 t.pad, .int .i64 t.btn, .slice A t.ws.length c], .int .i64 E]) ∧ RI 3 w' A t.ws.length t.ws ∧ Below w.heap.size w w'
end Go.Proofs.YtpepdkgkdbnakaaGreatDoor
