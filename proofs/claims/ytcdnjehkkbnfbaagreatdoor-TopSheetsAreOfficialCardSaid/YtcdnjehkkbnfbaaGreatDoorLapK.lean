import Derived.Test.YtcdnjehkkbnfbaaGreatDoorLapG
import Derived.Deep.RegionHeld3
import Derived.Test.YtcdnjehkkbnfbaaGreatDoorPadF
import Derived.Laws.StructEq
/- tumbref1.PadLaps. -/
namespace Go.Proofs.YtcdnjehkkbnfbaaGreatDoor
open Go.RowKit Go.Lib
set_option linter.unusedVariables false

theorem idxFrom_cases (x : Int) : ∀ (zs : List Int) (i : Nat), (∃ q, zs[q]? = some x ∧ Lib.idxFrom zs x i = ((i + q : Nat) : Int)) ∨ (Lib.idxFrom zs x i = -1 ∧ ∀ z ∈ zs, z ≠ x)
  | [], i => .inr ⟨rfl, fun _ h => by cases h⟩
  | z :: zs, i => by
    by_cases h : z = x
    · exact .inl ⟨0, by rw [h]; rfl, by simp [Lib.idxFrom, h]⟩
    · rcases idxFrom_cases x zs (i + 1) with ⟨q, h1, h2⟩ | ⟨h1, h2⟩
      · refine .inl ⟨q + 1, by simpa using h1, ?_⟩
        simp only [Lib.idxFrom, if_neg h]
        rw [h2]; congr 1; omega
      · refine .inr ⟨?_, fun y hy => ?_⟩
        · simp only [Lib.idxFrom, if_neg h]; exact h1
        · rcases List.mem_cons.1 hy with rfl | hy
          · exact h
          · exact h2 y hy
theorem idxBy_cases (p : Int → Bool) (d : Int) : ∀ (zs : List Int) (i : Nat), (∃ q y, zs[q]? = some y ∧ p y = true ∧ (∀ j z, j < q → zs[j]? = some z → p z = false) ∧ Lib.idxByFrom (fun _ y => p y) d zs i = ((i + q : Nat) : Int)) ∨ (Lib.idxByFrom (fun _ y => p y) d zs i = -1 ∧ ∀ z ∈ zs, p z = false)
  | [], i => .inr ⟨rfl, fun _ h => by cases h⟩
  | z :: zs, i => by
    by_cases h : p z = true
    · exact .inl ⟨0, z, rfl, h, fun j _ hj => absurd hj (by omega), by simp [Lib.idxByFrom, h]⟩
    · have h' : p z = false := by simpa using h
      rcases idxBy_cases p d zs (i + 1) with ⟨q, y, h1, h2, h3, h4⟩ | ⟨h1, h2⟩
      · refine .inl ⟨q + 1, y, by simpa using h1, h2, fun j u hj hu => ?_, ?_⟩
        · cases j with
          | zero => obtain rfl : z = u := by simpa using hu
                    exact h'
          | succ j => exact h3 j u (by omega) (by simpa using hu)
        · simp only [Lib.idxByFrom, h']
          rw [if_neg (by simp), h4]; congr 1; omega
      · refine .inr ⟨?_, fun y hy => ?_⟩
        · simp only [Lib.idxByFrom, h']
          rw [if_neg (by simp)]; exact h1
        · rcases List.mem_cons.1 hy with rfl | hy
          · exact h'
          · exact h2 y hy
theorem nx_first {k : Int} : ∀ {ps : List (Int × Int)} {q : Nat} {p : Int × Int}, ps[q]? = some p → k < p.1 → (∀ j z, j < q → ps[j]? = some z → ¬ k < z.1) → LP.nx k ps = some p
  | [], _, _, h, _, _ => by simp at h
  | a :: r, 0, p, h, hk, _ => by
    obtain rfl : a = p := by simpa using h
    unfold LP.nx; rw [if_pos hk]
  | a :: r, q + 1, p, h, hk, hf => by
    unfold LP.nx
    rw [if_neg (hf 0 a (by omega) rfl)]
    exact nx_first (by simpa using h) hk (fun j z hj hz => hf (j + 1) z (by omega) (by simpa using hz))
/-- the ends at which touches stand -/
def atV (N : Nat) (G : List Int) : List Int := (standV N G).map fun k => (endsV N).getD k 0
theorem atV_len {N : Nat} {G : List Int} : (atV N G).length = (standV N G).length := by unfold atV; rw [List.length_map]
theorem atV_prs (N : Nat) (G : List Int) : (atV N G).zip G = LP.prs (endsV N) ((standV N G).zip G) := by
  unfold atV LP.prs
  rw [List.zip_map_left]; rfl
theorem upL_up {M : Nat} : ∀ {l : List Nat} {i : Nat} {G : List Int}, UpL i M l → l.length = G.length → LP.Up i M (l.zip G)
  | [], i, G, h, hl => by
    have : G = [] := List.eq_nil_of_length_eq_zero hl.symm
    subst this; exact h
  | k :: r, i, [], h, hl => by cases hl
  | k :: r, i, y :: G, h, hl => ⟨h.1, h.2.1, upL_up h.2.2 (by simpa using hl)⟩
theorem upL_ge {M : Nat} : ∀ {l : List Nat} {i k : Nat}, UpL i M l → k ∈ l → i ≤ k ∧ k < M
  | [], _, _, _, h => by cases h
  | a :: r, i, k, h, hk => by
    rcases List.mem_cons.1 hk with rfl | hk
    · exact ⟨h.1, h.2.1⟩
    · have := upL_ge h.2.2 hk
      exact ⟨by have := h.1; omega, this.2⟩
theorem at_rise {N : Nat} : ∀ {l : List Nat} {i : Nat}, UpL i (mN N) l → (l.map fun k => (endsV N).getD k 0).Pairwise (· < ·)
  | [], _, _ => List.Pairwise.nil
  | a :: r, i, h => by
    rw [List.map_cons, List.pairwise_cons]
    refine ⟨fun y hy => ?_, at_rise h.2.2⟩
    obtain ⟨k, hk, rfl⟩ := List.mem_map.1 hy
    have := upL_ge h.2.2 hk
    exact endsV_inc N a k (by omega) (by rw [endsV_len]; exact this.2)
end Go.Proofs.YtcdnjehkkbnfbaaGreatDoor

/- tumbref1.PadLaps: the walk. -/
namespace Go.Proofs.YtcdnjehkkbnfbaaGreatDoor
open Go.RowKit Go.Lib
set_option linter.unusedVariables false

theorem zip_rise {L : List Int} (h : L.Pairwise (· < ·)) : ∀ {G : List Int}, (L.zip G).Pairwise (fun a b => a.1 < b.1) := by
  induction L with
  | nil => intro G; rw [List.zip_nil_left]; exact List.Pairwise.nil
  | cons a r ih =>
    intro G
    cases G with
    | nil => rw [List.zip_nil_right]; exact List.Pairwise.nil
    | cons y G =>
      rw [List.pairwise_cons] at h
      rw [List.zip_cons_cons, List.pairwise_cons]
      exact ⟨fun p hp => h.1 p.1 (List.of_mem_zip (a := p.1) (b := p.2) hp).1, ih h.2⟩
theorem index_c (A : Option Addr) (n c : Nat) (l : List Int) (x : Int) (w : World) (h : RI 3 w A n l) (hp : 0 < n) :
    Calls Tryz.prog 128 #[.slice A n c, .int .i64 x] w fun e w' => e = .returned (.int .i64 (Lib.idxFrom l x 0)) ∧ w' = w := by
  obtain ⟨b, off, y, rfl, _, _, _⟩ := h.at_ hp
  have hb := h.bd
  have hl := h.len
  refine (Tryz.slices_Index_int b off n c l x w (by omega) (by omega) (fun j hj => ?_)).mono ?_
  · obtain ⟨b', off', z, e, _, hz, hc⟩ := h.at_ (k := j) (by omega)
    injection e with e
    injection e with e1 e2
    subst e1 e2
    rw [hc, List.getD_eq_getElem?_getD, hz]; rfl
  · rintro e w' ⟨rfl, rfl⟩
    rw [List.take_of_length_le (by omega)]
    exact ⟨rfl, rfl⟩
theorem padGt_c (lim x : Int) (B : Nat) (W : World) (hc : W.cell? ⟨B, 0, none⟩ = some (.int .i64 lim)) :
    FnGives Tryz.prog 130 #[.pointer (some ⟨B, 0, none⟩)] #[.int .i64 x] (.bool (decide (lim < x))) W := by
  show Calls Tryz.prog 130 #[.int .i64 x, .pointer (some ⟨B, 0, none⟩)] W _
  go_enter Tryz.func130, Tryz.ntmps130
  go_wp2
  go_ret
  exact ⟨rfl, 0, rfl⟩
theorem indexGt_c (A : Option Addr) (n c : Nat) (l : List Int) (k : Int) (B : Nat) (w : World) (h : RI 3 w A n l) (hp : 0 < n) (hB : w.heap[B]? = some (.cells #[.int .i64 k] 3 (0, 0))) :
    Calls Tryz.prog 129 #[.slice A n c, .func (.func 130) #[] #[.pointer (some ⟨B, 0, none⟩)]] w fun e w' => e = .returned (.int .i64 (Lib.idxByFrom (fun _ y => decide (k < y)) default l 0)) ∧ ∃ q, w' = w.drewN q := by
  obtain ⟨b, off, y, rfl, _, _, _⟩ := h.at_ hp
  have hb := h.bd
  have hl := h.len
  have eg : ∀ args w, (callFunc 130 args).run Tryz.prog w = .ok (.enter 130 args) w := enters_of Tryz.func130 (by kernel_rfl) rfl
  refine (Tryz.slices_IndexFunc_f129 (Value.int .i64) (fun y => decide (k < y)) _ _ eg b off n c l w (fun W x hb => padGt_c k x B W ?_) (by omega) (by omega) (fun j hj => ?_)).mono ?_
  · exact (blk_facts (blk_below hB hb)).1 0
  · obtain ⟨b', off', z, e, _, hz, hc⟩ := h.at_ (k := j) (by omega)
    injection e with e
    injection e with e1 e2
    subst e1 e2
    rw [hc, List.getElem!_eq_getElem?_getD, hz]; rfl
  · rintro e w' ⟨rfl, q, rfl⟩
    rw [List.take_of_length_le (by omega)]
    exact ⟨rfl, q, rfl⟩
set_option maxHeartbeats 6400000 in
set_option maxRecDepth 100000 in
theorem padLapsRef_c (r : Race) (N : Nat) (hr : raceErr r = 0) (hrN : lenV r = (N : Int)) (hN1 : 1 ≤ N) (hN : N ≤ 16) (V1 V2 V3 V4 : Value) (l : List Int) (w : World) (hln : l.length ≤ 100) (hb : ∀ x ∈ l, 0 ≤ x ∧ x ≤ 1000000000)
    (hTo : ∀ W, Below w.heap.size w W → Calls Tryz.prog 126 #[V1, V2, V3, V4] W (RetI W l)) :
    Calls Tryz.prog 36 #[r.val, V1, V2, V3, V4] w (RetLp w (lapsV N l)) := by
  have hLo := Lib.hid (fun W => show Calls Tryz.prog 29 #[r.val] W fun e w' => e = .returned (.int .i64 (N : Int)) ∧ Below W.heap.size W w' by rw [← hrN]; exact lengthsOf_c r W hr)
  have hEn := Lib.hid (fun W => endsOf_c N W hN1 hN)
  have hCn := Lib.hid (fun Ae ce A n c W he h hn => counting_c N Ae ce A n c l W he h hN1 hN hn hb)
  have hpr : cntGo (e0N N) (mN N) [] [] l = (goodV N l, ghostV N l) := rfl
  rw [hpr] at hCn
  have hG := goodV_ok (N := N) hb
  have q5 : 1 ≤ mN N ∧ mN N ≤ 8 := by unfold mN; omega
  have hEl := endsV_len N
  have hEb := endsV_bd hN
  have hEi := endsV_inc N
  have hB := offG_bd (N := (N : Int)) (m := (goodV N l).length) hG.1 hEb (by omega)
  have hSt := Lib.hid (fun Ae ce Ag cg W h1 h2 h3 => standing_c N (goodV N l).length (mN N) Ae ce (endsV N) Ag cg (goodV N l) W h1 h2 h3 (by omega) ⟨hN1, hN⟩ hG.1 hEb)
  have hsv := fun (hg : (goodV N l).length ≠ 0) => stnd_up hB (mN N) (mN N - 1) ((goodV N l).length - 1) 0 0 (by have := hG.2; omega) (by have := hG.2; omega) (by omega)
  have hsl : (goodV N l).length ≠ 0 → (standV N (goodV N l)).length = (goodV N l).length := fun hg => by
    unfold standV; rw [List.length_append, (hsv hg).2]; simp; omega
  have hsu : (goodV N l).length ≠ 0 → UpL 0 (mN N) (standV N (goodV N l)) := fun hg => (hsv hg).1
  have hEN : (endsV N).getD (mN N - 1) 0 = N := by
    rw [getD_ofI (endsV_at N (mN N - 1) (by omega))]
    have := ends_last N hN1
    omega
  have hTR : (goodV N l).length ≠ 0 → (LP.tr (offG (goodV N l) (endsV N) N (goodV N l).length) (endsV N) N (mN N - 1) ((goodV N l).length - 1) 0 0 [] 0 ([], -1)).1 = atV N (goodV N l) := fun hg => by
    rw [LP.stand_same hB (endsV N) N (mN N - 1) ((goodV N l).length - 1) (by have := hG.2; omega) (by have := hG.2; omega)]
    unfold atV standV
    rw [List.map_append, List.map_cons, List.map_nil, hEN]
  have hL0 : (goodV N l).length = 0 → lapsV N l = [] := fun h => by unfold lapsV; rw [if_pos h]
  have hLR : (goodV N l).length ≠ 0 → lapsV N l = (endsV N).map (LP.refL ((atV N (goodV N l)).zip (goodV N l)) 0 0) := fun h => by
    unfold lapsV; rw [if_neg h, atV_prs]
    have := LP.laps_ref (endsV N) hEi ((standV N (goodV N l)).zip (goodV N l)) 0 0 0 (by rw [hEl]; exact upL_up (hsu h) (hsl h))
    rw [List.drop_zero] at this
    exact this.symm
  have hAr : (goodV N l).length ≠ 0 → (atV N (goodV N l)).Pairwise (· < ·) := fun h => at_rise (hsu h)
  have hAl : (goodV N l).length ≠ 0 → (atV N (goodV N l)).length = (goodV N l).length := fun h => by rw [atV_len, hsl h]
  have hAe : (goodV N l).length ≠ 0 → (atV N (goodV N l)).getD ((goodV N l).length - 1) 0 = N := fun h => by
    have h2 := hAl h
    have h3 : (atV N (goodV N l))[(goodV N l).length - 1]? = some (N : Int) := by
      unfold atV standV
      rw [List.map_append, List.map_cons, List.map_nil, hEN, List.getElem?_append_right (by rw [List.length_map, (hsv h).2]; exact Nat.le_refl _), List.length_map, (hsv h).2, Nat.sub_self]
      rfl
    exact getD_ofI h3
  have hEle : ∀ x ∈ endsV N, 1 ≤ x ∧ x ≤ N := fun x hx => by
    obtain ⟨i, hi, rfl⟩ := List.mem_map.1 hx
    rw [List.mem_range] at hi
    have := ends_last N hN1
    unfold e0N at *
    omega
  have hAb : ∀ x ∈ atV N (goodV N l), 0 ≤ x ∧ x ≤ 16 := fun x hx => by
    obtain ⟨k, _, rfl⟩ := List.mem_map.1 hx
    exact getD_bd (by omega) hEb k
  obtain ⟨hGb, hGM⟩ := hG
  clear hpr hsv hsl hsu hEN hB hb hEi
  have hTR2 := Lib.hid hTR
  clear hTR
  generalize lapsV N l = LV at *
  generalize hTRe : LP.tr (offG (goodV N l) (endsV N) N (goodV N l).length) (endsV N) N (mN N - 1) ((goodV N l).length - 1) 0 0 [] 0 ([], -1) = TR at *
  clear hTRe
  generalize atV N (goodV N l) = AT at *
  generalize goodV N l = G at *
  generalize ghostV N l = H at *
  generalize endsV N = E at *
  generalize mN N = M at *
  have hTo' := Lib.hid hTo
  have hbx := below_new w (.cells r.cells 27)
  have hb0 := heap_alloc_new w (.cells r.cells 27)
  obtain ⟨key, metres, stroke, course, legs, sex, young, old⟩ := r
  dsimp only [Race.val, Race.cells] at *
  clear hTo hr hrN
  go_enter Tryz.func36, Tryz.ntmps36
  go_wp2_with fail
  refine (hLo.out _).mono ?_; rintro e w1 ⟨rfl, B1⟩
  have hB1 := below_next hbx B1
  clear hLo B1 hbx hb0
  go_wp2_with fail
  refine (hEn.out _).mono ?_; rintro e w2 ⟨Ae, ce, rfl, oE, B2⟩
  have hB2 := below_next hB1 B2
  have rE : RI 3 w2 Ae E.length E := R1.of_own oE (by omega)
  rw [hEl] at rE ⊢
  clear hEn oE B2 hB1
  go_wp2_with fail
  refine (hTo'.out _ hB2).mono ?_; rintro e w3 ⟨At, ct, rfl, oT, B3⟩
  have rT : RI 3 w3 At l.length l := R1.of_own oT (by omega)
  have rE3 := rE.below B3
  have hB3 := below_next hB2 B3
  clear hTo' oT B3 hB2 rE
  go_wp2_with fail
  refine (hCn.out _ _ _ _ _ _ rE3 rT hln).mono ?_; rintro e w4 ⟨A1, c1, A2, c2, rfl, r1, r2, B4⟩
  have rE4 := rE3.below B4
  have hB4 := below_next hB3 B4
  clear hCn r2 rT rE3 hB3 B4
  dsimp only at r1 ⊢
  by_cases hG0 : G.length = 0
  · have hL9 := hL0 hG0
    clear hL0 hLR hAr hAl hAe
    go_wp2
    go_ret
    exact ⟨none, 0, by rw [hL9]; rfl, by rw [hL9]; exact World.ownsRow_nil _ _ _ _, hB4⟩
  have hLR := Lib.hid (hLR hG0)
  have hAr := Lib.hid (hAr hG0)
  have hAl := hAl hG0
  have hAe := Lib.hid (hAe hG0)
  have hTR := hTR2.out hG0
  have hg1 : ((G.length : Int) == 0) = false := by rw [beq_eq_false_iff_ne]; omega
  have hg2 : 1 ≤ G.length := by omega
  clear hL0 hG0 hTR2
  go_wp2_with fail
  refine (hSt.out Ae ce A1 c1 _ rE4 r1 ⟨hg2, hGM⟩).mono ?_; rintro e w5 ⟨Aa, ca, rfl, ra, B5⟩
  rw [hTR] at ra ⊢
  rw [hAl] at ra ⊢
  have rE5 := rE4.below B5
  have rG5 := r1.below B5
  have hB5 := below_next hB4 B5
  clear hSt rE4 r1 hB4 B5 hTR
  have hRFa := Lib.hid (fun k y (h : (k, y) ∈ AT.zip G) => LP.refL_at (AT.zip G) 0 0 k y (by
    have h1 := hAr.out
    exact (zip_rise h1)) h)
  have hRFf := Lib.hid (fun k (h1 : ∀ p ∈ AT.zip G, p.1 ≠ k) q hq => LP.refL_far (AT.zip G) 0 0 k (zip_rise hAr.out) h1 q hq)
  have hzg : (AT.zip G).length = G.length := by rw [List.length_zip]; omega
  have hPv := Lib.hid (fun k s (p : Int × Int) r => show LP.pv k s (p :: r) = if p.1 < k then LP.pv k p r else LP.pv k s r from rfl)
  have hPv0 := Lib.hid (fun k s => show LP.pv k s [] = s from rfl)
  have hI0 := OL.start lpE 3 75 w5
  generalize LP.refL (AT.zip G) 0 0 = RF at *
  go_wp2_with fail
  go_loopw [16, 48] (fun out iv wx => ∃ (i : Nat) (acc : List LP.Lp), i ≤ M ∧ iv = .int .i64 i ∧ OL lpE 3 75 w5 out acc wx ∧ acc.length ≤ i ∧ Hid (acc ++ (E.drop i).map RF = LV)) (fun _ iv _ => M - (intOf iv).toNat)
  case atStart => exact ⟨0, [], Nat.zero_le _, rfl, hI0, Nat.le_refl _, Lib.hid hLR.out.symm⟩
  case round =>
    clear hI0
    rename World => wx
    obtain ⟨i, acc, hi, rfl, hI, hal, hF⟩ := hrel
    obtain ⟨Ao, co, hAo⟩ := own_shape hI.own
    subst hAo
    have hsx := hI.bel.size
    by_cases hlt : i < M
    · have rE6 := rE5.below hI.bel
      obtain ⟨bE, oE, k, rfl, lE, hk, ck⟩ := rE6.at_ hlt
      have hF1 := Lib.hid (show acc ++ (RF k :: (E.drop (i + 1)).map RF) = LV by rw [← hF.out, drop_at hk, List.map_cons])
      have hkb := hEle k (List.mem_of_getElem? hk)
      have hal2 : acc.length ≤ 100 := by omega
      have hIb := hI.below (below_new wx (.cells #[.int .i64 k] 3))
      have hbx := heap_alloc_new wx (.cells #[.int .i64 k] 3)
      have hzx : wx.heap.size < (wx.alloc (.cells #[.int .i64 k] 3)).heap.size := by simp
      have hbx0 := (blk_facts hbx).1 0
      have hIx := Lib.hid (index_c Aa G.length ca AT k (wx.alloc (.cells #[.int .i64 k] 3)) (ra.below hIb.bel) hg2)
      clear hF hI hk
      go_wp2_with fail
      refine hIx.out.mono ?_; rintro e w6 ⟨rfl, rfl⟩
      generalize hwy : wx.alloc (.cells #[.int .i64 k] 3) = wy at *
      generalize wx.heap.size = bx at *
      clear hIx hwy
      rcases idxFrom_cases k AT 0 with ⟨q, hq, hqe⟩ | ⟨hqe, hno⟩
      · rw [hqe, Nat.zero_add]
        have hqlt : q < G.length := by have := lt_of_at hq; omega
        obtain ⟨bG, oG, y, rfl, lG, hy, cy⟩ := (rG5.below hIb.bel).at_ hqlt
        have hRk := hRFa.out k y (List.mem_of_getElem? (by rw [List.getElem?_zip_eq_some]; exact ⟨hq, hy⟩ : (AT.zip G)[q]? = some (k, y)))
        have hq0 : (0 : Int) ≤ (q : Int) := by omega
        have hq1 : (q : Int) < (G.length : Int) := by omega
        rw [hRk] at hF1
        have hown := Lib.hid hIb.own
        have hwy5 := hIb.bel.size
        have hnb : (Value.slice Ao acc.length co).ownBlock ≠ some bx := own_diffL hIb.own hbx (by decide)
        have lG5 : bG < w5.heap.size := by
          obtain ⟨b9, o9, x9, e9, l9, _⟩ := rG5.at_ hqlt
          injection e9 with e9
          injection e9 with e9
          omega
        have hnG : (Value.slice Ao acc.length co).ownBlock ≠ some bG := fun e => by have := own_row_lt hIb.own bG e; omega
        have hbxl := lt_of_heap hbx
        obtain ⟨i0, hi0, hz0, hz1, hz2⟩ := info_parts info_lap
        clear hq hy hRk hqe
        go_wp2_with fail
        go_region_held3 (fun w' => w'.cell? ⟨bx, 0, none⟩ = some (.int .i64 k) ∧ w'.cell? ⟨bG, oG + q, none⟩ = some (.int .i64 y))
          (first
            | with_reducible exact ⟨hbx0, cy⟩
            | with_reducible exact ⟨q0, q1⟩
            | go_keep)
          (first
            | (refine step_append_lies _ (by rfl) _ _ _ (by rfl) w5.heap.size 75 i0 _ 3 24 Tryz.underlying42 hi0 hz0 hz1 hz2 rfl (by omega) (.slice Ao acc.length co) acc.length (acc.flatMap lpE) (by rfl) ((hown.out.alloc _).drew) ⟨wy.heap.size, 0, none⟩ 1 1 [.int .i64 k, .int .i64 y, .bool false] (by rfl) (by rfl) (World.news_of_block (cs := #[.int .i64 k, .int .i64 y, .bool false]) (t := 75) (fr := (0, 0)) (heap_alloc_new wy _)) (by simp [Value.oneCell']) (by omega) (by unfold maxLen; omega) (by omega) (by simp; omega) (wy.heap.size + 1) (by simp) ?_; intro gg cap w7 hown7 hgrow hat hlt7; have q0 := (hgrow.cell_far ⟨bx, 0, none⟩ (by simp; omega) (fun e => hnb e.symm)).trans ((World.cell?_alloc_lt wy _ ⟨bx, 0, none⟩ (by show bx < wy.heap.size; omega)).trans hbx0); have q1 := (hgrow.cell_far ⟨bG, oG + q, none⟩ (by simp; omega) (fun e => hnG e.symm)).trans ((World.cell?_alloc_lt wy _ ⟨bG, oG + q, none⟩ (by show bG < wy.heap.size; omega)).trans cy)))
        have hB4 : Below w5.heap.size w5 w7 := below_own (w := (wy.alloc (.cells #[.int .i64 k, .int .i64 y, .bool false] 75)).drew) (below_drewN (hIb.bel.alloc hwy5 _) 1) ((hown.out.alloc _).drew) hgrow (by simp; omega) (Nat.le_refl _)
        have hI7 : OL lpE 3 75 w5 (.slice (some ⟨gg, 0, none⟩) (acc.length + 1) cap) (acc ++ [⟨k, y, false⟩]) w7 := ⟨by rw [← flat_snoc, List.length_append]; exact hown7, hB4⟩
        have hF2 := Lib.hid (show (acc ++ [⟨k, y, false⟩]) ++ (E.drop (i + 1)).map RF = LV by rw [← hF1.out, List.append_assoc]; rfl)
        clear hown7 hgrow hat hlt7 hIb hown hB4 q0 q1 hbx hbx0 cy hF1
        go_wp2
        go_roundw
        case rel => exact ⟨i + 1, _, by omega, by go_num, hI7, by rw [List.length_append]; simp only [List.length_cons, List.length_nil]; omega, hF2⟩
        case measure => simp [intOf]; omega
      · rw [hqe]
        have hne : ∀ p ∈ AT.zip G, p.1 ≠ k := fun p hp => hno p.1 (List.of_mem_zip (a := p.1) (b := p.2) hp).1
        have hkN : k < (N : Int) := by
          have h9 : AT[G.length - 1]? = some (N : Int) := by
            obtain ⟨z, hz⟩ := at_of_lt (l := AT) (k := G.length - 1) (by omega)
            have := hAe.out
            rw [getD_ofI hz] at this
            rw [hz, this]
          have := hno _ (List.mem_of_getElem? h9)
          omega
        obtain ⟨q, y, hq, hyk, hyf, hqe2⟩ : ∃ (q : Nat) (y : Int), AT[q]? = some y ∧ decide (k < y) = true ∧ (∀ (j : Nat) (z : Int), j < q → AT[j]? = some z → decide (k < z) = false) ∧ Lib.idxByFrom (fun _ y => decide (k < y)) default AT 0 = (q : Int) := by
          rcases idxBy_cases (fun y => decide (k < y)) default AT 0 with ⟨q, y, h1, h2, h3, h4⟩ | ⟨h1, h2⟩
          · exact ⟨q, y, h1, h2, h3, by rw [h4, Nat.zero_add]⟩
          · exfalso
            obtain ⟨z, hz⟩ := at_of_lt (l := AT) (k := G.length - 1) (by omega)
            have h9 := hAe.out
            rw [getD_ofI hz] at h9
            have := h2 z (List.mem_of_getElem? hz)
            rw [decide_eq_false_iff_not] at this
            omega
        have hyk := of_decide_eq_true hyk
        have hqlt : q < G.length := by have := lt_of_at hq; omega
        obtain ⟨g, hg⟩ := at_of_lt (l := G) (k := q) (by omega)
        have hnx : LP.nx k (AT.zip G) = some (y, g) := nx_first (q := q) (by rw [List.getElem?_zip_eq_some]; exact ⟨hq, hg⟩) hyk (fun j z hj hz => by
          rw [List.getElem?_zip_eq_some] at hz
          have := hyf j z.1 hj hz.1
          rw [decide_eq_false_iff_not] at this
          exact this)
        have hRk := hRFf.out k hne (y, g) hnx
        rw [hRk] at hF1
        have hIf := Lib.hid (fun W h1 h2 => indexGt_c Aa G.length ca AT k bx W h1 hg2 h2)
        rw [hqe2] at hIf
        have hyb := hAb y (List.mem_of_getElem? hq)
        have hgb := hGb g (List.mem_of_getElem? hg)
        clear hRk hnx hne hyf hqe2 hqe
        go_wp2_with fail
        go_loopw [20, 21, 68] (fun jv xv qv wz => ∃ (p : Nat) (j x : Int), p ≤ G.length ∧ qv = .int .i64 p ∧ jv = .int .i64 j ∧ xv = .int .i64 x ∧ OL lpE 3 75 w5 (.slice Ao acc.length co) acc wz ∧ wz.heap[bx]? = some (.cells #[.int .i64 k] 3 (0, 0)) ∧ (0 ≤ j ∧ j < k) ∧ (0 ≤ x ∧ x ≤ 1000000000) ∧ Hid (LP.pv k (j, x) ((AT.zip G).drop p) = LP.pv k (0, 0) (AT.zip G))) (fun _ _ qv _ => G.length - (intOf qv).toNat)
        case atStart => exact ⟨0, 0, 0, Nat.zero_le _, rfl, rfl, rfl, hIb, hbx, by omega, by omega, Lib.hid rfl⟩
        case round =>
          clear hIb hbx hbx0
          rename World => wz
          obtain ⟨p, j, x, hp, rfl, rfl, rfl, hI, hbx, hj, hx, hP⟩ := hrel
          have hbx0 := (blk_facts hbx).1 0
          by_cases hlt2 : p < G.length
          · obtain ⟨ba, oa, a, rfl, la, ha, ca'⟩ := (ra.below hI.bel).at_ hlt2
            obtain ⟨bG, oG, y2, rfl, lG, hy2, cy⟩ := (rG5.below hI.bel).at_ hlt2
            have hab := hAb a (List.mem_of_getElem? ha)
            have hy2b := hGb y2 (List.mem_of_getElem? hy2)
            have hd : (AT.zip G).drop p = (a, y2) :: (AT.zip G).drop (p + 1) := drop_at (by rw [List.getElem?_zip_eq_some]; exact ⟨ha, hy2⟩)
            have hp1 : (p : Int) < (G.length : Int) := by omega
            by_cases hak : a < k
            · have hP2 := Lib.hid (show LP.pv k (a, y2) ((AT.zip G).drop (p + 1)) = LP.pv k (0, 0) (AT.zip G) by rw [← hP.out, hd, hPv.out, if_pos hak])
              have hIq : ∀ n, OL lpE 3 75 w5 (.slice Ao acc.length co) acc (wz.drewN n) := fun n => hI.below (below_drewN (Below.refl _ _) n)
              clear hd hP ha hy2 hI
              go_wp2
              go_quiet (fail)
              go_wp2
              go_roundw
              case rel => exact ⟨p + 1, a, y2, by omega, by go_num, rfl, rfl, hIq _, hbx, by omega, hy2b, hP2⟩
              case measure => simp [intOf]; omega
            · have hP2 := Lib.hid (show LP.pv k (j, x) ((AT.zip G).drop (p + 1)) = LP.pv k (0, 0) (AT.zip G) by rw [← hP.out, hd, hPv.out, if_neg hak])
              clear hd hP ha hy2 cy
              go_wp2
              go_roundw
              case rel => exact ⟨p + 1, j, x, by omega, by go_num, rfl, rfl, hI, hbx, hj, hx, hP2⟩
              case measure => simp [intOf]; omega
          · obtain rfl : p = G.length := by omega
            have hP2 := Lib.hid (show LP.pv k (0, 0) (AT.zip G) = (j, x) by rw [← hP.out, drop_end (by rw [hzg]; exact Nat.le_refl _), hPv0.out])
            rw [hP2.out] at hF1
            dsimp only at hF1
            have hraz := ra.below hI.bel
            clear hP hP2
            go_wp2_with fail
            refine (hIf.out _ hraz hbx).mono ?_; rintro e w8 ⟨rfl, nq, rfl⟩
            have hId := hI.below (below_drewN (Below.refl wz.heap.size wz) nq)
            have hbxd : (wz.drewN nq).heap[bx]? = some (.cells #[.int .i64 k] 3 (0, 0)) := hbx
            generalize wz.drewN nq = wd at *
            have hbx1 := (blk_facts hbxd).1 0
            obtain ⟨bG, oG, y2, hA1e, lG, hy2, cy⟩ := (rG5.below hId.bel).at_ hqlt
            rw [hg] at hy2
            injection hy2 with hy2
            obtain ⟨ba, oa, a2, hAae, la, ha2, ca'⟩ := (ra.below hId.bel).at_ hqlt
            rw [hq] at ha2
            injection ha2 with ha2
            obtain ⟨⟨p1, p2⟩, p3, p4⟩ := lap_parts hx hgb (g := k - j) (d := y - j) (by omega) (by omega)
            have p5 : -16000000000 ≤ x + ((g - x) * (k - j)).tdiv (y - j) ∧ x + ((g - x) * (k - j)).tdiv (y - j) ≤ 17000000000 := by
              generalize ((g - x) * (k - j)).tdiv (y - j) = z at *
              omega
            have hn0 : ((y - j) == 0) = false := by rw [beq_eq_false_iff_ne]; omega
            have hn1 : ¬ y - j = 0 := by omega
            have u1 : IntKind.i64.wrap (g - x) = g - x := IntWalk.i64_in _ (by omega)
            have u2 : IntKind.i64.wrap (k - j) = k - j := IntWalk.i64_in _ (by omega)
            have u3 : IntKind.i64.wrap (y - j) = y - j := IntWalk.i64_in _ (by omega)
            have u4 : IntKind.i64.wrap ((g - x) * (k - j)) = (g - x) * (k - j) := IntWalk.i64_in _ (by omega)
            have u5 : IntKind.i64.wrap (((g - x) * (k - j)).tdiv (y - j)) = ((g - x) * (k - j)).tdiv (y - j) := IntWalk.i64_in _ (by omega)
            have u6 : IntKind.i64.wrap (x + ((g - x) * (k - j)).tdiv (y - j)) = x + ((g - x) * (k - j)).tdiv (y - j) := IntWalk.i64_in _ (by omega)
            have lG5 : bG < w5.heap.size := by
              obtain ⟨b9, o9, x9, e9, l9, _⟩ := rG5.at_ hqlt
              rw [hA1e] at e9
              injection e9 with e9
              injection e9 with e9
              omega
            have la5 : ba < w5.heap.size := by
              obtain ⟨b9, o9, x9, e9, l9, _⟩ := ra.at_ hqlt
              rw [hAae] at e9
              injection e9 with e9
              injection e9 with e9
              omega
            have hnb : (Value.slice Ao acc.length co).ownBlock ≠ some bx := own_diffL hId.own hbxd (by decide)
            have hnG : (Value.slice Ao acc.length co).ownBlock ≠ some bG := fun e => by have := own_row_lt hId.own bG e; omega
            have hna : (Value.slice Ao acc.length co).ownBlock ≠ some ba := fun e => by have := own_row_lt hId.own ba e; omega
            have hown := Lib.hid hId.own
            have hwy5 := hId.bel.size
            have hbxl := lt_of_heap hbxd
            have hq0 : (0 : Int) ≤ (q : Int) := by omega
            have hq1 : (q : Int) < (G.length : Int) := by omega
            subst hA1e
            subst hAae
            rw [← hy2] at cy
            rw [← ha2] at ca'
            generalize hyx : x + ((g - x) * (k - j)).tdiv (y - j) = tm at *
            obtain ⟨i0, hi0, hz0, hz1, hz2⟩ := info_parts info_lap
            clear hq hg hraz hI hbx hbx0 hIf hy2 ha2
            go_wp2_with fail
            go_region_held3 (fun w' => w'.cell? ⟨bx, 0, none⟩ = some (.int .i64 k) ∧ w'.cell? ⟨bG, oG + q, none⟩ = some (.int .i64 g) ∧ w'.cell? ⟨ba, oa + q, none⟩ = some (.int .i64 y))
              (first
                | with_reducible exact ⟨hbx1, cy, ca'⟩
                | with_reducible exact ⟨q0, q1, q2⟩
                | go_keep)
              (first
                | (refine step_append_lies _ (by rfl) _ _ _ (by rfl) w5.heap.size 75 i0 _ 3 24 Tryz.underlying42 hi0 hz0 hz1 hz2 rfl (by omega) (.slice Ao acc.length co) acc.length (acc.flatMap lpE) (by rfl) ((hown.out.alloc _).drew) ⟨wd.heap.size, 0, none⟩ 1 1 [.int .i64 k, .int .i64 tm, .bool true] (by rfl) (by rfl) (World.news_of_block (cs := #[.int .i64 k, .int .i64 tm, .bool true]) (t := 75) (fr := (0, 0)) (heap_alloc_new wd _)) (by simp [Value.oneCell']) (by omega) (by unfold maxLen; omega) (by omega) (by simp; omega) (wd.heap.size + 1) (by simp) ?_; intro gg cap w7 hown7 hgrow hat hlt7; have q0 := (hgrow.cell_far ⟨bx, 0, none⟩ (by simp; omega) (fun e => hnb e.symm)).trans ((World.cell?_alloc_lt wd _ ⟨bx, 0, none⟩ (by show bx < wd.heap.size; omega)).trans hbx1); have q1 := (hgrow.cell_far ⟨bG, oG + q, none⟩ (by simp; omega) (fun e => hnG e.symm)).trans ((World.cell?_alloc_lt wd _ ⟨bG, oG + q, none⟩ (by show bG < wd.heap.size; omega)).trans cy); have q2 := (hgrow.cell_far ⟨ba, oa + q, none⟩ (by simp; omega) (fun e => hna e.symm)).trans ((World.cell?_alloc_lt wd _ ⟨ba, oa + q, none⟩ (by show ba < wd.heap.size; omega)).trans ca')))
            have hB4 : Below w5.heap.size w5 w7 := below_own (w := (wd.alloc (.cells #[.int .i64 k, .int .i64 tm, .bool true] 75)).drew) (below_drewN (hId.bel.alloc hwy5 _) 1) ((hown.out.alloc _).drew) hgrow (by simp; omega) (Nat.le_refl _)
            have hI7 : OL lpE 3 75 w5 (.slice (some ⟨gg, 0, none⟩) (acc.length + 1) cap) (acc ++ [⟨k, tm, true⟩]) w7 := ⟨by rw [← flat_snoc, List.length_append]; exact hown7, hB4⟩
            have hF2 := Lib.hid (show (acc ++ [⟨k, tm, true⟩]) ++ (E.drop (i + 1)).map RF = LV by rw [← hF1, List.append_assoc]; rfl)
            clear hown7 hgrow hat hlt7 hId hown hB4 q0 q1 q2 hbxd hbx1 cy ca' hF1
            go_wp2
            go_roundw
            case rel => exact ⟨i + 1, _, by omega, by go_num, hI7, by rw [List.length_append]; simp only [List.length_cons, List.length_nil]; omega, hF2⟩
            case measure => simp [intOf]; omega
    · obtain rfl : i = M := by omega
      have hA : Hid (acc = LV) := Lib.hid (by rw [← hF.out, List.drop_eq_nil_of_le (by omega), List.map_nil, List.append_nil])
      have hown := hI.own
      have hbel := hI.bel
      clear hF hI hal
      go_wp2
      go_ret
      rw [← hA.out]
      exact ⟨Ao, co, rfl, own_mono hown hB5.size, hB5.trans (hbel.mono hB5.size)⟩
end Go.Proofs.YtcdnjehkkbnfbaaGreatDoor

/- pad.checkLaps, pad.Laps, pad.Ghosts, tumbref1.GhostsOf; slices.Equal of laps. -/
namespace Go.Proofs.YtcdnjehkkbnfbaaGreatDoor
open Go.RowKit Go.Lib Go.Sort Go.Shelf
set_option linter.unusedVariables false

def clE (r : Race) (cl : List Ck) (l : List Sg) (heat lane : Int) : Int := if raceErr r ≠ 0 then raceErr r else ttE cl l heat lane
theorem checkLaps_c (r : Race) (Ac : Option Addr) (nc cc : Nat) (cl : List Ck) (A : Option Addr) (n c : Nat) (l : List Sg) (heat lane : Int) (w : World) (hc : RCk w Ac nc cl) (h : RSg w A n l) :
    Calls Tryz.prog 109 #[r.val, .slice Ac nc cc, .slice A n c, .int .i64 heat, .int .i64 lane] w fun e w' => e = .returned (.tuple #[.int .i64 (if raceErr r = 0 then lenV r else 0), .int .i64 (clE r cl l heat lane)]) ∧ Below w.heap.size w w' := by
  have hbx := below_new w (.cells r.cells 27)
  have hb0 := heap_alloc_new w (.cells r.cells 27)
  have hCh := Lib.hid (fun W B => show Calls Tryz.prog 186 #[.slice Ac nc cc, .slice A n c, .int .i64 heat, .int .i64 lane] W fun e w' => e = .returned (.int .i64 (ttE cl l heat lane)) ∧ Below W.heap.size W w' from checkHeat_c Ac nc cc cl A n c l heat lane W (hc.below (w' := W) B) (h.below (w' := W) B))
  by_cases hr : raceErr r = 0
  · have hLo := Lib.hid (fun W => Lengths_ok r W hr)
    have hE : clE r cl l heat lane = ttE cl l heat lane := by unfold clE; rw [if_neg (by simpa using hr)]
    rw [hE, if_pos hr]
    clear hE hr hc h
    generalize ttE cl l heat lane = T at *
    generalize lenV r = V at *
    obtain ⟨key, metres, stroke, course, legs, sex, young, old⟩ := r
    dsimp only [Race.val, Race.cells] at *
    go_enter Tryz.func109, Tryz.ntmps109
    go_wp2_with fail
    refine (hLo.out _).mono ?_; rintro e w1 ⟨rfl, B1⟩
    have hB1 := below_next hbx B1
    clear hLo B1 hbx hb0
    go_wp2_with fail
    refine (hCh.out _ hB1).mono ?_; rintro e w2 ⟨rfl, B2⟩
    have hB2 := below_next hB1 B2
    go_wp2
    go_ret2
    exact ⟨rfl, hB2⟩
  · have hLo := Lib.hid (fun W => Lengths_err r W hr)
    have hE : clE r cl l heat lane = raceErr r := by unfold clE; rw [if_pos hr]
    rw [hE, if_neg hr]
    have hr1 : (raceErr r == 0) = false := by simpa using hr
    have hr2 : (raceErr r != 0) = true := by simpa using hr
    clear hE hc h hCh
    generalize raceErr r = V at *
    obtain ⟨key, metres, stroke, course, legs, sex, young, old⟩ := r
    dsimp only [Race.val, Race.cells] at *
    go_enter Tryz.func109, Tryz.ntmps109
    go_wp2_with fail
    refine (hLo.out _).mono ?_; rintro e w1 ⟨rfl, B1⟩
    have hB1 := below_next hbx B1
    clear hLo B1 hbx hb0
    go_wp2
    go_ret2
    exact ⟨rfl, hB1⟩
theorem touV_le (cl : List Ck) (l : List Sg) (H : Nat) (lane : Int) : ∀ x ∈ touV cl l H lane, x ≤ 360000 := by
  intro x hx
  unfold touV at hx
  have h1 := (compact_sub _).subset hx
  have : ∀ (t : List Td) (s0 : Int), x ∈ huGo s0 t → x ≤ 360000 := by
    intro t s0
    induction t with
    | nil => intro h; cases h
    | cons y r ih =>
      intro h
      unfold huGo at h
      split at h
      · rename_i h2
        rcases List.mem_cons.1 h with rfl | h
        · exact h2
        · exact ih h
      · exact ih h
  exact this _ _ h1
theorem tw_all {tm : Int} : ∀ {l : List Int} {i : Nat} {x : Int}, i < tw tm l → l[i]? = some x → x ≤ tm
  | [], _, _, _, h => by simp at h
  | a :: r, 0, x, h, hx => by
    obtain rfl : a = x := by simpa using hx
    unfold tw at h
    split at h
    · assumption
    · omega
  | a :: r, i + 1, x, h, hx => by
    unfold tw at h
    split at h
    · exact tw_all (l := r) (i := i) (by omega) (by simpa using hx)
    · omega
theorem touV_ge (cl : List Ck) (l : List Sg) (H : Nat) (lane : Int) (h1 : 1 ≤ H) (h2 : H ≤ (startsV cl l).length) : ∀ x ∈ touV cl l H lane, 0 ≤ x := by
  intro x hx
  unfold touV at hx
  replace hx := (compact_sub _).subset hx
  have key : ∀ t ∈ tdL cl l H lane 2, s0V cl l H ≤ t.tm := by
    intro t ht
    unfold tdL at ht
    have hS : SWO (ltOf tdCf) := by
      refine ⟨fun a => ?_, fun a b c => ?_, fun a b c => ?_⟩ <;> unfold ltOf tdCf Lib.compareInt <;> intros <;> (simp at *) <;> (try omega)
      all_goals (repeat' split at *) <;> (try omega) <;> simp_all <;> omega
    have ht := (insL_spec hS (lnGo cl (startsV cl l) H lane 2 l)).1.subset ht
    have hm : ∀ (l : List Sg) (S : List Int), t ∈ lnGo cl S H lane 2 l → ct t.tm S = H := by
      intro l S
      induction l with
      | nil => intro h; cases h
      | cons y r ih =>
        intro h
        unfold lnGo at h
        split at h
        · rename_i hc
          rcases List.mem_cons.1 h with rfl | h
          · exact hc.2
          · exact ih h
        · exact ih h
    have hc := hm _ _ ht
    rw [← tw_ct t.tm (startsV_sorted cl l)] at hc
    obtain ⟨y, hy⟩ := at_of_lt (l := startsV cl l) (k := H - 1) (by omega)
    have := tw_all (tm := t.tm) (l := startsV cl l) (i := H - 1) (by omega) hy
    unfold s0V
    rw [getD_ofI hy]; exact this
  generalize s0V cl l H = s0 at *
  generalize tdL cl l H lane 2 = T at *
  induction T with
  | nil => cases hx
  | cons y r ih =>
    unfold huGo at hx
    have hy := key y List.mem_cons_self
    split at hx
    · rcases List.mem_cons.1 hx with rfl | h
      · rw [Int.tdiv_eq_ediv_of_nonneg (by omega)]; omega
      · exact ih h (fun t ht => key t (List.mem_cons_of_mem _ ht))
    · exact ih hx (fun t ht => key t (List.mem_cons_of_mem _ ht))
/-- what Laps hands back -/
def RetLp2 (w : World) (E : Int) (L : List LP.Lp) (e : Ending) (w' : World) : Prop := ∃ A c, e = .returned (.tuple #[.slice A L.length c, .int .i64 E]) ∧ RLp w' A L.length L ∧ Below w.heap.size w w'
theorem clE_ok {r : Race} {cl : List Ck} {l : List Sg} {heat lane : Int} (h : clE r cl l heat lane = 0) : raceErr r = 0 ∧ ttE cl l heat lane = 0 := by
  unfold clE at h
  split at h
  · rename_i h1; exact absurd h h1
  · rename_i h1; exact ⟨Decidable.not_not.1 h1, h⟩
theorem lp_len (E : List Int) : ∀ (ps : List (Nat × Int)) (j x : Int) (i : Nat), (LP.lapsP E j x i ps).length ≤ (LP.lapsP E j x i ps).length := fun _ _ _ _ => Nat.le_refl _
theorem lapsV_len (N : Nat) (l : List Int) (hb : ∀ x ∈ l, 0 ≤ x ∧ x ≤ 1000000000) (hN1 : 1 ≤ N) (hN : N ≤ 16) : (lapsV N l).length ≤ 8 := by
  have hG := goodV_ok (N := N) hb
  have q5 : 1 ≤ mN N ∧ mN N ≤ 8 := by unfold mN; omega
  unfold lapsV
  split
  · simp
  · rename_i h
    have hB := offG_bd (N := (N : Int)) (m := (goodV N l).length) hG.1 (endsV_bd hN) (by omega)
    have hsv := stnd_up hB (mN N) (mN N - 1) ((goodV N l).length - 1) 0 0 (by have := hG.2; omega) (by have := hG.2; omega) (by omega)
    have := LP.laps_ref (endsV N) (endsV_inc N) ((standV N (goodV N l)).zip (goodV N l)) 0 0 0 (by rw [endsV_len]; exact upL_up hsv.1 (by unfold standV; rw [List.length_append, hsv.2]; simp; omega))
    rw [← this, List.length_map, List.length_drop, endsV_len]
    omega
theorem padLaps39_c (r : Race) (N : Nat) (hrN : raceErr r = 0 → lenV r = (N : Int) ∧ 1 ≤ N ∧ N ≤ 16) (Ac : Option Addr) (nc cc : Nat) (cl : List Ck) (A : Option Addr) (n c : Nat) (l : List Sg) (heat lane : Int) (w : World) (hc : RCk w Ac nc cl) (h : RSg w A n l) (hn : n ≤ 19) :
    Calls Tryz.prog 33 #[r.val, .slice Ac nc cc, .slice A n c, .int .i64 heat, .int .i64 lane] w (RetLp2 w (clE r cl l heat lane) (if clE r cl l heat lane = 0 then lapsV N (touV cl l heat.toNat lane) else [])) := by
  have hbx := below_new w (.cells r.cells 27)
  have hb0 := heap_alloc_new w (.cells r.cells 27)
  have hCh := Lib.hid (fun W B => checkLaps_c r Ac nc cc cl A n c l heat lane W (hc.below (w' := W) B) (h.below (w' := W) B))
  have hln := h.len
  by_cases h0 : clE r cl l heat lane = 0
  · obtain ⟨hr, ht⟩ := clE_ok h0
    obtain ⟨k1, k2, k3⟩ := ttE_ok ht
    obtain ⟨m1, m2, m3, m4⟩ := both_ok k1
    obtain ⟨hN0, hN1, hN2⟩ := hrN hr
    have htb : ∀ x ∈ touV cl l heat.toNat lane, 0 ≤ x ∧ x ≤ 1000000000 := fun x hx => ⟨touV_ge cl l heat.toNat lane (by omega) (by omega) x hx, by have := touV_le cl l heat.toNat lane x hx; omega⟩
    have htl := touV_len cl l heat.toNat lane
    have hTo := Lib.hid (fun W B => show Calls Tryz.prog 111 #[.slice Ac nc cc, .slice A n c, .int .i64 heat, .int .i64 lane] W (RetI W (touV cl l heat.toNat lane)) by
      have := padTouches_c Ac nc cc cl A n c l W (hc.below (w' := W) B) (h.below (w' := W) B) m1 m2 hn heat.toNat (by omega) (by omega) lane
      rwa [show ((heat.toNat : Nat) : Int) = heat from by omega] at this)
    have hLa := Lib.hid (fun A' n' c' W h1 h2 => padLaps_c N A' n' c' (touV cl l heat.toNat lane) W h1 hN1 hN2 h2 htb)
    have hLl := lapsV_len N _ htb hN1 hN2
    rw [h0, if_pos hr, hN0] at hCh
    rw [h0, if_pos rfl]
    clear hr ht k1 k2 k3 m1 m2 m3 m4 hN0 htb hc h h0 hrN
    generalize lapsV N (touV cl l heat.toNat lane) = LV at *
    generalize touV cl l heat.toNat lane = TV at *
    obtain ⟨key, metres, stroke, course, legs, sex, young, old⟩ := r
    dsimp only [Race.val, Race.cells] at *
    go_enter Tryz.func33, Tryz.ntmps33
    go_wp2_with fail
    refine (hCh.out _ hbx).mono ?_; rintro e w1 ⟨rfl, B1⟩
    have hB1 := below_next hbx B1
    clear hCh B1 hbx hb0
    go_wp2_with fail
    refine (hTo.out _ hB1).mono ?_; rintro e w2 ⟨A2, c2, rfl, o2, B2⟩
    have r2 : RI 3 w2 A2 TV.length TV := R1.of_own o2 (by omega)
    have hB2 := below_next hB1 B2
    clear hTo o2 B2 hB1
    go_wp2_with fail
    refine (hLa.out A2 _ c2 _ r2 (by omega)).mono ?_; rintro e w3 ⟨A3, c3, rfl, o3, B3⟩
    have r3 : RLp w3 A3 LV.length LV := RN.of_own lpE_len o3 rfl (by omega)
    have hB3 := below_next hB2 B3
    clear hLa o3 B3 hB2 r2
    go_wp2
    go_ret2
    exact ⟨A3, c3, rfl, r3, hB3⟩
  · rw [if_neg h0]
    have h1 : (clE r cl l heat lane == 0) = false := by simpa using h0
    have h2 : (clE r cl l heat lane != 0) = true := by simpa using h0
    clear h0 hc h hrN
    generalize clE r cl l heat lane = E at *
    generalize (if raceErr r = 0 then lenV r else 0) = LN at *
    obtain ⟨key, metres, stroke, course, legs, sex, young, old⟩ := r
    dsimp only [Race.val, Race.cells] at *
    go_enter Tryz.func33, Tryz.ntmps33
    go_wp2_with fail
    refine (hCh.out _ hbx).mono ?_; rintro e w1 ⟨rfl, B1⟩
    have hB1 := below_next hbx B1
    clear hCh B1 hbx hb0
    go_wp2
    go_ret2
    exact ⟨none, 0, rfl, RN.nil_ _ _ _ _ _, hB1⟩
end Go.Proofs.YtcdnjehkkbnfbaaGreatDoor

/- pad.Ghosts, tumbref1.GhostsOf; slices.Equal of laps. -/
namespace Go.Proofs.YtcdnjehkkbnfbaaGreatDoor
open Go.RowKit Go.Lib Go.Sort Go.Shelf
set_option linter.unusedVariables false

theorem RLp.atN {w : World} {A : Option Addr} {n : Nat} {l : List LP.Lp} (h : RLp w A n l) {k : Nat} (hk : k < n) : ∃ b off x, A = some ⟨b, off, none⟩ ∧ b < w.heap.size ∧ l[k]? = some x ∧ w.cell? ⟨b, off + k * 3, none⟩ = some (.int .i64 x.length) ∧ w.cell? ⟨b, off + k * 3 + 1, none⟩ = some (.int .i64 x.time) ∧ w.cell? ⟨b, off + k * 3 + 2, none⟩ = some (.bool x.filled) := by
  obtain ⟨b, off, x, hA, hb, hx, hc⟩ := h.at_ hk
  exact ⟨b, off, x, hA, hb, hx, hc 0 _ rfl, hc 1 _ rfl, hc 2 _ rfl⟩
set_option maxHeartbeats 1600000 in
set_option maxRecDepth 100000 in
theorem equalLp_c (A1 A2 : Option Addr) (n c m d : Nat) (l1 l2 : List LP.Lp) (w : World) (h1 : RLp w A1 n l1) (h2 : RLp w A2 m l2) :
    Calls Tryz.prog 35 #[.slice A1 n c, .slice A2 m d] w fun e w' => e = .returned (.bool (decide (l1 = l2))) ∧ ∃ q, w' = w.drewN q := by
  have b1 := h1.bd
  have b2 := h2.bd
  by_cases hnm : n = m
  rotate_left
  · have hd : decide (l1 = l2) = false := by simp; rintro rfl; have := h1.len; have := h2.len; omega
    have hne : ((n : Int) != (m : Int)) = true := by rw [bne_iff_ne]; omega
    rw [hd]
    clear hd
    go_enter Tryz.func35, Tryz.ntmps35
    go_wp2
    go_ret
    exact ⟨rfl, 0, rfl⟩
  subst hnm
  have hL1 := Lib.hid h1.len
  have hL2 := Lib.hid h2.len
  go_enter Tryz.func35, Tryz.ntmps35
  go_wp2
  go_loopw [13] (fun i wr => ∃ k q : Nat, k ≤ n ∧ i = .int .i64 k ∧ wr = w.drewN q ∧ Hid (∀ j, j < k → l1[j]? = l2[j]?)) (fun i _ => n - (intOf i).toNat)
  case atStart => exact ⟨0, 0, Nat.zero_le _, rfl, rfl, Lib.hid (fun j h => absurd h (by omega))⟩
  case round =>
    obtain ⟨k, q0, hk, rfl, rfl, hF⟩ := hrel
    by_cases hlt : k < n
    · obtain ⟨b, off, x, rfl, hbl, hx, c0, c1, c2⟩ := RLp.atN h1 hlt
      obtain ⟨b', off', y, rfl, hbl', hy, e0, e1, e2⟩ := RLp.atN h2 hlt
      have hx' := Lib.hid hx
      have hy' := Lib.hid hy
      clear hx hy
      by_cases hxy : x = y
      · subst hxy
        obtain ⟨x0, x1, x2⟩ := x
        dsimp only at c0 c1 c2 e0 e1 e2
        cases x2
        all_goals
          go_wp2
          go_quiet (fail)
          go_wp2
          go_roundw
          case rel => exact ⟨k + 1, _, by omega, by go_num, rfl, Lib.hid (fun j hj => by
            by_cases hjk : j = k
            · subst hjk; rw [hx'.out, hy'.out]
            · exact hF.out j (by omega))⟩
          case measure => simp [intOf]; omega
      · obtain ⟨x0, x1, x2⟩ := x
        obtain ⟨y0, y1, y2⟩ := y
        dsimp only at c0 c1 c2 e0 e1 e2
        have hcases : (x0 == y0) = false ∨ (x0 = y0 ∧ ((x1 == y1) = false)) ∨ (x0 = y0 ∧ x1 = y1 ∧ x2 ≠ y2) := by
          by_cases q0 : x0 = y0
          · by_cases q1 : x1 = y1
            · exact .inr (.inr ⟨q0, q1, fun q2 => hxy (by rw [q0, q1, q2])⟩)
            · exact .inr (.inl ⟨q0, beq_eq_false_iff_ne.2 q1⟩)
          · exact .inl (beq_eq_false_iff_ne.2 q0)
        have hfin : Hid (decide (l1 = l2) = false) := Lib.hid (by
          simp only [decide_eq_false_iff_not]
          rintro rfl
          rw [hx'.out] at hy'
          exact hxy (Option.some.inj hy'.out))
        clear hxy
        rcases hcases with h0 | ⟨rfl, h1⟩ | ⟨rfl, rfl, h1⟩
        · cases x2 <;> cases y2
          all_goals
            go_wp2
            go_quiet (fail)
            go_wp2
            go_ret
            exact ⟨ret_b (by rw [hfin.out]), _, by rw [World.drewN_drewN]⟩
        · cases x2 <;> cases y2
          all_goals
            go_wp2
            go_quiet (fail)
            go_wp2
            go_ret
            exact ⟨ret_b (by rw [hfin.out]), _, by rw [World.drewN_drewN]⟩
        · cases x2 <;> cases y2
          · exact absurd rfl h1
          · go_wp2
            go_quiet (fail)
            go_wp2
            go_ret
            exact ⟨ret_b (by rw [hfin.out]), _, by rw [World.drewN_drewN]⟩
          · go_wp2
            go_quiet (fail)
            go_wp2
            go_ret
            exact ⟨ret_b (by rw [hfin.out]), _, by rw [World.drewN_drewN]⟩
          · exact absurd rfl h1
    · have hfin : Hid (decide (l1 = l2) = true) := Lib.hid (by
        simp only [decide_eq_true_eq]
        apply List.ext_getElem?; intro j
        by_cases hj : j < n
        · exact hF.out j (by omega)
        · rw [List.getElem?_eq_none (by rw [hL1.out]; omega), List.getElem?_eq_none (by rw [hL2.out]; omega)])
      go_wp2
      go_ret
      exact ⟨ret_b (by rw [hfin.out]), _, rfl⟩
/-- what Ghosts hands back -/
def RetGh (w : World) (E : Int) (L : List Int) (e : Ending) (w' : World) : Prop := ∃ A c, e = .returned (.tuple #[.slice A L.length c, .int .i64 E]) ∧ RI 3 w' A L.length L ∧ Below w.heap.size w w'
theorem padGhosts_c (r : Race) (N : Nat) (hrN : raceErr r = 0 → lenV r = (N : Int) ∧ 1 ≤ N ∧ N ≤ 16) (Ac : Option Addr) (nc cc : Nat) (cl : List Ck) (A : Option Addr) (n c : Nat) (l : List Sg) (heat lane : Int) (w : World) (hc : RCk w Ac nc cl) (h : RSg w A n l) (hn : n ≤ 19) :
    Calls Tryz.prog 34 #[r.val, .slice Ac nc cc, .slice A n c, .int .i64 heat, .int .i64 lane] w (RetGh w (clE r cl l heat lane) (if clE r cl l heat lane = 0 then ghostV N (touV cl l heat.toNat lane) else [])) := by
  have hbx := below_new w (.cells r.cells 27)
  have hb0 := heap_alloc_new w (.cells r.cells 27)
  have hCh := Lib.hid (fun W B => checkLaps_c r Ac nc cc cl A n c l heat lane W (hc.below (w' := W) B) (h.below (w' := W) B))
  have hln := h.len
  by_cases h0 : clE r cl l heat lane = 0
  · obtain ⟨hr, ht⟩ := clE_ok h0
    obtain ⟨k1, k2, k3⟩ := ttE_ok ht
    obtain ⟨m1, m2, m3, m4⟩ := both_ok k1
    obtain ⟨hN0, hN1, hN2⟩ := hrN hr
    have htb : ∀ x ∈ touV cl l heat.toNat lane, 0 ≤ x ∧ x ≤ 1000000000 := fun x hx => ⟨touV_ge cl l heat.toNat lane (by omega) (by omega) x hx, by have := touV_le cl l heat.toNat lane x hx; omega⟩
    have htl := touV_len cl l heat.toNat lane
    have hTo := Lib.hid (fun W B => show Calls Tryz.prog 111 #[.slice Ac nc cc, .slice A n c, .int .i64 heat, .int .i64 lane] W (RetI W (touV cl l heat.toNat lane)) by
      have := padTouches_c Ac nc cc cl A n c l W (hc.below (w' := W) B) (h.below (w' := W) B) m1 m2 hn heat.toNat (by omega) (by omega) lane
      rwa [show ((heat.toNat : Nat) : Int) = heat from by omega] at this)
    have hLa := Lib.hid (fun A' n' c' W h1 h2 => show Calls Tryz.prog 123 #[.int .i64 N, .slice A' n' c'] W (RetTwo W (goodV N (touV cl l heat.toNat lane), ghostV N (touV cl l heat.toNat lane))) from sorted_c N A' n' c' (touV cl l heat.toNat lane) W h1 hN1 hN2 h2 htb)
    rw [h0, if_pos hr, hN0] at hCh
    rw [h0, if_pos rfl]
    clear hr ht k1 k2 k3 m1 m2 m3 m4 hN0 htb hc h h0 hrN
    generalize ghostV N (touV cl l heat.toNat lane) = LV at *
    generalize goodV N (touV cl l heat.toNat lane) = LG at *
    generalize touV cl l heat.toNat lane = TV at *
    obtain ⟨key, metres, stroke, course, legs, sex, young, old⟩ := r
    dsimp only [Race.val, Race.cells] at *
    go_enter Tryz.func34, Tryz.ntmps34
    go_wp2_with fail
    refine (hCh.out _ hbx).mono ?_; rintro e w1 ⟨rfl, B1⟩
    have hB1 := below_next hbx B1
    clear hCh B1 hbx hb0
    go_wp2_with fail
    refine (hTo.out _ hB1).mono ?_; rintro e w2 ⟨A2, c2, rfl, o2, B2⟩
    have r2 : RI 3 w2 A2 TV.length TV := R1.of_own o2 (by omega)
    have hB2 := below_next hB1 B2
    clear hTo o2 B2 hB1
    go_wp2_with fail
    refine (hLa.out A2 _ c2 _ r2 (by omega)).mono ?_; rintro e w3 ⟨A3, c3, A4, c4, rfl, r3, r4, B3⟩
    have hB3 := below_next hB2 B3
    clear hLa B3 hB2 r2 r3
    dsimp only at r4 ⊢
    go_wp2
    go_ret2
    exact ⟨A4, c4, rfl, r4, hB3⟩
  · rw [if_neg h0]
    have h1 : (clE r cl l heat lane == 0) = false := by simpa using h0
    have h2 : (clE r cl l heat lane != 0) = true := by simpa using h0
    clear h0 hc h hrN
    generalize clE r cl l heat lane = E at *
    generalize (if raceErr r = 0 then lenV r else 0) = LN at *
    obtain ⟨key, metres, stroke, course, legs, sex, young, old⟩ := r
    dsimp only [Race.val, Race.cells] at *
    go_enter Tryz.func34, Tryz.ntmps34
    go_wp2_with fail
    refine (hCh.out _ hbx).mono ?_; rintro e w1 ⟨rfl, B1⟩
    have hB1 := below_next hbx B1
    clear hCh B1 hbx hb0
    go_wp2
    go_ret2
    exact ⟨none, 0, rfl, R1.nil_ _ _ _ _, hB1⟩
theorem ghostsOf_c (r : Race) (N : Nat) (hr : raceErr r = 0) (hrN : lenV r = (N : Int)) (hN1 : 1 ≤ N) (hN : N ≤ 16) (V1 V2 V3 V4 : Value) (l : List Int) (w : World) (hln : l.length ≤ 100) (hb : ∀ x ∈ l, 0 ≤ x ∧ x ≤ 1000000000)
    (hTo : ∀ W, Below w.heap.size w W → Calls Tryz.prog 126 #[V1, V2, V3, V4] W (RetI W l)) :
    Calls Tryz.prog 38 #[r.val, V1, V2, V3, V4] w fun e w' => ∃ A c, e = .returned (.slice A (ghostV N l).length c) ∧ RI 3 w' A (ghostV N l).length (ghostV N l) ∧ Below w.heap.size w w' := by
  have hLo := Lib.hid (fun W => show Calls Tryz.prog 29 #[r.val] W fun e w' => e = .returned (.int .i64 (N : Int)) ∧ Below W.heap.size W w' by rw [← hrN]; exact lengthsOf_c r W hr)
  have hEn := Lib.hid (fun W => endsOf_c N W hN1 hN)
  have hCn := Lib.hid (fun Ae ce A n c W he h hn => counting_c N Ae ce A n c l W he h hN1 hN hn hb)
  have hpr : cntGo (e0N N) (mN N) [] [] l = (goodV N l, ghostV N l) := rfl
  rw [hpr] at hCn
  have q5 : 1 ≤ mN N ∧ mN N ≤ 8 := by unfold mN; omega
  have hEl := endsV_len N
  clear hpr hb
  generalize goodV N l = G at *
  generalize ghostV N l = H at *
  generalize endsV N = E at *
  generalize mN N = M at *
  have hTo' := Lib.hid hTo
  have hbx := below_new w (.cells r.cells 27)
  have hb0 := heap_alloc_new w (.cells r.cells 27)
  obtain ⟨key, metres, stroke, course, legs, sex, young, old⟩ := r
  dsimp only [Race.val, Race.cells] at *
  clear hTo hr hrN
  go_enter Tryz.func38, Tryz.ntmps38
  go_wp2_with fail
  refine (hLo.out _).mono ?_; rintro e w1 ⟨rfl, B1⟩
  have hB1 := below_next hbx B1
  clear hLo B1 hbx hb0
  go_wp2_with fail
  refine (hEn.out _).mono ?_; rintro e w2 ⟨Ae, ce, rfl, oE, B2⟩
  have hB2 := below_next hB1 B2
  have rE : RI 3 w2 Ae E.length E := R1.of_own oE (by omega)
  rw [hEl] at rE ⊢
  clear hEn oE B2 hB1
  go_wp2_with fail
  refine (hTo'.out _ hB2).mono ?_; rintro e w3 ⟨At, ct, rfl, oT, B3⟩
  have rT : RI 3 w3 At l.length l := R1.of_own oT (by omega)
  have rE3 := rE.below B3
  have hB3 := below_next hB2 B3
  clear hTo' oT B3 hB2 rE
  go_wp2_with fail
  refine (hCn.out _ _ _ _ _ _ rE3 rT hln).mono ?_; rintro e w4 ⟨A1, c1, A2, c2, rfl, r1, r2, B4⟩
  have hB4 := below_next hB3 B4
  clear hCn r1 rT rE3 hB3 B4
  dsimp only at r2 ⊢
  go_wp2
  go_ret
  exact ⟨A2, c2, rfl, r2, hB4⟩
end Go.Proofs.YtcdnjehkkbnfbaaGreatDoor
