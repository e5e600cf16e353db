import Derived.Test.YtklggnglaeagpaaGreatDoorPStT
import Derived.Test.YtklggnglaeagpaaGreatDoorPP37
/- heat.FinalStarts of right finals. -/
namespace Go.Proofs.YtklggnglaeagpaaGreatDoor
open Go.RowKit
set_option linter.unusedVariables false

theorem info_strs : (Tryz.prog.info? 97).map (fun i => (i.zero, i.size, i.bytes)) = some (some (.slice none 0 0), 1, 24) := by kernel_rfl
/-- who swims a final, and the finals from the last one on -/
def nmF (P : List Pc) (v : Int) : List ByteArray := (P.filter fun y => decide (y.fin = v)).map Pc.who
def heatsV (P : List Pc) : Nat → List (List ByteArray)
  | 0 => []
  | k + 1 => (if nmF P ((k : Int) + 1) = [] then [] else [nmF P ((k : Int) + 1)]) ++ heatsV P k
theorem nmF_snoc (P : List Pc) (v : Int) (y : Pc) : nmF (P ++ [y]) v = nmF P v ++ if y.fin = v then [y.who] else [] := by
  unfold nmF
  rw [List.filter_append, List.map_append]
  congr 1
  by_cases h : y.fin = v <;> simp [h]
theorem nmF_len {f : Fl} (hf : FlOk f) {P : List Pc} (hok : PlsOk f P) {v : Int} (hv : 1 ≤ v) : ((nmF P v).length : Int) ≤ f.sz := by
  have h1 : ∀ m : Nat, (cntF v (P.take m) : Int) ≤ f.sz := by
    intro m
    induction m with
    | zero => have := hf.1.1; show ((0 : Nat) : Int) ≤ _; omega
    | succ m ih =>
      cases hm : P[m]? with
      | none => rw [List.take_add_one, hm]; show (cntF v (P.take m ++ []) : Int) ≤ _; rw [List.append_nil]; exact ih
      | some x =>
        by_cases he : x.fin = v
        · have := hok.cnt m x hm (by omega)
          rw [he] at this
          exact this
        · rw [List.take_add_one, hm]
          show (cntF v (P.take m ++ [x]) : Int) ≤ _
          rw [cntF_snoc, if_neg he]
          exact ih
  have h2 := h1 P.length
  rw [List.take_of_length_le (Nat.le_refl _)] at h2
  unfold nmF
  rw [List.length_map]
  exact h2
theorem heatsV_mem (P : List Pc) : ∀ (k : Nat) (l : List ByteArray), l ∈ heatsV P k → ∃ v : Int, 1 ≤ v ∧ v ≤ k ∧ l = nmF P v ∧ l ≠ []
  | 0, l, h => by simp [heatsV] at h
  | k + 1, l, h => by
    unfold heatsV at h
    rcases List.mem_append.1 h with h | h
    · split at h
      · cases h
      · rename_i hne
        simp at h
        exact ⟨(k : Int) + 1, by omega, by push_cast; omega, h, by rw [h]; exact hne⟩
    · obtain ⟨v, h1, h2, h3, h4⟩ := heatsV_mem P k l h
      exact ⟨v, h1, by push_cast; omega, h3, h4⟩
theorem flat_snocH (l : List Hn) (x : Hn) : (l ++ [x]).flatMap hnE = l.flatMap hnE ++ hnE x := by rw [List.flatMap_append]; simp
structure HS (w : World) (p : Pl) (f : Fl) (u : Value) (acc : List Hn) (wx : World) : Prop where
  own : wx.ownsRow (w.heap.size + 2) 97 1 u acc.length (acc.flatMap hnE)
  inn : ∀ x ∈ acc, RS 9 wx x.A x.n x.l
  pb : PoolB w.heap.size p wx
  fb : FinB (w.heap.size + 1) f wx
  bel : Below w.heap.size w wx
  siz : w.heap.size + 2 ≤ wx.heap.size
section
variable {w wx w' : World} {p : Pl} {f : Fl} {u v' : Value} {acc : List Hn} {x : Hn}
theorem HS.below (h : HS w p f u acc wx) (B : Below wx.heap.size wx w') : HS w p f u acc w' := ⟨own_below h.own B, fun x hx => (h.inn x hx).below B, h.pb.keep _ _ B, h.fb.keep _ _ B, below_next h.bel B, Nat.le_trans h.siz B.size⟩
theorem HS.app (h : HS w p f u acc wx) (hx : RS 9 wx x.A x.n x.l) (ho : w'.ownsRow (w.heap.size + 2) 97 1 v' (acc.length + 1) (acc.flatMap hnE ++ hnE x)) (hg : wx.grownBy w' u.ownBlock) : HS w p f v' (acc ++ [x]) w' := by
  have hk : Keep 97 wx w' := keep_of_app h.own hg
  refine ⟨by rw [flat_snocH, List.length_append]; exact ho, fun y hy => ?_, blk_grown h.pb hg (fun e => by have := own_row_lt h.own _ e.symm; omega), blk_grown h.fb hg (fun e => by have := own_row_lt h.own _ e.symm; omega), below_own h.bel h.own hg h.bel.size (by omega), Nat.le_trans h.siz hg.size⟩
  rcases List.mem_append.1 hy with hy | hy
  · exact (h.inn y hy).keep (by decide) hk
  · simp at hy; subst hy; exact hx.keep (by decide) hk
end
def RetFs (w : World) (p : Pl) (f : Fl) (P : List Pc) (e : Ending) (w' : World) : Prop := ∃ A' n' c' D E, e = .returned (.tuple #[.slice A' n' c', .int .i64 E]) ∧ RSp w' A' n' D ∧ ((p.hi - p.lo + 1 < f.sz ∧ E = 12) ∨ (f.sz ≤ p.hi - p.lo + 1 ∧ E = 0 ∧ SpSorted (stOut (laneV p.lo p.hi) 0 (heatsV P f.mn.toNat)) D)) ∧ Below w.heap.size w w'
set_option maxHeartbeats 6400000 in
set_option maxRecDepth 100000 in
theorem finalStarts_c (p : Pl) (hp : PlOk p) (hpb : PlBd p) (f : Fl) (hf : FlOk f) (A : Option Addr) (n c : Nat) (P : List Pc) (hok : PlsOk f P) (w : World) (h : RPc w A n P) :
    Calls Tryz.prog 82 #[p.val, f.val, .slice A n c] w (RetFs w p f P) := by
  have hCP := Lib.hid (fun W => checkPool_c p hpb W)
  rw [show poolErr p = 0 from if_pos hp] at hCP
  have hCF := Lib.hid (fun W => checkFinal_c f W)
  rw [show finErr f = 0 from if_pos hf] at hCF
  have hCL := Lib.hid (fun W h => checkPlacesOk_c f hf A n c P hok W h)
  have hSt := Lib.hid (fun A n c H W h hn hl => starts_c p hp A n c H W h hn hl)
  have hnl := Lib.hid (fun v (hv : 1 ≤ v) => nmF_len hf hok hv)
  have hhm := Lib.hid (fun k l h => heatsV_mem P k l h)
  have hH0 := Lib.hid (show heatsV P 0 = [] from rfl)
  have hH1 := Lib.hid (fun (k : Nat) => show heatsV P (k + 1) = (if nmF P ((k : Int) + 1) = [] then [] else [nmF P ((k : Int) + 1)]) ++ heatsV P k from rfl)
  have hR := Lib.hid (fun W B => h.below (w' := W) B)
  have hn : n ≤ 300 := by have := hok.big; rw [h.len] at this; exact this
  have hNs := Lib.hid (fun v k (y : Pc) (hy : P[k]? = some y) => show nmF (P.take (k + 1)) v = nmF (P.take k) v ++ if y.fin = v then [y.who] else [] by rw [List.take_add_one, hy]; exact nmF_snoc _ _ _)
  have hNt := Lib.hid (fun v => show nmF (P.take n) v = nmF P v by rw [List.take_of_length_le (by rw [h.len]; exact Nat.le_refl _)])
  have hNl := Lib.hid (fun v k => show (nmF (P.take k) v).length ≤ k from by unfold nmF; rw [List.length_map]; have := List.length_filter_le (fun y : Pc => decide (y.fin = v)) (P.take k); rw [List.length_take] at this; omega)
  have hP1 : PoolB w.heap.size p ((w.alloc (.cells p.cells 131)).alloc (.cells f.cells 128)) := PoolB.keep _ _ (heap_alloc_new w _) (below_new _ _)
  have hF1 : FinB (w.heap.size + 1) f ((w.alloc (.cells p.cells 131)).alloc (.cells f.cells 128)) := by
    have := heap_alloc_new (w.alloc (.cells p.cells 131)) (.cells f.cells 128)
    rw [alloc_size] at this
    exact this
  have K0 : HS w p f (.slice none 0 0) [] ((w.alloc (.cells p.cells 131)).alloc (.cells f.cells 128)) := ⟨World.ownsRow_nil _ _ _ _, fun x hx => (by cases hx), hP1, hF1, (below_new w _).alloc (by simp) _, by simp⟩
  have hKp := Lib.hid (fun u acc v (h : HS w p f u acc v) => h.pb.at_)
  have hKf := Lib.hid (fun u acc v (h : HS w p f u acc v) => h.fb.at_)
  obtain ⟨⟨p0, p1⟩, p2, _⟩ := hp
  obtain ⟨⟨f0, f1⟩, ⟨f2, f3⟩, _⟩ := hf
  clear hP1 hF1 hok h hpb
  unfold RetFs
  obtain ⟨lo, hi, le, ci⟩ := p
  obtain ⟨sz, mn, rs⟩ := f
  dsimp only [Pl.val, Pl.cells, Fl.val, Fl.cells] at *
  have w1' : IntKind.i64.wrap (hi - lo) = hi - lo := IntWalk.i64_in _ (by omega)
  have w2' : IntKind.i64.wrap (hi - lo + 1) = hi - lo + 1 := IntWalk.i64_in _ (by omega)
  obtain ⟨y0, y1, y2, y3⟩ := hKp.out _ _ _ K0
  obtain ⟨z0, z1, z2⟩ := hKf.out _ _ _ K0
  go_enter Tryz.func82, Tryz.ntmps82
  go_wp2_with fail
  refine (hCP.out _).mono ?_; rintro e w2 ⟨rfl, B2⟩
  replace K0 := K0.below B2
  clear hCP B2 y0 y1 y2 y3 z0 z1 z2
  obtain ⟨y0, y1, y2, y3⟩ := hKp.out _ _ _ K0
  obtain ⟨z0, z1, z2⟩ := hKf.out _ _ _ K0
  go_wp2_with fail
  refine (hCF.out _).mono ?_; rintro e w3 ⟨rfl, B3⟩
  replace K0 := K0.below B3
  clear hCF B3 y0 y1 y2 y3 z0 z1 z2
  obtain ⟨y0, y1, y2, y3⟩ := hKp.out _ _ _ K0
  obtain ⟨z0, z1, z2⟩ := hKf.out _ _ _ K0
  go_wp2_with fail
  refine (hCL.out _ (hR.out _ K0.bel)).mono ?_; rintro e w4 ⟨rfl, B4⟩
  replace K0 := K0.below B4
  clear hCL B4 y0 y1 y2 y3 z0 z1 z2
  obtain ⟨y0, y1, y2, y3⟩ := hKp.out _ _ _ K0
  obtain ⟨z0, z1, z2⟩ := hKf.out _ _ _ K0
  by_cases hfull : hi - lo + 1 < sz
  · have hbel := K0.bel
    clear hSt hnl hhm hH0 hH1 hNs hNt hNl
    go_wp2
    go_ret2
    exact ⟨none, 0, 0, [], 12, rfl, RN.nil_ _ _ _ _ _, .inl ⟨hfull, rfl⟩, hbel⟩
  obtain ⟨m, rfl⟩ : ∃ m : Nat, mn = (m : Int) := ⟨mn.toNat, by omega⟩
  have hmt := Lib.hid (show ((m : Int)).toNat = m from by omega)
  go_wp2_with fail
  go_loopw [11, 12] (fun u kv wr => ∃ (k : Nat) (acc : List Hn), k ≤ m ∧ kv = .int .i64 k ∧ acc.length + k ≤ m ∧ HS w ⟨lo, hi, le, ci⟩ ⟨sz, m, rs⟩ u acc wr ∧ Hid (acc.map Hn.l ++ heatsV P k = heatsV P m)) (fun _ kv _ => (intOf kv).toNat)
  case atStart => exact ⟨m, [], Nat.le_refl _, rfl, by simp, K0, Lib.hid rfl⟩
  case round =>
    clear K0 y0 y1 y2 y3 z0 z1 z2
    obtain ⟨k, acc, hk, rfl, hal, K, hG⟩ := hrel
    obtain ⟨Au, cu, rfl⟩ := own_shape K.own
    rcases Nat.eq_zero_or_pos k with h0 | h0
    · subst h0
      have hHm : acc.map Hn.l = heatsV P m := by have h := hG.out; rw [hH0.out, List.append_nil] at h; exact h
      obtain ⟨y0, y1, y2, y3⟩ := hKp.out _ _ _ K
      have hRH : RHn wr Au acc.length acc := ⟨RN.of_own hnE_len K.own rfl (by omega), K.inn⟩
      have hS := Lib.hid (hSt.out Au acc.length cu acc wr hRH (by omega) (fun x hx => by
        have h1 : x.l ∈ heatsV P m := by rw [← hHm]; exact List.mem_map_of_mem hx
        obtain ⟨v, hv1, hv2, hv3, hv4⟩ := hhm.out m x.l h1
        have := hnl.out v hv1
        rw [← hv3] at this
        omega))
      rw [hHm] at hS
      have hbel := K.bel
      clear K hRH hG hHm hSt hnl hhm hH0 hH1 hNs hNt hNl
      go_wp2_with fail
      refine hS.out.mono ?_; rintro e w7 ⟨A7, n7, c7, D, rfl, hRD, hsD, B7⟩
      have hB7 := below_next hbel B7
      have hsD' := Lib.hid hsD
      clear hS hsD B7
      go_wp2
      go_ret2
      exact ⟨A7, n7, c7, D, 0, rfl, hRD, .inr ⟨by omega, rfl, by rw [hmt.out]; exact hsD'.out⟩, hB7⟩
    · obtain ⟨k, rfl⟩ : ∃ j, k = j + 1 := ⟨k - 1, by omega⟩
      have hG2 := Lib.hid (show acc.map Hn.l ++ ((if nmF P ((k : Int) + 1) = [] then [] else [nmF P ((k : Int) + 1)]) ++ heatsV P k) = heatsV P m by rw [← hH1.out]; exact hG.out)
      have q1 : (1 : Int) ≤ ((k + 1 : Nat) : Int) := by omega
      have hkc : ((k + 1 : Nat) : Int) = (k : Int) + 1 := by push_cast; rfl
      clear hG
      have hz0 := K.bel
      have hz1 := K.siz
      have hRw := Lib.hid (fun W (B : Below wr.heap.size wr W) => hR.out W (below_next hz0 B))
      go_wp2_with fail
      go_loopw [13, 49] (fun u i wx => ∃ j : Nat, j ≤ n ∧ i = .int .i64 j ∧ NL wr u (nmF (P.take j) ((k : Int) + 1)) wx) (fun _ i _ => n - (intOf i).toNat)
      case atStart => exact ⟨0, Nat.zero_le _, rfl, NL.start wr⟩
      case round =>
        rename World => wx
        obtain ⟨j, hj, rfl, N⟩ := hrel
        obtain ⟨Ao, co, rfl⟩ := own_shape N.own
        have hnj := hNl.out ((k : Int) + 1) j
        by_cases hlt : j < n
        · obtain ⟨b, off, y, rfl, hbl, hy, c0, c1, c2⟩ := RPc_at3 (hRw.out _ N.bel) hlt
          have hs := Lib.hid (hNs.out ((k : Int) + 1) j y hy)
          obtain ⟨who, fin, rk⟩ := y
          dsimp only at *
          have N5 := N.below (below_new wx (.cells #[.string who, .int .i64 fin, .int .i64 rk] 144))
          have x0 := (blk_facts (heap_alloc_new wx (.cells #[.string who, .int .i64 fin, .int .i64 rk] 144))).1 0
          have x1 := (blk_facts (heap_alloc_new wx (.cells #[.string who, .int .i64 fin, .int .i64 rk] 144))).1 1
          have hown := N5.own
          have hsz := N5.bel.size
          have hA := Lib.hid (fun v' w' ho hg => N5.app (v' := v') (x := who) (w' := w') ho hg)
          clear hy N
          by_cases hq : fin = (k : Int) + 1
          · have hs2 := Lib.hid (show nmF (P.take (j + 1)) ((k : Int) + 1) = nmF (P.take j) ((k : Int) + 1) ++ [who] by rw [hs.out, if_pos hq])
            subst hq
            clear hs
            generalize nmF (P.take j) ((k : Int) + 1) = NF at *
            go_wp2_with (at_builtin; refine wpList_app rfl (.tmp 57) (.tmp 60) 97 rfl Tryz.underlying97 info_strS rfl (by omega) (by omega) hown rfl rfl (by first | rfl | (simp; done)) (by rfl) (by simp [Value.oneCell']) (by omega) hsz ?_; intro v6 w6 hown6 hg6)
            have N6 := hA.out v6 w6 hown6 hg6
            clear hown6 hg6 hown hA N5 x0 x1 c0 c1 c2
            go_roundw
            case rel => exact ⟨v6, _, .int .i64 ((j + 1 : Nat) : Int), ⟨j + 1, by omega, rfl, by rw [hs2.out]; exact N6⟩, rfl, rfl, by go_num⟩
            case measure => simp [intOf]; omega
          · have hs2 := Lib.hid (show nmF (P.take (j + 1)) ((k : Int) + 1) = nmF (P.take j) ((k : Int) + 1) by rw [hs.out, if_neg hq, List.append_nil])
            have e1 : (fin == (k : Int) + 1) = false := beq_eq_false_iff_ne.2 hq
            clear hs hq hown hA
            go_wp2
            go_roundw
            case rel => exact ⟨j + 1, by omega, by go_num, by rw [hs2.out]; exact N5⟩
            case measure => simp [intOf]; omega
        · obtain rfl : j = n := by omega
          have hNf := hNt.out ((k : Int) + 1)
          rw [hNf] at N hnj ⊢
          have K5 := K.below N.bel
          have hrs : RS 9 wx Ao (nmF P ((k : Int) + 1)).length (nmF P ((k : Int) + 1)) := RS.of_own N.own (by omega)
          clear N hNf K
          generalize nmF P ((k : Int) + 1) = NF at *
          by_cases hne : NF = []
          · have hG3 := Lib.hid (show acc.map Hn.l ++ heatsV P k = heatsV P m by have h := hG2.out; rw [if_pos hne, List.nil_append] at h; exact h)
            subst hne
            clear hG2
            go_wp2
            go_roundw
            case rel => exact ⟨k, acc, by omega, by first | rfl | go_num, by omega, K5, hG3⟩
            case measure => simp [intOf] <;> omega
          · have hG3 := Lib.hid (show (acc ++ [(⟨Ao, NF.length, co, NF⟩ : Hn)]).map Hn.l ++ heatsV P k = heatsV P m by have h := hG2.out; rw [if_neg hne] at h; rw [List.map_append, List.append_assoc]; exact h)
            have hpos : 0 < NF.length := List.length_pos_iff.2 hne
            have hpi : (0 : Int) < (NF.length : Int) := by omega
            have hown := K5.own
            have hsz := K5.siz
            have hA := Lib.hid (fun v' w' ho hg => K5.app (x := ⟨Ao, NF.length, co, NF⟩) (v' := v') (w' := w') hrs ho hg)
            clear hG2 hne
            go_wp2_with (at_builtin; refine wpList_app rfl (.tmp 66) (.tmp 68) 100 rfl Tryz.underlying100 info_strs rfl (by omega) (by omega) hown rfl rfl (by first | rfl | (simp; done)) (by rfl) (by simp [Value.oneCell']) (by omega) hsz ?_; intro v6 w6 hown6 hg6)
            have K6 := hA.out v6 w6 hown6 hg6
            clear hown6 hg6 hown hA K5
            go_roundw
            case rel => exact ⟨k, acc ++ [⟨Ao, NF.length, co, NF⟩], by omega, by first | rfl | go_num, by rw [List.length_append]; simp; omega, K6, hG3⟩
            case measure => simp [intOf] <;> omega
end Go.Proofs.YtklggnglaeagpaaGreatDoor
