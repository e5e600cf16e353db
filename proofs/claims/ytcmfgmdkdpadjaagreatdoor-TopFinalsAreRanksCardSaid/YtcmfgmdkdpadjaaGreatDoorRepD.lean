/- heat.Replace of places that are right. -/
import Derived.Test.YtcmfgmdkdpadjaaGreatDoorRepC
namespace Go.Proofs.YtcmfgmdkdpadjaaGreatDoor
open Go.RowKit
set_option linter.unusedVariables false

def dueL (p : List Pc) : List Int := (p.filter fun y => decide (0 < y.fin)).map Pc.fin
def keptL (p : List Pc) (who : List ByteArray) : List Pc := p.filter fun y => !Lib.containsS who y.who
def newGo (due : List Int) : Nat → List Pc → List Pc
  | _, [] => []
  | k, y :: r => ⟨y.who, due.getD k 0, y.rk⟩ :: newGo due (k + 1) r
theorem newGo_len (due : List Int) : ∀ (l : List Pc) (k : Nat), (newGo due k l).length = l.length
  | [], _ => rfl
  | y :: r, k => by unfold newGo; rw [List.length_cons, newGo_len due r, List.length_cons]
theorem newGo_snoc (due : List Int) : ∀ (l : List Pc) (k : Nat) (y : Pc), newGo due k (l ++ [y]) = newGo due k l ++ [⟨y.who, due.getD (k + l.length) 0, y.rk⟩]
  | [], k, y => rfl
  | x :: r, k, y => by
    rw [List.cons_append]
    unfold newGo
    rw [newGo_snoc due r (k + 1) y, List.length_cons, show k + 1 + r.length = k + (r.length + 1) by omega]
    rfl
def newL (p : List Pc) (who : List ByteArray) : List Pc := newGo (dueL p) 0 (keptL p who)
theorem due_snoc (l : List Pc) (y : Pc) : dueL (l ++ [y]) = dueL l ++ if 0 < y.fin then [y.fin] else [] := by
  unfold dueL
  rw [List.filter_append, List.map_append]
  congr 1
  by_cases h : 0 < y.fin <;> simp [h]
theorem kept_snoc (l : List Pc) (who : List ByteArray) (y : Pc) : keptL (l ++ [y]) who = keptL l who ++ if Lib.containsS who y.who = true then [] else [y] := by
  unfold keptL
  rw [List.filter_append]
  congr 1
  by_cases h : Lib.containsS who y.who = true <;> simp [h]
structure RP (w : World) (A : Option Addr) (n c : Nat) (u : Value) (acc : List Int) (wx : World) : Prop where
  own : wx.ownsRow (w.heap.size + 2) 3 1 u acc.length (ints acc)
  b4 : wx.heap[w.heap.size + 1]? = some (.cells #[.slice A n c] 70 (0, 0))
  bel : Below w.heap.size w wx
  siz : w.heap.size + 2 ≤ wx.heap.size
section
variable {w wx w' : World} {A : Option Addr} {n c : Nat} {u v' : Value} {acc : List Int} {x : Int}
theorem RP.below (h : RP w A n c u acc wx) (B : Below wx.heap.size wx w') : RP w A n c u acc w' := ⟨own_below h.own B, blk_below h.b4 B, below_next h.bel B, Nat.le_trans h.siz B.size⟩
theorem RP.app (h : RP w A n c u acc wx) (ho : w'.ownsRow (w.heap.size + 2) 3 1 v' (acc.length + 1) (ints acc ++ [.int .i64 x])) (hg : wx.grownBy w' u.ownBlock) : RP w A n c v' (acc ++ [x]) w' :=
  ⟨by rw [ints_snoc, List.length_append]; exact ho, blk_grown h.b4 hg (fun e => by have := own_row_lt h.own _ e.symm; omega), below_own h.bel h.own hg h.bel.size (by omega), Nat.le_trans h.siz hg.size⟩
end
structure OP (w : World) (u : Value) (acc : List Pc) (wx : World) : Prop where
  own : wx.ownsRow w.heap.size 79 3 u acc.length (acc.flatMap pcE)
  bel : Below w.heap.size w wx
section
variable {w wx w' : World} {u v' : Value} {acc : List Pc} {x : Pc}
theorem OP.below (h : OP w u acc wx) (B : Below wx.heap.size wx w') : OP w u acc w' := ⟨own_below h.own B, below_next h.bel B⟩
theorem OP.set (h : OP w u acc wx) {b j : Nat} {v : Value} (hb : w.heap.size ≤ b) (hne : ∀ i, u.ownBlock = some i → i ≠ b) : OP w u acc (wx.setCell ⟨b, j, none⟩ v) := by
  have hg : wx.grownBy (wx.setCell ⟨b, j, none⟩ v) (some b) := grown_setCell (grown_refl wx _) (.inl rfl) _
  refine ⟨h.own.kept hg ?_, h.bel.trans (grown_below hg hb h.bel.size)⟩
  cases hu : u.ownBlock with
  | none => exact .inl rfl
  | some i => exact .inr (fun e => hne i hu (by injection e))
theorem OP.app (h : OP w u acc wx) (ho : w'.ownsRow w.heap.size 79 3 v' (acc.length + 1) (acc.flatMap pcE ++ pcE x)) (hg : wx.grownBy w' u.ownBlock) : OP w v' (acc ++ [x]) w' :=
  ⟨by rw [flat_snocP, List.length_append]; exact ho, below_own h.bel h.own hg h.bel.size (Nat.le_refl _)⟩
theorem OP.start (w : World) : OP w (.slice none 0 0) [] w := ⟨World.ownsRow_nil _ _ _ _, Below.refl _ _⟩
end
set_option maxHeartbeats 6400000 in
set_option maxRecDepth 100000 in
theorem replaceOk_c (f : Fl) (hf : FlOk f) (A B : Option Addr) (n c m d : Nat) (p : List Pc) (who : List ByteArray) (hok : PlsOk f p) (w : World) (h : RPc w A n p) (hB : RS 9 w B m who) (hcap : (B = none ∧ m = 0 ∧ d = 0) ∨ ∃ b, B = some ⟨b, 0, none⟩ ∧ m ≤ d) (hm : m ≤ 300) (hmem : ∀ s ∈ who, s ∈ p.map Pc.who) (hnd : who.Nodup) :
    Calls Tryz.prog 67 #[f.val, .slice A n c, .slice B m d] w fun e w' => ∃ A' n' c', e = .returned (.tuple #[.slice A' n' c', .int .i64 0]) ∧ RPc w' A' n' (newL p who) ∧ Below w.heap.size w w' := by
  have hn : n ≤ 300 := by have := hok.big; rw [h.len] at this; exact this
  have hCF := Lib.hid (fun W => checkFinal_c f W)
  rw [show finErr f = 0 from if_pos hf] at hCF
  have hCP := Lib.hid (fun W h => checkPlacesOk_c f hf A n c p hok W h)
  have hCW := Lib.hid (fun b4 W h hb hB => checkWhoOk_c A B n c m d p who b4 W h hb hB hcap hm hmem hnd)
  have hCn := Lib.hid (fun s W h => containsN_c B m d who s W h)
  have hR := Lib.hid (fun W B => h.below (w' := W) B)
  have hRS := Lib.hid (fun W b => hB.below (w' := W) b)
  have hl := Lib.hid h.len
  have hD1 := Lib.hid (fun k (x : Pc) (hx : p[k]? = some x) => show dueL (p.take (k + 1)) = dueL (p.take k) ++ if 0 < x.fin then [x.fin] else [] by rw [List.take_add_one, hx]; exact due_snoc _ _)
  have hDn := Lib.hid (show dueL (p.take n) = dueL p by rw [List.take_of_length_le (by rw [h.len]; exact Nat.le_refl _)])
  have hDl := Lib.hid (fun k => show (dueL (p.take k)).length ≤ k from by unfold dueL; rw [List.length_map]; have := List.length_filter_le (fun y : Pc => decide (0 < y.fin)) (p.take k); rw [List.length_take] at this; omega)
  have hN1 := Lib.hid (fun k (x : Pc) (hx : p[k]? = some x) => show keptL (p.take (k + 1)) who = keptL (p.take k) who ++ if Lib.containsS who x.who = true then [] else [x] by rw [List.take_add_one, hx]; exact kept_snoc _ _ _)
  have hNn := Lib.hid (show newL p who = newGo (dueL p) 0 (keptL (p.take n) who) by rw [List.take_of_length_le (by rw [h.len]; exact Nat.le_refl _)]; rfl)
  have hNl := Lib.hid (fun k => show (keptL (p.take k) who).length ≤ k from by unfold keptL; have := List.length_filter_le (fun y : Pc => !Lib.containsS who y.who) (p.take k); rw [List.length_take] at this; omega)
  have hF0 : FinB w.heap.size f (w.alloc (.cells f.cells 66)) := heap_alloc_new w _
  have hF1 : FinB w.heap.size f ((w.alloc (.cells f.cells 66)).alloc (.cells #[.slice A n c] 70)) := hF0.keep _ _ (below_new _ _)
  have hB1 : Below w.heap.size w ((w.alloc (.cells f.cells 66)).alloc (.cells #[.slice A n c] 70)) := (below_new w _).alloc (by simp) _
  have hb4 := heap_alloc_new (w.alloc (.cells f.cells 66)) (.cells #[.slice A n c] 70)
  rw [alloc_size] at hb4
  have K0 : RP w A n c (.slice none 0 0) [] ((w.alloc (.cells f.cells 66)).alloc (.cells #[.slice A n c] 70)) := ⟨World.ownsRow_nil _ _ _ _, hb4, hB1, by simp⟩
  have hFk := Lib.hid (fun a v (h : FinB w.heap.size f a) B => (FinB.keep a v h B))
  have hFa := Lib.hid (fun v (h : FinB w.heap.size f v) => h.at_)
  clear hok h hB hcap hm hmem hnd hF0 hB1 hb4
  generalize newL p who = NW at *
  generalize dueL p = DU at *
  obtain ⟨sz, mn, rs⟩ := f
  dsimp only [Fl.val, Fl.cells] at *
  clear hf
  obtain ⟨y0, y1, y2⟩ := hFa.out _ hF1
  have x4 := (blk_facts K0.b4).1 0
  go_enter Tryz.func67, Tryz.ntmps67
  go_wp2_with fail
  refine (hCF.out _).mono ?_; rintro e w2 ⟨rfl, B2⟩
  have K2 := K0.below B2
  have hF2 := hFk.out _ _ hF1 B2
  clear K0 hF1 B2 hCF x4
  obtain ⟨y0, y1, y2⟩ := hFa.out _ hF2
  have x4 := (blk_facts K2.b4).1 0
  go_wp2_with fail
  refine (hCP.out _ (hR.out _ K2.bel)).mono ?_; rintro e w3 ⟨rfl, B3⟩
  have K3 := K2.below B3
  clear K2 hF2 B3 hCP x4 hFa hFk
  have x4 := (blk_facts K3.b4).1 0
  go_wp2_with fail
  refine (hCW.out _ _ (hR.out _ K3.bel) K3.b4 (hRS.out _ K3.bel)).mono ?_; rintro e w4 ⟨rfl, B4⟩
  have K4 := K3.below B4
  clear K3 B4 hCW x4
  have x4 := (blk_facts K4.b4).1 0
  go_wp2_with fail
  go_loopw [11, 37] (fun u i wr => ∃ k : Nat, k ≤ n ∧ i = .int .i64 k ∧ RP w A n c u (dueL (p.take k)) wr) (fun _ i _ => n - (intOf i).toNat)
  case atStart => exact ⟨0, Nat.zero_le _, rfl, K4⟩
  case round =>
    clear K4 x4
    obtain ⟨k, hk, rfl, K⟩ := hrel
    obtain ⟨Au, cu, rfl⟩ := own_shape K.own
    by_cases hlt : k < n
    · obtain ⟨b, off, x, rfl, hbl, hx, c0, c1, c2⟩ := RPc_at3 (hR.out _ K.bel) hlt
      have hD := Lib.hid (hD1.out k x hx)
      have hdl := hDl.out k
      obtain ⟨who', fin, rk⟩ := x
      dsimp only at *
      have K5 := K.below (below_new wr (.cells #[.string who', .int .i64 fin, .int .i64 rk] 79))
      have z1 := (blk_facts (heap_alloc_new wr (.cells #[.string who', .int .i64 fin, .int .i64 rk] 79))).1 1
      have hown := K5.own
      have hsz := K5.siz
      have hA := Lib.hid (fun v' w' ho hg => K5.app (v' := v') (x := fin) (w' := w') ho hg)
      generalize dueL (p.take k) = DK at *
      clear hx K
      by_cases hp : 0 < fin
      · have hD2 := Lib.hid (show dueL (p.take (k + 1)) = DK ++ [fin] by rw [hD.out, if_pos hp])
        go_wp2_with (at_builtin; refine wpList_app rfl (.tmp 44) (.tmp 47) 22 rfl Tryz.underlying22 info_int rfl (by omega) (by omega) hown rfl rfl (by first | rfl | (simp; done)) (by rfl) (by simp [Value.oneCell']) (by omega) hsz ?_; intro v6 w6 hown6 hg6)
        have K6 := hA.out v6 w6 hown6 hg6
        clear hown6 hg6 hown hA z1 K5
        go_roundw
        case rel => exact ⟨k + 1, by omega, by go_num, by rw [hD2.out]; exact K6⟩
        case measure => simp [intOf]; omega
      · have hD2 := Lib.hid (show dueL (p.take (k + 1)) = DK by rw [hD.out, if_neg hp, List.append_nil])
        clear hown hA
        go_wp2
        go_roundw
        case rel => exact ⟨k + 1, by omega, by go_num, by rw [hD2.out]; exact K5⟩
        case measure => simp [intOf]; omega
    · obtain rfl : k = n := by omega
      rw [hDn.out] at K ⊢
      have hdl := hDl.out k
      rw [hDn.out] at hdl
      have hRD : RI 3 wr Au DU.length DU := R1.of_own K.own (by omega)
      have hbel := K.bel
      have x4 := (blk_facts K.b4).1 0
      have hRDb := Lib.hid (fun W B => hRD.below (w' := W) B)
      have hR2 := Lib.hid (fun W (B : Below wr.heap.size wr W) => hR.out _ (below_next hbel B))
      have hS2 := Lib.hid (fun W (B : Below wr.heap.size wr W) => hRS.out _ (below_next hbel B))
      clear K hR hRS hRD
      go_wp2_with fail
      go_loopw [14, 52] (fun u i wx => ∃ j : Nat, j ≤ k ∧ i = .int .i64 j ∧ OP wr u (newGo DU 0 (keptL (p.take j) who)) wx) (fun _ i _ => k - (intOf i).toNat)
      case atStart => exact ⟨0, Nat.zero_le _, rfl, OP.start wr⟩
      case round =>
        clear x4
        rename World => wx
        obtain ⟨j, hj, rfl, K⟩ := hrel
        obtain ⟨Ao, co, rfl⟩ := own_shape K.own
        have hnl := Lib.hid (show (newGo DU 0 (keptL (p.take j) who)).length = (keptL (p.take j) who).length from newGo_len _ _ _)
        have hkl := hNl.out j
        have hkl2 : (newGo DU 0 (keptL (p.take j) who)).length ≤ j := by rw [hnl.out]; exact hkl
        by_cases hlt : j < k
        · obtain ⟨b, off, x, rfl, hbl, hx, c0, c1, c2⟩ := RPc_at3 (hR2.out _ K.bel) hlt
          have hN := Lib.hid (hN1.out j x hx)
          have hsn := Lib.hid (fun (y : Pc) => newGo_snoc DU (keptL (p.take j) who) 0 y)
          obtain ⟨who', fin, rk⟩ := x
          dsimp only at *
          have hneB := fun i (hi : (Value.slice Ao (newGo DU 0 (keptL (p.take j) who)).length co).ownBlock = some i) => Nat.ne_of_lt ((K.own.lt i hi).2)
          have hb5 := heap_alloc_new wx (.cells #[.string who', .int .i64 fin, .int .i64 rk] 79)
          have K5 := K.below (below_new wx (.cells #[.string who', .int .i64 fin, .int .i64 rk] 79))
          have hKb := Lib.hid (fun o => K.below (below_new wx o))
          have z0 := (blk_facts hb5).1 0
          clear hx K hneB
          go_wp2_with fail
          refine (hCn.out who' _ (hS2.out _ K5.bel)).mono ?_; rintro e w6 ⟨rfl, rfl⟩
          clear c0 c1 c2
          cases hc : Lib.containsS who who' with
          | true =>
            have hN2 := Lib.hid (show keptL (p.take (j + 1)) who = keptL (p.take j) who by rw [hN.out, if_pos hc, List.append_nil])
            clear hc hN
            go_wp2
            go_roundw
            case rel => exact ⟨j + 1, by omega, by go_num, by rw [hN2.out]; exact K5⟩
            case measure => simp [intOf]; omega
          | false =>
            have hN2 := Lib.hid (show keptL (p.take (j + 1)) who = keptL (p.take j) who ++ [⟨who', fin, rk⟩] by rw [hN.out, if_neg (by simp [hc])])
            clear hc hN
            have f1 := (blk_facts (heap_alloc_new wx (.cells #[.string who', .int .i64 fin, .int .i64 rk] 79))).2 1
            have z1 := (blk_facts (heap_alloc_new wx (.cells #[.string who', .int .i64 fin, .int .i64 rk] 79))).1 1
            have g1 := (blk_facts (heap_alloc_new wx (.cells #[.string who', .int .i64 0, .int .i64 rk] 79))).2 1
            have u0 := (blk_facts (heap_alloc_new wx (.cells #[.string who', .int .i64 0, .int .i64 rk] 79))).1 0
            have u1 := (blk_facts (heap_alloc_new wx (.cells #[.string who', .int .i64 0, .int .i64 rk] 79))).1 1
            have u2 := (blk_facts (heap_alloc_new wx (.cells #[.string who', .int .i64 0, .int .i64 rk] 79))).1 2
            have K6 := hKb.out (.cells #[.string who', .int .i64 0, .int .i64 rk] 79)
            by_cases hd : (newGo DU 0 (keptL (p.take j) who)).length < DU.length
            · obtain ⟨bd, od, dv, hAd, hbd, hdv, cd⟩ := (hRDb.out _ K6.bel).at_ hd
              subst hAd
              have hget : DU.getD (0 + (keptL (p.take j) who).length) 0 = dv := by rw [Nat.zero_add, ← hnl.out]; exact getD_of hdv
              have hsn2 := Lib.hid (show newGo DU 0 (keptL (p.take (j + 1)) who) = newGo DU 0 (keptL (p.take j) who) ++ [⟨who', dv, rk⟩] by rw [hN2.out, hsn.out, hget])
              have K7 := hKb.out (.cells #[.string who', .int .i64 dv, .int .i64 rk] 79)
              have v0 := (blk_facts (heap_alloc_new wx (.cells #[.string who', .int .i64 dv, .int .i64 rk] 79))).1 0
              have v1 := (blk_facts (heap_alloc_new wx (.cells #[.string who', .int .i64 dv, .int .i64 rk] 79))).1 1
              have v2 := (blk_facts (heap_alloc_new wx (.cells #[.string who', .int .i64 dv, .int .i64 rk] 79))).1 2
              have hown := K7.own
              have hz7 := K7.bel.size
              have hA := Lib.hid (fun v' w' ho hg => K7.app (v' := v') (x := ⟨who', dv, rk⟩) (w' := w') ho hg)
              clear hN2 hsn hget hdv K5 K6 hKb
              generalize newGo DU 0 (keptL (p.take j) who) = NG at *
              go_wp2_with (at_builtin; refine wpList_app rfl (.tmp 72) (.tmp 74) 70 rfl Tryz.underlying70 info_place rfl (by omega) (by omega) hown rfl rfl (by first | rfl | (simp; done)) (by rfl) (by simp [Value.oneCell']) (by omega) hz7 ?_; intro v9 w9 hown9 hg9)
              have K9 := hA.out v9 w9 hown9 hg9
              clear hown9 hg9 hown hA K7 v0 v1 v2 cd u0 u1 u2 g1 f1 z1
              go_roundw
              case rel => exact ⟨j + 1, by omega, by go_num, by rw [hsn2.out]; exact K9⟩
              case measure => simp [intOf]; omega
            · have hget : DU.getD (0 + (keptL (p.take j) who).length) 0 = 0 := by rw [Nat.zero_add, ← hnl.out, List.getD_eq_getElem?_getD, List.getElem?_eq_none (by omega)]; rfl
              have hsn2 := Lib.hid (show newGo DU 0 (keptL (p.take (j + 1)) who) = newGo DU 0 (keptL (p.take j) who) ++ [⟨who', 0, rk⟩] by rw [hN2.out, hsn.out, hget])
              have hown := K6.own
              have hz7 := K6.bel.size
              have hA := Lib.hid (fun v' w' ho hg => K6.app (v' := v') (x := ⟨who', 0, rk⟩) (w' := w') ho hg)
              clear hN2 hsn hget K5 hKb
              generalize newGo DU 0 (keptL (p.take j) who) = NG at *
              go_wp2_with (at_builtin; refine wpList_app rfl (.tmp 72) (.tmp 74) 70 rfl Tryz.underlying70 info_place rfl (by omega) (by omega) hown rfl rfl (by first | rfl | (simp; done)) (by rfl) (by simp [Value.oneCell']) (by omega) hz7 ?_; intro v9 w9 hown9 hg9)
              have K9 := hA.out v9 w9 hown9 hg9
              clear hown9 hg9 hown hA K6 u0 u1 u2 g1 f1 z1
              go_roundw
              case rel => exact ⟨j + 1, by omega, by go_num, by rw [hsn2.out]; exact K9⟩
              case measure => simp [intOf]; omega
        · obtain rfl : j = k := by omega
          have hfin : newGo DU 0 (keptL (p.take j) who) = NW := hNn.out.symm
          have hown := K.own
          have hbb := K.bel
          rw [hfin] at hown ⊢
          have hRf : RPc wx Ao NW.length NW := RN.of_own pcE_len hown rfl (by rw [← hfin]; omega)
          have hBf := below_next hbel hbb
          clear K hown
          go_wp2
          go_ret2
          exact ⟨Ao, _, co, rfl, hRf, hBf⟩
end Go.Proofs.YtcmfgmdkdpadjaaGreatDoor
