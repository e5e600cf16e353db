/- Errors of heat.Finals, heat.SwimOff, heat.Decided; heat.Decided of any new times; equality of places. -/
import Derived.Test.YtjafcnblgeibpaaGreatDoorDecP
import Derived.Laws.StructEq
import Derived.Deep.QuietTactic
import Derived.BigQuiet
namespace Go.Proofs.YtjafcnblgeibpaaGreatDoor
open Go.RowKit Go.Shelf Go.Lib Go.Sort
open Go.Maps (Keyed string_keyed)
open Go.WideMaps (keyOf_string_mk)
set_option linter.unusedVariables false

def fSE (f : Fl) (l : List Sd) : Int := if finErr f ≠ 0 then finErr f else seedErr l
theorem finalsX_c (f : Fl) (A O : Option Addr) (n c m d : Nat) (l : List Sd) (w : World) (h : RSd w A n l) (hne : fSE f l ≠ 0) :
    Calls Tryz.prog 17 #[f.val, .slice A n c] w fun e w' => e = .returned (.tuple #[.slice none 0 0, .int .i64 (fSE f l)]) ∧ Below w.heap.size w w' := by
  have hCF := Lib.hid (fun W h => show Calls Tryz.prog 85 #[f.val, .slice A n c] W fun e w' => e = .returned (.int .i64 (fSE f l)) ∧ Below W.heap.size W w' from checkFinals_c f A n c l W h)
  have z0 : FinB w.heap.size f (w.alloc (.cells f.cells 27)) := heap_alloc_new w _
  have hB := below_new w (.cells f.cells 27)
  obtain ⟨y0, y1, y2⟩ := z0.at_
  have hr := h.below hB
  clear h z0
  generalize fSE f l = E at *
  have hb : (E != 0) = true := by simpa using hne
  clear hne
  obtain ⟨sz, mn, rs⟩ := f
  dsimp only [Fl.val, Fl.cells] at *
  go_enter Tryz.func17, Tryz.ntmps17
  go_wp2_with fail
  refine (hCF.out _ hr).mono ?_; rintro e w1 ⟨rfl, B1⟩
  have hB1 := below_next hB B1
  go_wp2
  go_ret2
  exact ⟨rfl, hB1⟩
theorem swimOffX_c (f : Fl) (A O : Option Addr) (n c m d : Nat) (l : List Sd) (w : World) (h : RSd w A n l) (hne : fSE f l ≠ 0) :
    Calls Tryz.prog 18 #[f.val, .slice A n c] w fun e w' => e = .returned (.tuple #[.slice none 0 0, .int .i64 (fSE f l)]) ∧ Below w.heap.size w w' := by
  have hCF := Lib.hid (fun W h => show Calls Tryz.prog 85 #[f.val, .slice A n c] W fun e w' => e = .returned (.int .i64 (fSE f l)) ∧ Below W.heap.size W w' from checkFinals_c f A n c l W h)
  have z0 : FinB w.heap.size f (w.alloc (.cells f.cells 27)) := heap_alloc_new w _
  have hB := below_new w (.cells f.cells 27)
  obtain ⟨y0, y1, y2⟩ := z0.at_
  have hr := h.below hB
  clear h z0
  generalize fSE f l = E at *
  have hb : (E != 0) = true := by simpa using hne
  clear hne
  obtain ⟨sz, mn, rs⟩ := f
  dsimp only [Fl.val, Fl.cells] at *
  go_enter Tryz.func18, Tryz.ntmps18
  go_wp2_with fail
  refine (hCF.out _ hr).mono ?_; rintro e w1 ⟨rfl, B1⟩
  have hB1 := below_next hB B1
  go_wp2
  go_ret2
  exact ⟨rfl, hB1⟩
theorem decidedX_c (f : Fl) (A O : Option Addr) (n c m d : Nat) (l : List Sd) (w : World) (h : RSd w A n l) (hne : fSE f l ≠ 0) :
    Calls Tryz.prog 19 #[f.val, .slice A n c, .slice O m d] w fun e w' => e = .returned (.tuple #[.slice none 0 0, .int .i64 (fSE f l)]) ∧ Below w.heap.size w w' := by
  have hCF := Lib.hid (fun W h => show Calls Tryz.prog 85 #[f.val, .slice A n c] W fun e w' => e = .returned (.int .i64 (fSE f l)) ∧ Below W.heap.size W w' from checkFinals_c f A n c l W h)
  have z0 : FinB w.heap.size f (w.alloc (.cells f.cells 27)) := heap_alloc_new w _
  have hB := below_new w (.cells f.cells 27)
  obtain ⟨y0, y1, y2⟩ := z0.at_
  have hr := h.below hB
  clear h z0
  generalize fSE f l = E at *
  have hb : (E != 0) = true := by simpa using hne
  clear hne
  obtain ⟨sz, mn, rs⟩ := f
  dsimp only [Fl.val, Fl.cells] at *
  go_enter Tryz.func19, Tryz.ntmps19
  go_wp2_with fail
  refine (hCF.out _ hr).mono ?_; rintro e w1 ⟨rfl, B1⟩
  have hB1 := below_next hB B1
  go_wp2
  go_ret2
  exact ⟨rfl, hB1⟩
theorem decidedY_c (f : Fl) (hf : FlOk f) (A O : Option Addr) (n c m d : Nat) (l off : List Sd) (w : World) (h : RSd w A n l) (hO : RSd w O m off) (h0 : seedErr l = 0) (hne : seedErr off ≠ 0) :
    Calls Tryz.prog 19 #[f.val, .slice A n c, .slice O m d] w fun e w' => e = .returned (.tuple #[.slice none 0 0, .int .i64 (seedErr off)]) ∧ Below w.heap.size w w' := by
  have hCF := Lib.hid (fun W h => checkFinals_c f A n c l W h)
  rw [show finErr f = 0 from if_pos hf, h0, if_neg (by simp)] at hCF
  have hCS := Lib.hid (fun W h => checkSeeds_c O m d off W h)
  have z0 : FinB w.heap.size f (w.alloc (.cells f.cells 27)) := heap_alloc_new w _
  have hB := below_new w (.cells f.cells 27)
  obtain ⟨y0, y1, y2⟩ := z0.at_
  have hr := h.below hB
  have hRO := Lib.hid (fun W B => hO.below (w' := W) B)
  clear h z0 h0 hO
  generalize seedErr off = E at *
  have hb : (E != 0) = true := by simpa using hne
  clear hne
  obtain ⟨sz, mn, rs⟩ := f
  dsimp only [Fl.val, Fl.cells] at *
  go_enter Tryz.func19, Tryz.ntmps19
  go_wp2_with fail
  refine (hCF.out _ hr).mono ?_; rintro e w1 ⟨rfl, B1⟩
  have hB1 := below_next hB B1
  go_wp2_with fail
  refine (hCS.out _ (hRO.out _ hB1)).mono ?_; rintro e w2 ⟨rfl, B2⟩
  have hB2 := below_next hB1 B2
  go_wp2
  go_ret2
  exact ⟨rfl, hB2⟩
set_option maxRecDepth 100000 in
theorem equalPc_c (A1 A2 : Option Addr) (n c m d : Nat) (l : List Pc) (w : World) (h1 : RPc w A1 n l) (h2 : RPc w A2 m l) :
    Calls Tryz.prog 21 #[.slice A1 n c, .slice A2 m d] w fun e w' => e = .returned (.bool true) ∧ Below w.heap.size w w' := by
  obtain rfl : n = m := h1.len.symm.trans h2.len
  have b1 := h1.bd
  have hR1 := Lib.hid (fun W B => h1.below (w' := W) B)
  have hR2 := Lib.hid (fun W B => h2.below (w' := W) B)
  clear h1 h2
  go_enter Tryz.func21, Tryz.ntmps21
  go_wp2_with fail
  go_loopw [5, 13] (fun _ i wr => ∃ k : Nat, k ≤ n ∧ i = .int .i64 k ∧ Below w.heap.size w wr) (fun _ i _ => n - (intOf i).toNat)
  case atStart => exact ⟨0, Nat.zero_le _, rfl, Below.refl _ _⟩
  case round =>
    rename World => wr
    obtain ⟨k, hk, rfl, hB⟩ := hrel
    by_cases hlt : k < n
    · have hlti : (k : Int) < n := by omega
      obtain ⟨b, off, x, rfl, hbl, hx, c0, c1, c2⟩ := RPc_at3 (hR1.out _ hB) hlt
      obtain ⟨b', off', y, rfl, hbl', hy, d0, d1, d2⟩ := RPc_at3 (hR2.out _ hB) hlt
      obtain rfl : x = y := by rw [hx] at hy; exact Option.some.inj hy
      obtain ⟨who, fin, rk⟩ := x
      dsimp only at *
      clear hx hy
      go_wp2
      go_quiet (fail)
      go_wp2
      go_roundw
      case rel => exact ⟨k + 1, by omega, by go_num, below_drewN hB _⟩
      case measure => simp [intOf]; omega
    · obtain rfl : k = n := by omega
      go_wp2
      go_ret
      exact ⟨rfl, hB⟩
set_option maxHeartbeats 6400000 in
set_option maxRecDepth 100000 in
theorem decidedG_c (f : Fl) (hf : FlOk f) (A O : Option Addr) (n c m d : Nat) (l off : List Sd) (w : World) (h : RSd w A n l) (hO : RSd w O m off) (hn : n ≤ 19) (h0 : seedErr l = 0) (hs0 : seedErr off = 0) :
    Calls Tryz.prog 19 #[f.val, .slice A n c, .slice O m d] w (RetDc w (if inAll (offV f (finL l)).flatten off = true then 0 else 8) (if inAll (offV f (finL l)).flatten off = true then plc f (decV f (timeAt off) (finL l)) 0 (decV f (timeAt off) (finL l)) else [])) := by
  have hInT := Lib.hid (fun (h9 : ∀ y ∈ off, Lib.containsS (offV f (finL l)).flatten y.who = true) => show (if inAll (offV f (finL l)).flatten off = true then (0 : Int) else 8) = 0 ∧ (if inAll (offV f (finL l)).flatten off = true then plc f (decV f (timeAt off) (finL l)) 0 (decV f (timeAt off) (finL l)) else []) = plc f (decV f (timeAt off) (finL l)) 0 (decV f (timeAt off) (finL l)) by
    have h1 : inAll (offV f (finL l)).flatten off = true := List.all_eq_true.2 h9
    rw [if_pos h1, if_pos h1]; exact ⟨rfl, rfl⟩)
  have hInF := Lib.hid (fun (k : Nat) (x : Sd) (hx : off[k]? = some x) (h9 : Lib.containsS (offV f (finL l)).flatten x.who = false) => show (if inAll (offV f (finL l)).flatten off = true then (0 : Int) else 8) = 8 ∧ (if inAll (offV f (finL l)).flatten off = true then plc f (decV f (timeAt off) (finL l)) 0 (decV f (timeAt off) (finL l)) else []) = [] by
    have h1 : ¬ inAll (offV f (finL l)).flatten off = true := fun h => by
      have h8 := List.all_eq_true.1 h x (List.mem_of_getElem? hx)
      rw [h9] at h8
      cases h8
    rw [if_neg h1, if_neg h1]; exact ⟨rfl, rfl⟩)
  generalize (if inAll (offV f (finL l)).flatten off = true then (0 : Int) else 8) = EV at *
  generalize (if inAll (offV f (finL l)).flatten off = true then plc f (decV f (timeAt off) (finL l)) 0 (decV f (timeAt off) (finL l)) else []) = PQ at *
  have hCF := Lib.hid (fun W h => checkFinals_c f A n c l W h)
  rw [show finErr f = 0 from if_pos hf, h0, if_neg (by simp)] at hCF
  have hCS := Lib.hid (fun W h => checkSeeds_c O m d off W h)
  rw [hs0] at hCS
  obtain ⟨_, hso⟩ := seedErr_ok h0
  obtain ⟨hm300, hoo⟩ := seedErr_ok hs0
  have hFi := Lib.hid (fun W h => finished_c A n c l W h hn (fun x hx => (hso x hx).2))
  have hGr := Lib.hid (fun A2 n2 c2 W h h2 => groups_c f hf A2 n2 c2 (finL l) W h h2)
  have hGb := Lib.hid (fun g (h : g ∈ grpV f (finL l)) => show g.1 < g.2 ∧ g.2 ≤ (finL l).length from (grpL_bd f (finL l) 0 g h).2)
  have hGn := Lib.hid (grpV_len f (finL l))
  have hGp := Lib.hid (show (grpV f (finL l)).Pairwise fun a b => a.2 ≤ b.1 from grpL_pair f (finL l) 0)
  have hPl := Lib.hid (fun A2 n2 c2 L W h h2 => places_c f hf A2 n2 c2 L W h h2)
  have hDV := Lib.hid (show decV f (timeAt off) (finL l) = (grpV f (finL l)).foldl (sortG (timeAt off)) (finL l) from rfl)
  have hoff := Lib.hid (show (offV f (finL l)).flatten = (grpV f (finL l)).flatMap (nmsOf (finL l)) by unfold offV; rw [List.flatMap_def])
  have hFn := Lib.hid (finL_len l)
  have hln := Lib.hid h.len
  have hlo := Lib.hid hO.len
  have hkb := Lib.hid (fun x (hx : x ∈ finL l) => show x.who.size ≤ 40 from (key_small (hso x (finL_mem.1 hx).1).1).2)
  have hko := Lib.hid (fun (k : Nat) (x : Sd) (hx : off[k]? = some x) => show x.who.size ≤ 40 ∧ (0 ≤ x.time ∧ x.time ≤ 360000) from ⟨(key_small (hoo x (List.mem_of_getElem? hx)).1).2, (hoo x (List.mem_of_getElem? hx)).2⟩)
  have hF0 : FinB w.heap.size f (w.alloc (.cells f.cells 27)) := heap_alloc_new w _
  have hB0 := below_new w (.cells f.cells 27)
  have hR := Lib.hid (fun W B => h.below (w' := W) B)
  have hRO := Lib.hid (fun W B => hO.below (w' := W) B)
  have hWs := Lib.hid (fun (k : Nat) (x : Sd) (D : DataW Unit) (hx : off[k]? = some x) (h : WasT D (off.take k)) => show WasT (D.put (.string x.who.data.toList) (.lit (.int .i64 x.time))) (off.take (k + 1)) by rw [List.take_add_one, hx]; exact h.snoc x)
  have hoT := Lib.hid (show off.take m = off from List.take_of_length_le (by rw [hO.len]; exact Nat.le_refl _))
  have hWf := Lib.hid (show off.take m = off from List.take_of_length_le (by rw [hO.len]; exact Nat.le_refl _))
  have hmm := @run_makeMap Tryz.prog
  clear h hO h0 hs0 hso hoo
  generalize (offV f (finL l)).flatten = NM at *
  generalize decV f (timeAt off) (finL l) = DV at *
  generalize grpV f (finL l) = GV at *
  generalize finL l = F at *
  generalize hTm : timeAt off = T at *
  obtain ⟨sz, mn, rs⟩ := f
  have hFa := Lib.hid (fun v (h : FinB w.heap.size ⟨sz, mn, rs⟩ v) => h.at_)
  have hFk := Lib.hid (fun a v (h : FinB w.heap.size ⟨sz, mn, rs⟩ a) B => FinB.keep a v h B)
  dsimp only [Fl.val, Fl.cells] at *
  obtain ⟨y0, y1, y2⟩ := hFa.out _ hF0
  go_enter Tryz.func19, Tryz.ntmps19
  go_wp2_with fail
  refine (hCF.out _ (hR.out _ hB0)).mono ?_; rintro e w1 ⟨rfl, B1⟩
  have hB1 := below_next hB0 B1
  have hF1 := hFk.out _ _ hF0 B1
  clear hF0 hB0 B1 y0 y1 y2 hCF
  go_wp2_with fail
  refine (hCS.out _ (hRO.out _ hB1)).mono ?_; rintro e w2 ⟨rfl, B2⟩
  have hB2 := below_next hB1 B2
  have hF2 := hFk.out _ _ hF1 B2
  clear hF1 hB1 B2 hCS
  go_wp2_with fail
  have K0 : TkK w ⟨sz, mn, rs⟩ (w2.heap.size + 1) w2.heap.size 0 (.map []) ((w2.alloc (.map #[] 0)).alloc (.cells #[.map (some w2.heap.size)] 127)) := by
    have hl := lt_of_heap hF2
    have hBa := below_next (below_new w2 (.map #[] 0)) (below_new (w2.alloc (.map #[] 0)) (.cells #[.map (some w2.heap.size)] 127))
    have hh := heap_alloc_new (w2.alloc (.map #[] 0)) (.cells #[.map (some w2.heap.size)] 127)
    rw [alloc_size] at hh
    exact ⟨(mi_new w2).alloc _, hh, hFk.out _ _ hF2 hBa, below_next hB2 hBa, hl, by omega⟩
  have hb2 : w.heap.size < w2.heap.size := lt_of_heap hF2
  clear hF2 hB2
  generalize (w2.alloc (.map #[] 0)).alloc (.cells #[.map (some w2.heap.size)] 127) = w3 at *
  generalize hb10 : w2.heap.size + 1 = b10 at *
  generalize w2.heap.size = bm at *
  go_loopw [36] (fun iv wr => ∃ (k q : Nat) (D : DataW Unit), k ≤ m ∧ iv = .int .i64 k ∧ q ≤ k ∧ TkK w ⟨sz, mn, rs⟩ b10 bm q D wr ∧ Hid (WasT D (off.take k))) (fun iv _ => m - (intOf iv).toNat)
  case atStart => exact ⟨0, 0, .map [], Nat.zero_le _, rfl, Nat.le_refl _, K0, Lib.hid WasT.nil⟩
  case round =>
    clear K0
    rename World => wr
    obtain ⟨k, q, D, hk, rfl, hq, K, hW⟩ := hrel
    by_cases hlt : k < m
    · obtain ⟨b, of, x, rfl, hbl, hx, c0, c1⟩ := RSd_at2 (hRO.out _ K.bel) hlt
      obtain ⟨hsz, hb1, hb2'⟩ := hko.out k x hx
      have hW2 := Lib.hid (hWs.out k x D hx hW.out)
      obtain ⟨who, time⟩ := x
      dsimp only at *
      have hbd := below_new wr (.cells #[.string who, .int .i64 time] 86)
      have K5 := K.below hbd
      have z0 := (blk_facts (heap_alloc_new wr (.cells #[.string who, .int .i64 time] 86))).1 0
      have z1 := (blk_facts (heap_alloc_new wr (.cells #[.string who, .int .i64 time] 86))).1 1
      have z2 := (blk_facts K5.h10).1 0
      have hm1 := K5.mt
      have hm9 : m ≤ 300 := by have := hlo.out; omega
      clear hx hW K hbd
      go_wp2_with (at_mapUpdate; refine wpList_mapUpdate_own _ rfl _ _ _ 127 rfl 9 3 (string_keyed Tryz.underlying9) Tryz.underlying127 _ _ q _ rfl hm1 (by unfold maxLen; omega) _ _ _ rfl rfl (keyOf_string_mk Tryz.underlying9 (by unfold maxLen; omega)) _ [] (plainElem_int Tryz.underlying3 (by simp [Lit.wf, IntKind.min, IntKind.max, IntKind.signed, IntKind.bits]; omega)) ?_; intro w5 hown5 hg5)
      have K6 := K5.put hown5 hg5
      clear hm1 hown5 hg5 K5 c0 c1 z0 z1 z2
      go_roundw
      case rel => exact ⟨k + 1, q + 1, _, by omega, by go_num, by omega, K6, hW2⟩
      case measure => simp [intOf]; omega
    · obtain rfl : k = m := by omega
      have hMT : MapT D T := by have h9 := hW.out; rw [hWf.out] at h9; rw [← hTm]; exact h9.2
      have hMT' := Lib.hid hMT
      clear hW hMT
      go_wp2_with fail
      refine (hFi.out _ (hR.out _ K.bel)).mono ?_; rintro e w4 ⟨A2, n2, c2, rfl, ho2, hn2, B4⟩
      have K4 := K.below B4
      have hl2 := own_len sdE_len (by decide) ho2
      have hl2' := Lib.hid hl2
      have hcp := Lib.hid (capN_own ho2)
      have hbs1 : b10 < wr.heap.size := lt_of_heap K.h10
      have hz4 := B4.size
      obtain ⟨z0, z1, z2⟩ := hFa.out _ (K4.below (below_new w4 (.map #[] 0))).fb
      have hlA := K4.l1
      have hlB := K4.l2
      have hbx := lt_of_heap K4.h10
      have KD : DcK w ⟨sz, mn, rs⟩ b10 bm q D w4.heap.size 0 (.map []) wr.heap.size (.slice A2 n2 c2) n2 F (w4.alloc (.map #[] 0)) := by
        have K5 := K4.below (below_new w4 (.map #[] 0))
        exact ⟨K5.mt, K5.h10, mb_new w4, ho2.alloc _, K5.fb, K5.bel, by omega, hlA, hbs1, by omega, ⟨by omega, by omega, by omega⟩, fun i hi => by have := (ho2.lt i hi).2; omega⟩
      have hr4 : RSd (w4.alloc (.map #[] 0)) A2 n2 F := RN.of_own sdE_len KD.o hl2 (by omega)
      clear K B4 hFi K4 ho2
      go_wp2_with fail
      refine (hGr.out A2 n2 c2 _ hr4 (by omega)).mono ?_; rintro e w5 ⟨A5, c5, rfl, rG, B5⟩
      have K5 := KD.below B5
      have hGl : GV.length ≤ 19 := by have := hGn.out; have := hFn.out; have := hln.out; omega
      clear KD B5 hGr hr4 z0 z1 z2
      go_wp2_with fail
      have hbase : b10 < wr.heap.size := hbs1
      generalize w4.heap.size = bs at *
      generalize wr.heap.size = base at *
      go_loopw [17, 53] (fun _ iv wx => ∃ (j q2 : Nat) (D2 : DataW Unit) (seen : List ByteArray) (acc : List Sd), j ≤ GV.length ∧ iv = .int .i64 j ∧ q2 ≤ 20 * j ∧ DcK w ⟨sz, mn, rs⟩ b10 bm q D bs q2 D2 base (.slice A2 n2 c2) n2 acc wx ∧ RGr wx A5 GV.length GV ∧ Hid (SeenM D2 seen) ∧ Hid (SeenIs seen ((GV.take j).flatMap (nmsOf F))) ∧ Hid (acc = (GV.take j).foldl (sortG T) F) ∧ Hid (∀ g ∈ GV.drop j, acc.drop g.1 = F.drop g.1) ∧ Hid (acc.length = n2 ∧ ∀ x ∈ acc, x ∈ F)) (fun _ iv _ => GV.length - (intOf iv).toNat)
      case atStart => exact ⟨0, 0, .map [], [], F, Nat.zero_le _, rfl, by omega, K5, rG, Lib.hid SeenM.nil, Lib.hid SeenIs.nil, Lib.hid rfl, Lib.hid (fun g _ => rfl), Lib.hid ⟨hl2'.out, fun x hx => hx⟩⟩
      case round =>
        clear K5 rG
        rename World => wx
        obtain ⟨j, q2, D2, seen, acc, hj, rfl, hq2, K, rG, hSM, hSI, hA, hDr, hAm⟩ := hrel
        by_cases hlg : j < GV.length
        · obtain ⟨bG, oG, g, rfl, hbl, hg, c0, c1⟩ := RGr_at2 rG hlg
          obtain ⟨g0, g1⟩ := hGb.out g (List.mem_of_getElem? hg)
          rw [hl2'.out] at g1
          obtain ⟨hAl, hAx⟩ := hAm.out
          have hnm := Lib.hid (show nmsOf acc g = nmsOf F g from nmsOf_drop (hDr.out g (by rw [drop_at hg]; exact List.mem_cons_self ..)))
          have hDr2 := Lib.hid (sort_later (T := T) hGp.out hg (by omega) (by omega) hDr.out)
          have hA2 := Lib.hid (show sortG T acc g = (GV.take (j + 1)).foldl (sortG T) F by rw [List.take_add_one, hg, List.foldl_append, hA.out]; rfl)
          have hAm2 := Lib.hid (show (sortG T acc g).length = n2 ∧ ∀ x ∈ sortG T acc g, x ∈ F from ⟨by rw [sortG_len (by omega), hAl], fun x hx => hAx x (sortG_mem (by omega) hx)⟩)
          have hN2 := Lib.hid (show (GV.take (j + 1)).flatMap (nmsOf F) = (GV.take j).flatMap (nmsOf F) ++ nmsOf F g by rw [List.take_add_one, hg, List.flatMap_append]; simp)
          have hcut := Lib.hid (sortG_cut (L := acc) (lo := g.1) (hi := g.2) (by omega))
          have hsd := Lib.hid (show sortG T acc g = acc.take g.1 ++ (insL (ltOf fun x y => tmCf (T x.who) (T y.who)) ((acc.drop g.1).take (g.2 - g.1)) ++ acc.drop g.2) from rfl)
          obtain ⟨lo, hi⟩ := g
          dsimp only at *
          rcases hcp.out with ⟨_, h9, _⟩ | ⟨gb, hAF, hcF⟩
          · omega
          subst hAF
          have j0 : (0 : Int) ≤ (lo : Int) := by omega
          have j1 : (lo : Int) ≤ (hi : Int) := by omega
          have j2 : (hi : Int) ≤ (c2 : Int) := by omega
          have hb5 := heap_alloc_new wx (.cells #[.int .i64 lo, .int .i64 hi] 126)
          have x0 := (blk_facts hb5).1 0
          have x1 := (blk_facts hb5).1 1
          have hbd := below_new wx (.cells #[.int .i64 lo, .int .i64 hi] 126)
          have K6 := K.below hbd
          have rG6 := rG.below hbd
          clear hg hb5 K rG hA hDr hAm hbd
          go_wp2_with fail
          generalize wx.alloc (.cells #[.int .i64 lo, .int .i64 hi] 126) = w6 at *
          clear x0 x1 c0 c1
          go_loopw [65] (fun iv wy => ∃ (i q3 : Nat) (D3' : DataW Unit) (seen3 : List ByteArray), i ≤ hi - lo ∧ iv = .int .i64 i ∧ q3 ≤ q2 + i ∧ DcK w ⟨sz, mn, rs⟩ b10 bm q D bs q3 D3' base (.slice (some ⟨gb, 0, none⟩) n2 c2) n2 acc wy ∧ RGr wy (some ⟨bG, oG, none⟩) GV.length GV ∧ Hid (SeenM D3' seen3) ∧ Hid (SeenIs seen3 ((GV.take j).flatMap (nmsOf F) ++ (nmsOf acc (lo, hi)).take i))) (fun iv _ => (hi - lo) - (intOf iv).toNat)
          case atStart => exact ⟨0, q2, D2, seen, Nat.zero_le _, rfl, Nat.le_refl _, K6, rG6, hSM, by rw [List.take_zero, List.append_nil]; exact hSI⟩
          case round =>
            clear K6 rG6 hSM hSI
            rename World => wy
            obtain ⟨i, q3, D3', seen3, hi3, rfl, hq3, K, rG, hSM, hSI⟩ := hrel
            by_cases hli : i < hi - lo
            · have hRm : RSd wy (some ⟨gb, lo * 2, none⟩) (hi - lo) ((acc.drop lo).take (hi - lo)) := (RN.of_own sdE_len K.o hAl (by omega)).mid (by omega) (by omega)
              obtain ⟨b, off', x, hA9, hbl, hx, c0, c1⟩ := RSd_at2 hRm hli
              injection hA9 with hA9
              injection hA9 with e1 e2
              subst e1 e2
              have hxm : x ∈ acc := List.mem_of_mem_drop (List.mem_of_mem_take (List.mem_of_getElem? hx))
              have hsz := hkb.out x (hAx x hxm)
              have hSI2 := Lib.hid (show SeenIs (x.who :: seen3) ((GV.take j).flatMap (nmsOf F) ++ (nmsOf acc (lo, hi)).take (i + 1)) by
                have h9 := hSI.out.snoc x.who
                rw [List.append_assoc] at h9
                have e9 : (nmsOf acc (lo, hi)).take (i + 1) = (nmsOf acc (lo, hi)).take i ++ [x.who] := by
                  unfold nmsOf; dsimp only; rw [List.take_add_one, List.getElem?_map, hx]; rfl
                rw [e9]; exact h9)
              have hSM2 := Lib.hid (hSM.out.put x.who)
              obtain ⟨who, time⟩ := x
              dsimp only at *
              have hbd := below_new wy (.cells #[.string who, .int .i64 time] 86)
              have K7 := K.below hbd
              have rG7 := rG.below hbd
              have z0 := (blk_facts (heap_alloc_new wy (.cells #[.string who, .int .i64 time] 86))).1 0
              have hm3 := K7.ms
              clear hx hxm hSI hSM K rG hbd hRm
              go_wp2_with (at_mapUpdate; refine wpList_mapUpdate_own _ rfl _ _ _ 128 rfl 9 4 (string_keyed Tryz.underlying9) Tryz.underlying128 _ _ q3 _ rfl hm3 (by unfold maxLen; omega) _ _ _ rfl rfl (keyOf_string_mk Tryz.underlying9 (by unfold maxLen; omega)) _ [] (plainElem_bool Tryz.underlying4 true) ?_; intro w9 hown9 hg9)
              have K9 := K7.put hown9 hg9
              have rG9 : RGr w9 (some ⟨bG, oG, none⟩) GV.length GV := rG7.kept_map hm3 hg9
              clear hm3 hown9 hg9 K7 rG7 c0 c1 z0
              go_roundw
              case rel => exact ⟨i + 1, q3 + 1, _, _, by omega, by go_num, by omega, K9, rG9, hSM2, hSI2⟩
              case measure => simp [intOf]; omega
            · obtain rfl : i = hi - lo := by omega
              have hfull := Lib.hid (show SeenIs seen3 ((GV.take (j + 1)).flatMap (nmsOf F)) by
                have h9 := hSI.out
                rw [hN2.out, ← hnm.out]
                rwa [List.take_of_length_le (show (nmsOf acc (lo, hi)).length ≤ hi - lo by unfold nmsOf; rw [List.length_map, List.length_take]; exact Nat.min_le_left _ _)] at h9)
              have hPl' : (acc.take lo).length = lo := by rw [List.length_take]; omega
              have hSl : ((acc.drop lo).take (hi - lo)).length = hi - lo := by rw [List.length_take, List.length_drop]; omega
              have hown : wy.ownsRow base 86 2 (.slice (some ⟨gb, 0, none⟩) n2 c2) n2 ((acc.take lo ++ ((acc.drop lo).take (hi - lo) ++ acc.drop hi)).flatMap sdE) := by rw [← hcut.out]; exact K.o
              have hgbb := own_row_lt K.o gb rfl
              have hSo := dcSort_c b10 bm q D T base gb n2 c2 (c2 - lo) (acc.take lo) ((acc.drop lo).take (hi - lo)) (acc.drop hi) wy hown (by omega) (by omega) (fun x hx => hkb.out x (hAx x (by rw [hcut.out]; exact hx))) K.h10 K.mt hMT'.out (by omega) (by omega)
              rw [hPl', hSl, ← hsd.out] at hSo
              have hSo' := Lib.hid hSo
              clear hSo hown hPl' hSl hSI
              go_wp2_with fail
              refine hSo'.out.mono ?_; rintro e w9 ⟨rfl, ho9, hg9⟩
              have K9 := K.sort ho9 (gb := gb) rfl hg9
              have rG9 : RGr w9 (some ⟨bG, oG, none⟩) GV.length GV := rG.keep (T := 86) (by decide) (keep_ownN K.o hg9)
              clear hSo' ho9 hg9 K rG
              go_wp2
              go_roundw
              case rel => exact ⟨j + 1, q3, D3', seen3, _, by omega, by go_num, by omega, K9, rG9, hSM, hfull, hA2, hDr2, hAm2⟩
              case measure => simp [intOf]; omega
        · obtain rfl : j = GV.length := by omega
          have hfin : acc = DV := by rw [hDV.out, hA.out, List.take_of_length_le (Nat.le_refl _)]
          have hSI' := Lib.hid (show SeenIs seen NM by have h9 := hSI.out; rw [List.take_of_length_le (Nat.le_refl _), ← hoff.out] at h9; exact h9)
          subst hfin
          obtain ⟨hAl, _⟩ := hAm.out
          clear hA hDr hSI rG hAm
          go_wp2_with fail
          have hk300 : k ≤ 300 := by have := hlo.out; omega
          go_loopw [79] (fun iv wy => ∃ (i : Nat), i ≤ k ∧ iv = .int .i64 i ∧ DcK w ⟨sz, mn, rs⟩ b10 bm q D bs q2 D2 base (.slice A2 n2 c2) n2 acc wy ∧ Hid (∀ y ∈ off.take i, Lib.containsS NM y.who = true)) (fun iv _ => k - (intOf iv).toNat)
          case atStart => exact ⟨0, Nat.zero_le _, rfl, K, Lib.hid (fun y hy => by simp at hy)⟩
          case round =>
            clear K
            rename World => wy
            obtain ⟨i, hi3, rfl, K, hIn⟩ := hrel
            by_cases hli : i < k
            · obtain ⟨b, off', x, rfl, hbl, hx, c0, c1⟩ := RSd_at2 (hRO.out _ K.bel) hli
              have hsz := (hko.out i x hx).1
              have hx' := Lib.hid hx
              obtain ⟨cb, hcb⟩ : ∃ cb, Lib.containsS NM x.who = cb := ⟨_, rfl⟩
              have hcb' := Lib.hid hcb
              obtain ⟨who, time⟩ := x
              dsimp only at *
              have hbd := below_new wy (.cells #[.string who, .int .i64 time] 86)
              have K7 := K.below hbd
              have z0 := (blk_facts (heap_alloc_new wy (.cells #[.string who, .int .i64 time] 86))).1 0
              obtain ⟨v7, hrun8, hat8⟩ := mb_lookup K7.ms who (by unfold maxLen; omega)
              rw [hSM.out.2 who, hSI'.out who, hcb] at hat8
              have hv7 : cb = v7 := (by injection hat8 with e; injection e)
              subst hv7
              clear hx hbd K hat8 hcb
              cases cb
              · obtain ⟨e1, e2⟩ := hInF.out i _ hx'.out hcb'.out
                subst e1 e2
                have hBw := K7.bel
                clear hcb' hIn hx' K7 hInT hInF
                go_wp2
                go_ret2
                exact ⟨none, 0, 0, rfl, RN.nil_ _ _ _ _ _, hBw⟩
              · have hIn2 := Lib.hid (show ∀ y ∈ off.take (i + 1), Lib.containsS NM y.who = true from fun y hy => by
                  rw [List.take_add_one, hx'.out] at hy
                  rcases List.mem_append.1 hy with hy | hy
                  · exact hIn.out y hy
                  · simp at hy; subst hy; exact hcb'.out)
                clear hcb' hIn hx'
                go_wp2
                go_roundw
                case rel => exact ⟨i + 1, by omega, by go_num, K7, hIn2⟩
                case measure => simp [intOf]; omega
            · obtain rfl : i = k := by omega
              obtain ⟨e1, e2⟩ := hInT.out (fun y hy => hIn.out y (by rw [hoT.out]; exact hy))
              subst e1
              rw [e2] at *
              have hr9 : RSd wy A2 n2 acc := RN.of_own sdE_len K.o hAl (by omega)
              have hPl2 := Lib.hid (hPl.out A2 n2 c2 acc wy hr9 (by omega))
              obtain ⟨z0, z1, z2⟩ := hFa.out _ K.fb
              have hBw := K.bel
              clear K hr9 hPl
              go_wp2_with fail
              refine hPl2.out.mono ?_; rintro e w9 ⟨A9, n9, c9, rfl, ho9, hn9, B9⟩
              have hB9 := below_next hBw B9
              have hr9 : RPc w9 A9 n9 (plc ⟨sz, mn, rs⟩ acc 0 acc) := RN.of_own pcE_len ho9 (own_len pcE_len (by decide) ho9) (by omega)
              clear hPl2 ho9 B9 hBw z0 z1 z2
              go_wp2
              go_ret2
              exact ⟨A9, n9, c9, rfl, hr9, hB9⟩
end Go.Proofs.YtjafcnblgeibpaaGreatDoor
