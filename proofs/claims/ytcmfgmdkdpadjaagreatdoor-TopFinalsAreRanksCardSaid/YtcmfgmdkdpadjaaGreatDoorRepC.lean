/- heat.Replace of places that are right: heat.checkPlaces, heat.checkWho. -/
import Derived.Test.YtcmfgmdkdpadjaaGreatDoorGoneC
import Derived.Test.YtcmfgmdkdpadjaaGreatDoorMovedM
namespace Go.Proofs.YtcmfgmdkdpadjaaGreatDoor
open Go.RowKit
open Go.Maps (Keyed string_keyed int_keyed keyOf_int_mk)
open Go.MapKept Go.ChangeMaps
open Go.WideMaps (keyOf_string_mk)
set_option linter.unusedVariables false

/-- is a place of that swimmer -/
theorem sameP_c (x : Pc) (s : ByteArray) (b2 : Nat) (W : World) (hb : W.heap[b2]? = some (.cells #[.string s] 9 (0, 0))) :
    Calls Tryz.prog 158 (#[.agg (pcE x).toArray] ++ #[.pointer (some ⟨b2, 0, none⟩)]) W fun e w' => (∃ t : Bool, e = .returned (.bool t) ∧ (t = true ↔ x.who = s)) ∧ Below W.heap.size W w' := by
  obtain ⟨who, fin, rk⟩ := x
  dsimp only [pcE] at *
  have z0 := (blk_facts (heap_alloc_new W (.cells #[.string who, .int .i64 fin, .int .i64 rk] 79))).1 0
  have zs := (blk_facts (blk_alloc hb (.cells #[.string who, .int .i64 fin, .int .i64 rk] 79))).1 0
  have hB := below_new W (.cells #[.string who, .int .i64 fin, .int .i64 rk] 79)
  have lb := lt_of_heap hb
  clear hb
  by_cases h : who = s
  · subst h
    go_enter Tryz.func158, Tryz.ntmps158
    go_wp2
    go_ret
    exact ⟨⟨true, by simp, by simp⟩, hB⟩
  · have hn := str_ne h
    have h' := Lib.hid h
    clear h
    go_enter Tryz.func158, Tryz.ntmps158
    go_wp2
    go_ret
    exact ⟨⟨false, by simp [hn], by simp [h'.out]⟩, hB⟩
set_option maxRecDepth 100000 in
theorem indexP_c (A : Option Addr) (n c : Nat) (p : List Pc) (s : ByteArray) (b2 : Nat) (w : World) (h : RPc w A n p) (hb : w.heap[b2]? = some (.cells #[.string s] 9 (0, 0))) (hs : s ∈ p.map Pc.who) :
    Calls Tryz.prog 224 #[.slice A n c, .func (.func 158) #[] #[.pointer (some ⟨b2, 0, none⟩)]] w fun e w' => (∃ k : Nat, e = .returned (.int .i64 k)) ∧ Below w.heap.size w w' := by
  have hz := Lib.hid (fun x W hb => sameP_c x s b2 W hb)
  have hl := Lib.hid h.len
  have hbd := h.bd
  have hs' := Lib.hid hs
  have hR := Lib.hid (fun W B => h.below (w' := W) B)
  have hbk := Lib.hid (fun W B => blk_below (w' := W) hb B)
  clear hs h hb
  go_enter Tryz.func224, Tryz.ntmps224
  go_wp2
  go_loopw [8] (fun i wr => ∃ k : Nat, k ≤ n ∧ i = .int .i64 k ∧ Below w.heap.size w wr ∧ Hid (s ∉ (p.take k).map Pc.who)) (fun i _ => n - (intOf i).toNat)
  case atStart => exact ⟨0, Nat.zero_le _, rfl, Below.refl _ _, Lib.hid (by simp)⟩
  case round =>
    obtain ⟨k, hk, rfl, hB, hF⟩ := hrel
    by_cases hlt : k < n
    · obtain ⟨b, off, x, rfl, hbl, hx, c0, c1, c2⟩ := RPc_at3 (hR.out _ hB) hlt
      have hx' := Lib.hid hx
      have hzx := Lib.hid (fun W hb => hz.out x W hb)
      have hb2 := hbk.out _ hB
      obtain ⟨who, fin, rk⟩ := x
      dsimp only [pcE] at *
      clear hx
      go_wp2_with fail
      refine (hzx.out _ hb2).mono ?_; rintro e w1 ⟨⟨t, rfl, ht⟩, B1⟩
      have hB1 := below_next hB B1
      have ht' := Lib.hid ht
      clear ht hb2
      cases t
      · have hF2 := Lib.hid (show s ∉ (p.take (k + 1)).map Pc.who from fun hc => by
          rw [List.take_add_one, hx'.out, List.map_append] at hc
          rcases List.mem_append.1 hc with hc | hc
          · exact hF.out hc
          · simp at hc
            have := ht'.out.2 hc.symm
            cases this)
        clear hF hx' ht'
        go_wp2
        go_roundw
        case rel => exact ⟨k + 1, by omega, by go_num, hB1, hF2⟩
        case measure => simp [intOf]; omega
      · go_wp2
        go_ret
        exact ⟨⟨k, rfl⟩, hB1⟩
    · obtain rfl : k = n := by omega
      exact absurd hs'.out (by have h9 := hF.out; rw [List.take_of_length_le (by rw [hl.out]; exact Nat.le_refl _)] at h9; exact h9)
/-- the function that Replace hands on: who has a place -/
theorem memberP_c (A : Option Addr) (n c : Nat) (p : List Pc) (s : ByteArray) (b4 : Nat) (w : World) (h : RPc w A n p) (hb : w.heap[b4]? = some (.cells #[.slice A n c] 70 (0, 0))) (hs : s ∈ p.map Pc.who) :
    Calls Tryz.prog 156 (#[.string s] ++ #[.pointer (some ⟨b4, 0, none⟩)]) w fun e w' => e = .returned (.bool true) ∧ Below w.heap.size w w' := by
  have z4 := (blk_facts (blk_alloc hb (.cells #[.string s] 9))).1 0
  have lb := lt_of_heap hb
  have hbs := heap_alloc_new w (.cells #[.string s] 9)
  have hR := h.below (below_new w (.cells #[.string s] 9))
  have hB := below_new w (.cells #[.string s] 9)
  have hI := Lib.hid (fun W h hb => indexP_c A n c p s w.heap.size W h hb hs)
  have hCF := Lib.hid (fun W (h : RPc W A n p) (hb : W.heap[w.heap.size]? = some (.cells #[.string s] 9 (0, 0))) => show Calls Tryz.prog 157 #[.slice A n c, .func (.func 158) #[] #[.pointer (some ⟨w.heap.size, 0, none⟩)]] W fun e w' => e = .returned (.bool true) ∧ Below W.heap.size W w' by
    have hI2 := Lib.hid (hI.out W h hb)
    clear h hb
    go_enter Tryz.func157, Tryz.ntmps157
    go_wp2_with fail
    refine hI2.out.mono ?_; rintro e w1 ⟨⟨k, rfl⟩, B1⟩
    have k0 : (0 : Int) ≤ (k : Int) := by omega
    go_wp2
    go_ret
    exact ⟨rfl, B1⟩)
  clear hI h hb hs
  go_enter Tryz.func156, Tryz.ntmps156
  go_wp2_with fail
  refine (hCF.out _ hR hbs).mono ?_; rintro e w1 ⟨rfl, B1⟩
  have hB1 := below_next hB B1
  go_wp2
  go_ret
  exact ⟨rfl, hB1⟩
set_option maxHeartbeats 1600000 in
set_option maxRecDepth 100000 in
theorem checkWhoOk_c (A B : Option Addr) (n c m d : Nat) (p : List Pc) (who : List ByteArray) (b4 : Nat) (w : World) (h : RPc w A n p) (hb : w.heap[b4]? = some (.cells #[.slice A n c] 70 (0, 0))) (hB : RS 9 w B m who) (hcap : (B = none ∧ m = 0 ∧ d = 0) ∨ ∃ b, B = some ⟨b, 0, none⟩ ∧ m ≤ d) (hm : m ≤ 300) (hmem : ∀ s ∈ who, s ∈ p.map Pc.who) (hnd : who.Nodup) :
    Calls Tryz.prog 155 #[.slice B m d, .func (.func 156) #[] #[.pointer (some ⟨b4, 0, none⟩)]] w fun e w' => e = .returned (.int .i64 0) ∧ Below w.heap.size w w' := by
  have hl := Lib.hid hB.len
  have hM := Lib.hid (fun s W (h : RPc W A n p) hb hs => memberP_c A n c p s b4 W h hb hs)
  have hcB := Lib.hid (fun b k (hk : k ≤ m) (e : B = some ⟨b, 0, none⟩) x W (hW : RS 9 W B m who) => show Calls Tryz.prog 68 #[.slice (some ⟨b, 0, none⟩) k d, .string x] W fun e w' => e = .returned (.bool (Lib.containsS (who.take k) x)) ∧ W = w' from containsN_c _ k d _ x W (RS_takeN (by rw [← e]; exact hW) hk))
  have hR := Lib.hid (fun W B => h.below (w' := W) B)
  have hRS := Lib.hid (fun W b => hB.below (w' := W) b)
  have hbk := Lib.hid (fun W B => blk_below (w' := W) hb B)
  have hmem' := Lib.hid hmem
  have hnd' := Lib.hid (fun k s (hs : who[k]? = some s) => show Lib.containsS (who.take k) s = false by
    cases hc : Lib.containsS (who.take k) s with
    | false => rfl
    | true =>
      have hin := (Lib.containsS_iff _ _).1 hc
      obtain ⟨j, hj⟩ := List.getElem?_of_mem hin
      rw [List.getElem?_take] at hj
      split at hj
      · rename_i hjk
        have hp := List.pairwise_iff_getElem.1 hnd j k (List.getElem?_eq_some_iff.1 hj).1 (List.getElem?_eq_some_iff.1 hs).1 hjk
        rw [(List.getElem?_eq_some_iff.1 hj).2, (List.getElem?_eq_some_iff.1 hs).2] at hp
        exact absurd rfl hp
      · cases hj)
  have q0 : ¬ (300 : Int) < (m : Int) := by omega
  clear h hb hB hmem hnd
  go_enter Tryz.func155, Tryz.ntmps155
  go_wp2_with fail
  go_loopw [12] (fun i wr => ∃ k : Nat, k ≤ m ∧ i = .int .i64 k ∧ Below w.heap.size w wr) (fun i _ => m - (intOf i).toNat)
  case atStart => exact ⟨0, Nat.zero_le _, rfl, Below.refl _ _⟩
  case round =>
    obtain ⟨k, hk, rfl, hBe⟩ := hrel
    by_cases hlt : k < m
    · rcases hcap with ⟨rfl, h0, _⟩ | ⟨b, rfl, hmd⟩
      · omega
      obtain ⟨b', off, s, hA, hbl, hs, c0⟩ := (hRS.out _ hBe).at_ hlt
      injection hA with hA
      injection hA with e1 e2
      subst e1 e2
      rw [Nat.zero_add] at c0
      have hcB' := Lib.hid (fun W h => hcB.out b k (by omega) rfl s W h)
      rw [hnd'.out k s hs] at hcB'
      have hsm := Lib.hid (hmem'.out s (List.mem_of_getElem? hs))
      have hMs := Lib.hid (fun W h hb => hM.out s W h hb hsm.out)
      have j0 : (0 : Int) ≤ (k : Int) := by omega
      have j1 : (k : Int) ≤ (d : Int) := by omega
      clear hs
      go_wp2_with fail
      refine (hMs.out _ (hR.out _ hBe) (hbk.out _ hBe)).mono ?_; rintro e w1 ⟨rfl, B1⟩
      have hB1 := below_next hBe B1
      go_wp2_with fail
      refine (hcB'.out _ (hRS.out _ hB1)).mono ?_; rintro e w2 ⟨rfl, rfl⟩
      clear c0 B1
      go_wp2
      go_roundw
      case rel => exact ⟨k + 1, by omega, by go_num, hB1⟩
      case measure => simp [intOf]; omega
    · obtain rfl : k = m := by omega
      go_wp2
      go_ret
      exact ⟨rfl, hBe⟩
theorem RN_lt {w : World} {b o n : Nat} {l : List Pc} (h : RPc w (some ⟨b, o, none⟩) n l) (hn : 0 < n) : b < w.heap.size := by
  obtain ⟨b', o', cs, fz, hA, hb, _⟩ := h.2.2 hn
  injection hA with hA
  injection hA with e1 e2
  subst e1
  exact (Array.getElem?_eq_some_iff.1 hb).1
/-- how many of a list swim a final -/
def cntF (v : Int) (l : List Pc) : Nat := (l.filter fun y => decide (y.fin = v)).length
theorem cntF_snoc (v : Int) (l : List Pc) (y : Pc) : cntF v (l ++ [y]) = cntF v l + if y.fin = v then 1 else 0 := by
  unfold cntF
  rw [List.filter_append, List.length_append]
  congr 1
  by_cases h : y.fin = v
  · rw [if_pos h, List.filter_cons, if_pos (by simpa using h)]; rfl
  · rw [if_neg h, List.filter_cons, if_neg (by simpa using h)]; rfl
theorem cntF_le (v : Int) (l : List Pc) : cntF v l ≤ l.length := List.length_filter_le _ _
def CntM (D : DataW Unit) (l : List Pc) : Prop := Go.Maps.IsMap D ∧ ∀ v : Int, D.atKey (.int .i64 v) (.lit (.int .i64 0)) = .lit (.int .i64 (cntF v l))
theorem CntM.nil : CntM (.map []) [] := ⟨Go.Maps.isMap_empty, fun s => by rw [atKey_nil]; rfl⟩
theorem CntM.snoc {D : DataW Unit} {l : List Pc} (h : CntM D l) (x : Pc) : CntM (D.put (.int .i64 x.fin) (.lit (.int .i64 ((cntF x.fin l : Int) + 1)))) (l ++ [x]) := by
  refine ⟨h.1.put _ _, fun t => ?_⟩
  rw [cntF_snoc]
  by_cases e2 : x.fin = t
  · subst e2
    rw [Go.Maps.atKey_put_same h.1 (by trivial), if_pos rfl]
    push_cast
    rfl
  · rw [Go.Maps.atKey_put_other (by intro e3; injection e3 with e4 e3; exact e2 e3.symm), h.2 t, if_neg e2]
    rfl
structure PlsOk (f : Fl) (p : List Pc) : Prop where
  big : p.length ≤ 300
  key : ∀ x ∈ p, keyB x.who = true ∧ (0 ≤ x.fin ∧ x.fin ≤ f.mn) ∧ (1 ≤ x.rk ∧ x.rk ≤ 300)
  ord : ∀ k x y, p[k]? = some x → p[k + 1]? = some y → y.fin = 0 ∨ (x.fin ≠ 0 ∧ x.fin ≤ y.fin)
  cnt : ∀ k x, p[k]? = some x → 0 < x.fin → (cntF x.fin (p.take (k + 1)) : Int) ≤ f.sz
  nod : (p.map Pc.who).Nodup
abbrev MII (w : World) (b n : Nat) (D : DataW Unit) : Prop := w.ownsMap Tryz.prog 3 (plainElem Tryz.prog 3) b n D
theorem mii_lookup {w : World} {b n : Nat} {D : DataW Unit} (h : MII w b n D) (v : Int) (hv : -1000 ≤ v ∧ v ≤ 1000) : ∃ c : Int, (Instr.lookup 256 (.map (some b)) (.int .i64 v) false).run Tryz.prog w = .ok (.int .i64 c) w ∧ D.atKey (.int .i64 v) (.lit (.int .i64 0)) = .lit (.int .i64 c) := by
  obtain ⟨c, h1, h2, _⟩ := h.lookup_int (int_keyed Tryz.underlying3) Tryz.underlying256 Tryz.underlying3 (Tryz.zeroValue3 w) (keyOf_int_mk (a := v) Tryz.underlying3 (by simp [Lit.wf, IntKind.min, IntKind.max, IntKind.signed, IntKind.bits]; omega))
  exact ⟨c, h1, h2⟩
set_option maxHeartbeats 3200000 in
set_option maxRecDepth 100000 in
theorem checkPlaceOk_c (f : Fl) (hf : FlOk f) (A : Option Addr) (n c : Nat) (p : List Pc) (hok : PlsOk f p) (k : Nat) (hk : k < n) (w : World) (h : RPc w A n p) (hn : n ≤ 300) :
    Calls Tryz.prog 222 #[f.val, .slice A n c, .int .i64 k] w fun e w' => e = .returned (.int .i64 0) ∧ Below w.heap.size w w' := by
  have hF0 : FinB w.heap.size f (w.alloc (.cells f.cells 66)) := heap_alloc_new w _
  have hB0 := below_new w (.cells f.cells 66)
  obtain ⟨b, off, x, rfl, hbl, hx, c0, c1, c2⟩ := RPc_at3 (h.below hB0) hk
  obtain ⟨k1, k2, k3⟩ := hok.key x (List.mem_of_getElem? hx)
  obtain ⟨who, fin, rk⟩ := x
  dsimp only at *
  have hcase : k = 0 ∨ fin = 0 ∨ (1 ≤ k ∧ fin ≠ 0 ∧ ∃ pf : Int, w.cell? ⟨b, off + (k - 1) * 3 + 1, none⟩ = some (.int .i64 pf) ∧ pf ≠ 0 ∧ pf ≤ fin) := by
    by_cases h0 : k = 0
    · exact .inl h0
    · by_cases h1 : fin = 0
      · exact .inr (.inl h1)
      · obtain ⟨b', off', y, hA, _, hy, d0, d1, d2⟩ := RPc_at3 h (k := k - 1) (by omega)
        injection hA with hA
        injection hA with e1 e2
        subst e1 e2
        rcases hok.ord (k - 1) y ⟨who, fin, rk⟩ hy (by rw [show k - 1 + 1 = k by omega]; exact hx) with h9 | ⟨h9, h10⟩
        · exact absurd h9 h1
        · exact .inr (.inr ⟨by omega, h1, y.fin, d1, h9, h10⟩)
  obtain ⟨y0, y1, y2⟩ := (hF0.keep _ _ (below_new _ (.cells #[.string who, .int .i64 fin, .int .i64 rk] 79))).at_
  have hb5 := heap_alloc_new (w.alloc (.cells f.cells 66)) (.cells #[.string who, .int .i64 fin, .int .i64 rk] 79)
  have hB5 := hB0.alloc hB0.size (.cells #[.string who, .int .i64 fin, .int .i64 rk] 79)
  have hlt0 : b < w.heap.size := RN_lt h (by omega)
  have hFk := Lib.hid (fun v (B : Below ((w.alloc (.cells f.cells 66)).alloc (.cells #[.string who, .int .i64 fin, .int .i64 rk] 79)).heap.size ((w.alloc (.cells f.cells 66)).alloc (.cells #[.string who, .int .i64 fin, .int .i64 rk] 79)) v) => ((hF0.keep _ _ (below_new _ (.cells #[.string who, .int .i64 fin, .int .i64 rk] 79))).keep _ _ B).at_)
  have hPk := Lib.hid (fun v (B : Below w.heap.size w v) o u (hc : w.cell? ⟨b, o, none⟩ = some u) => show v.cell? ⟨b, o, none⟩ = some u from (B.cell (p := ⟨b, o, none⟩) hlt0).trans hc)
  clear hx h hF0 hok
  have hkey := Lib.hid (fun W => isKey_c who W)
  rw [k1] at hkey
  obtain ⟨sz, mn, rs⟩ := f
  obtain ⟨⟨p0, p1⟩, ⟨p2, p3⟩, p4, p5⟩ := hf
  dsimp only [Fl.val, Fl.cells] at *
  have d1 : decide (0 ≤ fin ∧ fin ≤ mn) = true := decide_eq_true k2
  have d2 : decide (1 ≤ rk ∧ rk ≤ 300) = true := decide_eq_true k3
  have k0 : (0 : Int) ≤ (k : Int) := by omega
  have kn : (k : Int) < (n : Int) := by omega
  clear k1 k3
  rw [alloc_size] at hb5
  go_enter Tryz.func222, Tryz.ntmps222
  go_wp2_with fail
  refine (hkey.out _).mono ?_; rintro e w6 ⟨rfl, B6⟩
  have hb6 := blk_below hb5 B6
  obtain ⟨y0, y1, y2⟩ := hFk.out _ B6
  have hB6 := below_next hB5 B6
  have x0 := (blk_facts hb6).1 0
  have x1 := (blk_facts hb6).1 1
  have x2 := (blk_facts hb6).1 2
  clear hkey hb5 hB5 B6 hFk c0 c1 c2
  go_wp2_with (go_at_call 127; refine (within_c _ _ _ _).mono ?_; rintro e w' ⟨rfl, rfl⟩; first | rw [d1] | rw [d2])
  rcases hcase with h0 | rfl | ⟨h1, h2, pf, hc, h3, h4⟩
  · have e8 : decide (0 < k) = false := decide_eq_false (by omega)
    have e9 : decide ((0 : Int) < (k : Int)) = false := decide_eq_false (by omega)
    clear h0
    go_quiet (fail)
    clear e8 e9
    go_wp2
    go_ret
    exact ⟨rfl, below_drewN hB6 _⟩
  · have e7 : ((0 : Int) != 0) = false := by decide
    by_cases h0 : 0 < k
    · have e8 : (0 : Int) < (k : Int) := by omega
      go_quiet (fail)
      go_wp2
      go_ret
      exact ⟨rfl, below_drewN hB6 _⟩
    · have e8 : decide (0 < k) = false := decide_eq_false h0
      have e9 : decide ((0 : Int) < (k : Int)) = false := decide_eq_false (by omega)
      go_quiet (fail)
      clear e8 e9
      go_wp2
      go_ret
      exact ⟨rfl, below_drewN hB6 _⟩
  · have hc6 := hPk.out _ hB6 _ _ hc
    have e1 : IntKind.i64.wrap ((k : Int) - 1) = (k : Int) - 1 := IntWalk.i64_in _ (by omega)
    have e2 : 0 ≤ (k : Int) - 1 := by omega
    have e3 : ((k : Int) - 1).toNat = k - 1 := by omega
    have e4 : (k : Int) - 1 < n := by omega
    have e5 : decide (0 < k) = true := decide_eq_true (by omega)
    have e9 : decide ((0 : Int) < (k : Int)) = true := decide_eq_true (by omega)
    have e6 : (fin != 0) = true := by simpa using h2
    have e7 : (pf == 0) = false := beq_eq_false_iff_ne.2 h3
    have e8 : decide (fin < pf) = false := decide_eq_false (by omega)
    clear h2 h3 hc hPk
    go_quiet (fail)
    clear e8 e5 e9
    go_wp2
    go_ret
    exact ⟨rfl, below_drewN hB6 _⟩
structure PM (w : World) (f : Fl) (b1 b2 q1 q2 : Nat) (D1 D2 : DataW Unit) (wx : World) : Prop where
  m1 : MII wx b1 q1 D1
  m2 : MB wx b2 q2 D2
  fb : FinB w.heap.size f wx
  l1 : w.heap.size < b1
  l2 : b1 < b2
  bel : Below w.heap.size w wx
  lz : b2 < wx.heap.size
section
variable {w wx w' : World} {f : Fl} {b1 b2 q1 q2 : Nat} {D1 D2 : DataW Unit}
theorem PM.below (h : PM w f b1 b2 q1 q2 D1 D2 wx) (B : Below wx.heap.size wx w') : PM w f b1 b2 q1 q2 D1 D2 w' :=
  ⟨h.m1.kept (row := none) (grown_of_below B) (by simp), h.m2.kept (row := none) (grown_of_below B) (by simp), h.fb.keep _ _ B, h.l1, h.l2, below_next h.bel B, Nat.lt_of_lt_of_le h.lz B.size⟩
theorem PM.put1 (h : PM w f b1 b2 q1 q2 D1 D2 wx) {q' : Nat} {D' : DataW Unit} (ho : MII w' b1 q' D') (hg : wx.grownBy w' (some b1)) : PM w f b1 b2 q' q2 D' D2 w' := by
  have h1 := h.l1
  have h2 := h.l2
  exact ⟨ho, h.m2.kept hg (fun e => by injection e with e; omega), blk_grown h.fb hg (fun e => by injection e with e; omega), h1, h2, h.bel.trans (grown_below hg (by omega) h.bel.size), Nat.lt_of_lt_of_le h.lz hg.size⟩
theorem PM.put2 (h : PM w f b1 b2 q1 q2 D1 D2 wx) {q' : Nat} {D' : DataW Unit} (ho : MB w' b2 q' D') (hg : wx.grownBy w' (some b2)) : PM w f b1 b2 q1 q' D1 D' w' := by
  have h1 := h.l1
  have h2 := h.l2
  exact ⟨h.m1.kept hg (fun e => by injection e with e; omega), ho, blk_grown h.fb hg (fun e => by injection e with e; omega), h1, h2, h.bel.trans (grown_below hg (by omega) h.bel.size), Nat.lt_of_lt_of_le h.lz hg.size⟩
end
set_option maxHeartbeats 6400000 in
set_option maxRecDepth 100000 in
theorem checkPlacesOk_c (f : Fl) (hf : FlOk f) (A : Option Addr) (n c : Nat) (p : List Pc) (hok : PlsOk f p) (w : World) (h : RPc w A n p) :
    Calls Tryz.prog 152 #[f.val, .slice A n c] w fun e w' => e = .returned (.int .i64 0) ∧ Below w.heap.size w w' := by
  have hn : n ≤ 300 := by have := hok.big; rw [h.len] at this; exact this
  have hCP := Lib.hid (fun k hk W h => checkPlaceOk_c f hf A n c p hok k hk W h hn)
  have hR := Lib.hid (fun W B => h.below (w' := W) B)
  have hkey := Lib.hid (fun x hx => hok.key x hx)
  have hcnt := Lib.hid (fun k x (hx : p[k]? = some x) h => hok.cnt k x hx h)
  have htk := Lib.hid (fun k (x : Pc) (hx : p[k]? = some x) => show p.take (k + 1) = p.take k ++ [x] by rw [List.take_add_one, hx]; rfl)
  have hnw := Lib.hid (fun k (x : Pc) (hx : p[k]? = some x) => show x.who ∉ (p.take k).map Pc.who from fun hc => by
    obtain ⟨y, hy, he⟩ := List.mem_map.1 hc
    obtain ⟨j, hj⟩ := List.getElem?_of_mem hy
    have hjk : j < k := by
      rcases Nat.lt_or_ge j k with h1 | h1
      · exact h1
      · rw [List.getElem?_take_eq_none h1] at hj; cases hj
    rw [List.getElem?_take_of_lt hjk] at hj
    have hp := List.pairwise_iff_getElem.1 (show (p.map Pc.who).Pairwise (· ≠ ·) from hok.nod) j k (by rw [List.length_map]; exact (List.getElem?_eq_some_iff.1 hj).1) (by rw [List.length_map]; exact (List.getElem?_eq_some_iff.1 hx).1) hjk
    rw [List.getElem_map, List.getElem_map, (List.getElem?_eq_some_iff.1 hj).2, (List.getElem?_eq_some_iff.1 hx).2] at hp
    exact hp he)
  have hsz : f.sz ≤ 10 := hf.1.2
  have hmn : f.mn ≤ 5 := hf.2.1.2
  have hF0 : FinB w.heap.size f (w.alloc (.cells f.cells 66)) := heap_alloc_new w _
  have hB0 := below_new w (.cells f.cells 66)
  have K0 : PM w f (w.heap.size + 1) (w.heap.size + 1 + 1) 0 0 (.map []) (.map []) (((w.alloc (.cells f.cells 66)).alloc (.map #[] 0)).alloc (.map #[] 0)) := by
    have h1 : MII ((w.alloc (.cells f.cells 66)).alloc (.map #[] 0)) (w.alloc (.cells f.cells 66)).heap.size 0 (.map []) := World.ownsMap_made _ _ _ _
    have h2 := mb_new ((w.alloc (.cells f.cells 66)).alloc (.map #[] 0))
    simp only [alloc_size] at h1 h2
    exact ⟨h1.alloc _, h2, blk_alloc (blk_alloc hF0 _) _, Nat.lt_succ_self _, Nat.lt_succ_self _, (hB0.alloc hB0.size _).alloc (by simp; omega) _, by simp⟩
  have hmm := @run_makeMap Tryz.prog
  have q0 : ¬ (300 : Int) < (n : Int) := by omega
  have hFa := Lib.hid (fun b1 b2 q1 q2 D1 D2 v (h : PM w f b1 b2 q1 q2 D1 D2 v) => h.fb.at_)
  clear hok h hF0 hB0
  obtain ⟨sz, mn, rs⟩ := f
  dsimp only [Fl.val, Fl.cells] at *
  clear hf
  go_enter Tryz.func152, Tryz.ntmps152
  go_wp2_with fail
  generalize ((w.alloc (.cells #[.int .i64 sz, .int .i64 mn, .int .i64 rs] 66)).alloc (.map #[] 0)).alloc (.map #[] 0) = w3 at *
  generalize hb1 : w.heap.size + 1 = b1 at *
  go_loopw [7, 18] (fun tw i wr => ∃ (k q1 q2 : Nat) (D1 D2 : DataW Unit) (seen : List ByteArray), k ≤ n ∧ i = .int .i64 k ∧ tw = .bool false ∧ q1 ≤ k ∧ q2 ≤ k ∧ PM w ⟨sz, mn, rs⟩ b1 (b1 + 1) q1 q2 D1 D2 wr ∧ Hid (CntM D1 (p.take k)) ∧ Hid (SeenM D2 seen) ∧ Hid (∀ s ∈ seen, s ∈ (p.take k).map Pc.who)) (fun _ i _ => n - (intOf i).toNat)
  case atStart => exact ⟨0, 0, 0, .map [], .map [], [], Nat.zero_le _, rfl, rfl, Nat.le_refl _, Nat.le_refl _, K0, Lib.hid CntM.nil, Lib.hid SeenM.nil, Lib.hid (fun s hs => by cases hs)⟩
  case round =>
    clear K0
    obtain ⟨k, u1, u2, D1, D2, seen, hk, rfl, rfl, hq1, hq2, K, hC, hS, hF⟩ := hrel
    by_cases hlt : k < n
    · obtain ⟨b, off, x, rfl, hbl, hx, c0, c1, c2⟩ := RPc_at3 (hR.out _ K.bel) hlt
      have hxm := List.mem_of_getElem? hx
      obtain ⟨k1, k2, k3⟩ := hkey.out x hxm
      have hks := (key_small k1).2
      have hsn : seenB x.who seen = false := seenB_no fun hc => hnw.out k x hx (hF.out _ hc)
      have hC2 := Lib.hid (show CntM (D1.put (.int .i64 x.fin) (.lit (.int .i64 ((cntF x.fin (p.take k) : Int) + 1)))) (p.take (k + 1)) by rw [htk.out k x hx]; exact hC.out.snoc x)
      have hS2 := Lib.hid (hS.out.put x.who)
      have hF2 := Lib.hid (show ∀ s ∈ x.who :: seen, s ∈ (p.take (k + 1)).map Pc.who from fun s hs => by
        rw [htk.out k x hx, List.map_append]
        rcases List.mem_cons.1 hs with rfl | hs
        · simp
        · exact List.mem_append_left _ (hF.out s hs))
      have hcn := Lib.hid (fun h => hcnt.out k x hx h)
      have hcl : (cntF x.fin (p.take k) : Int) ≤ 300 := by have := cntF_le x.fin (p.take k); rw [List.length_take] at this; omega
      have hc2 := Lib.hid (show (cntF x.fin (p.take (k + 1)) : Int) = cntF x.fin (p.take k) + 1 by rw [htk.out k x hx, cntF_snoc, if_pos rfl]; push_cast; rfl)
      obtain ⟨who, fin, rk⟩ := x
      dsimp only at *
      have hb5 := heap_alloc_new wr (.cells #[.string who, .int .i64 fin, .int .i64 rk] 79)
      have K5 := K.below (below_new wr (.cells #[.string who, .int .i64 fin, .int .i64 rk] 79))
      obtain ⟨y0, y1, y2⟩ := hFa.out _ _ _ _ _ _ _ K5
      have hCPk := Lib.hid (fun W h => hCP.out k hlt W h)
      have hlz := K.lz
      clear hx hxm k1 k3 K
      go_wp2_with fail
      refine (hCPk.out _ (hR.out _ K5.bel)).mono ?_; rintro e w6 ⟨rfl, B6⟩
      have K6 := K5.below B6
      have hb6 := blk_below hb5 B6
      have lb6 := lt_of_heap hb6
      obtain ⟨y0, y1, y2⟩ := hFa.out _ _ _ _ _ _ _ K6
      have z0 := (blk_facts hb6).1 0
      have z1 := (blk_facts hb6).1 1
      clear hCPk c0 c1 c2 hb5 K5 B6
      obtain ⟨cv, hrun, hat⟩ := mii_lookup K6.m1 fin (by omega)
      rw [hC.out.2 fin] at hat
      have hcv : (cntF fin (p.take k) : Int) = cv := by injection hat with e; injection e
      rw [hcv] at hC2 hc2 hcl
      have hcv0 : 0 ≤ cv := by rw [← hcv]; exact Int.natCast_nonneg _
      have hm1 := K6.m1
      have e1 : IntKind.i64.wrap (cv + 1) = cv + 1 := IntWalk.i64_in _ (by omega)
      clear hat hcv hC
      by_cases hfp : 0 < fin
      · have hcs := hcn.out hfp
        rw [hc2.out] at hcs
        have e7 : decide (sz < cv + 1) = false := decide_eq_false (by omega)
        go_wp2_with (first
        | (at_mapUpdate; refine wpList_mapUpdate_own _ rfl _ _ _ 256 rfl 3 3 (int_keyed Tryz.underlying3) Tryz.underlying256 _ _ u1 _ rfl hm1 (by unfold maxLen; omega) _ _ _ rfl rfl (keyOf_int_mk (a := fin) Tryz.underlying3 (by simp [Lit.wf, IntKind.min, IntKind.max, IntKind.signed, IntKind.bits]; omega)) _ [] (plainElem_int Tryz.underlying3 (by simp [Lit.wf, IntKind.min, IntKind.max, IntKind.signed, IntKind.bits]; omega)) ?_; intro w7 hown7 hg7; have K7 := K6.put1 hown7 hg7; have hb7 := blk_grown hb6 hg7 (fun e => by injection e with e; omega); obtain ⟨y0, y1, y2⟩ := hFa.out _ _ _ _ _ _ _ K7; have z0 := (blk_facts hb7).1 0; have z1 := (blk_facts hb7).1 1; obtain ⟨c7, hrun7, hat7⟩ := mii_lookup K7.m1 fin (by omega); rw [hC2.out.2 fin, hc2.out] at hat7; have hc7 : cv + 1 = c7 := (by injection hat7 with e; injection e); subst hc7; obtain ⟨v7, hrun8, hat8⟩ := mb_lookup K7.m2 who (by unfold maxLen; omega); rw [hS.out.2 who, hsn] at hat8; have hv7 : false = v7 := (by injection hat8 with e; injection e); subst hv7; have hm2 := K7.m2; clear hat7 hat8 hrun)
        | (at_mapUpdate; refine wpList_mapUpdate_own _ rfl _ _ _ 164 rfl 9 4 (string_keyed Tryz.underlying9) Tryz.underlying164 _ _ u2 _ rfl hm2 (by unfold maxLen; omega) _ _ _ rfl rfl (keyOf_string_mk Tryz.underlying9 (by unfold maxLen; omega)) _ [] (plainElem_bool Tryz.underlying4 true) ?_; intro w8 hown8 hg8; have K8 := K7.put2 hown8 hg8))
        clear hrun7 hrun8 hown7 hg7 hown8 hg8 K6 K7 hm1 hm2
        go_roundw
        case rel => exact ⟨k + 1, u1 + 1, u2 + 1, _, _, who :: seen, by omega, by go_num, rfl, by omega, by omega, K8, hC2, hS2, hF2⟩
        case measure => simp [intOf]; omega
      · have e7 : decide (0 < fin) = false := decide_eq_false hfp
        go_wp2_with (first
        | (at_mapUpdate; refine wpList_mapUpdate_own _ rfl _ _ _ 256 rfl 3 3 (int_keyed Tryz.underlying3) Tryz.underlying256 _ _ u1 _ rfl hm1 (by unfold maxLen; omega) _ _ _ rfl rfl (keyOf_int_mk (a := fin) Tryz.underlying3 (by simp [Lit.wf, IntKind.min, IntKind.max, IntKind.signed, IntKind.bits]; omega)) _ [] (plainElem_int Tryz.underlying3 (by simp [Lit.wf, IntKind.min, IntKind.max, IntKind.signed, IntKind.bits]; omega)) ?_; intro w7 hown7 hg7; have K7 := K6.put1 hown7 hg7; have hb7 := blk_grown hb6 hg7 (fun e => by injection e with e; omega); obtain ⟨y0, y1, y2⟩ := hFa.out _ _ _ _ _ _ _ K7; have z0 := (blk_facts hb7).1 0; have z1 := (blk_facts hb7).1 1; obtain ⟨c7, hrun7, hat7⟩ := mii_lookup K7.m1 fin (by omega); rw [hC2.out.2 fin, hc2.out] at hat7; have hc7 : cv + 1 = c7 := (by injection hat7 with e; injection e); subst hc7; obtain ⟨v7, hrun8, hat8⟩ := mb_lookup K7.m2 who (by unfold maxLen; omega); rw [hS.out.2 who, hsn] at hat8; have hv7 : false = v7 := (by injection hat8 with e; injection e); subst hv7; have hm2 := K7.m2; clear hat7 hat8 hrun)
        | (at_mapUpdate; refine wpList_mapUpdate_own _ rfl _ _ _ 164 rfl 9 4 (string_keyed Tryz.underlying9) Tryz.underlying164 _ _ u2 _ rfl hm2 (by unfold maxLen; omega) _ _ _ rfl rfl (keyOf_string_mk Tryz.underlying9 (by unfold maxLen; omega)) _ [] (plainElem_bool Tryz.underlying4 true) ?_; intro w8 hown8 hg8; have K8 := K7.put2 hown8 hg8))
        clear hrun7 hrun8 hown7 hg7 hown8 hg8 K6 K7 hm1 hm2
        go_roundw
        case rel => exact ⟨k + 1, u1 + 1, u2 + 1, _, _, who :: seen, by omega, by go_num, rfl, by omega, by omega, K8, hC2, hS2, hF2⟩
        case measure => simp [intOf]; omega
    · obtain rfl : k = n := by omega
      have hbel := K.bel
      go_wp2
      go_ret
      exact ⟨rfl, hbel⟩
end Go.Proofs.YtcmfgmdkdpadjaaGreatDoor
