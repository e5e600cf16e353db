/- Signals as a function of the list and the place. Printed by wip/mksgg.py out of SgN. -/
import Derived.Test.YtklggnglaeagpaaGreatDoorRSgF
namespace Go.Proofs.YtklggnglaeagpaaGreatDoor
open Go.RowKit Go.Shelf Go.Lib Go.Sort
open Go.Maps (Keyed string_keyed)
open Go.WideMaps (keyOf_string_mk)
set_option linter.unusedVariables false

def putR (zs : Zs) (p : Nat) (D : DataW Unit) (x : Sg) : Sg × Nat × DataW Unit := (putY zs p D x, p + 1, putD zs p D x.dev)
/-- a signal of a device -/
def sgStep (zs : Zs) (t : Int) (k : Nat) (D : DataW Unit) : Sg × Nat × DataW Unit :=
  if (pickV zs k [2, 2, 2, 3, 4] : Int) = 4 then putR zs (k + 6) D ⟨⟨#[100, 119]⟩, 0, pickV zs k [2, 2, 2, 3, 4], IntKind.i64.wrap (t + pickV zs (k + 1 + 2) [9000, 16000, 30000, 31050, 32000, 61000, 61020, 90000, nextV zs (k + 1 + 1) 130000]), pickV zs (k + 1 + 3) [1, 1, 2, 3], 3000 + pickV zs (k + 5) [0, 20, 3000, 3110]⟩
  else putR zs (k + 5) D ⟨pickV zs (k + 1) [⟨#[100, 97]⟩, ⟨#[100, 98]⟩], 0, pickV zs k [2, 2, 2, 3, 4], IntKind.i64.wrap (t + pickV zs (k + 1 + 2) [9000, 16000, 30000, 31050, 32000, 61000, 61020, 90000, nextV zs (k + 1 + 1) 130000]), pickV zs (k + 1 + 3) [1, 1, 2, 3], 0⟩
def sgIn (zs : Zs) (t : Int) : Nat → Nat → DataW Unit → List Sg × Nat × DataW Unit
  | 0, k, D => ([], k, D)
  | n + 1, k, D => ((sgStep zs t k D).1 :: (sgIn zs t n (sgStep zs t k D).2.1 (sgStep zs t k D).2.2).1, (sgIn zs t n (sgStep zs t k D).2.1 (sgStep zs t k D).2.2).2)
/-- a heat: a start, then what the devices tell -/
def sgRound (zs : Zs) (j k : Nat) (D : DataW Unit) : List Sg × Nat × DataW Unit :=
  (putY zs k D ⟨⟨#[100, 97]⟩, 0, 1, 1000 + 200000 * (j : Int), 0, 0⟩ :: (sgIn zs (1000 + 200000 * (j : Int)) (0 + nextV zs (k + 1) (8 - 0 + 1)).toNat (k + 1 + 1) (putD zs k D ⟨#[100, 97]⟩)).1, (sgIn zs (1000 + 200000 * (j : Int)) (0 + nextV zs (k + 1) (8 - 0 + 1)).toNat (k + 1 + 1) (putD zs k D ⟨#[100, 97]⟩)).2)
def sgOut (zs : Zs) : Nat → Nat → Nat → DataW Unit → List Sg × Nat × DataW Unit
  | 0, _, k, D => ([], k, D)
  | n + 1, j, k, D => ((sgRound zs j k D).1 ++ (sgOut zs n (j + 1) (sgRound zs j k D).2.1 (sgRound zs j k D).2.2).1, (sgOut zs n (j + 1) (sgRound zs j k D).2.1 (sgRound zs j k D).2.2).2)
/-- what is done with the signals at the end -/
def sgFin (zs : Zs) (kk : Nat) (l : List Sg) : List Sg × Nat :=
  if (nextV zs kk 15 == 0) = true then (l.set (nextV zs (kk + 1) (l.length : Int)).toNat ⟨pickV zs (kk + 2) [(l.getD (nextV zs (kk + 1) (l.length : Int)).toNat ⟨⟨#[]⟩, 0, 0, 0, 0, 0⟩).dev, ⟨#[]⟩, ⟨#[100, 97]⟩], pickV zs (kk + 3) [(l.getD (nextV zs (kk + 1) (l.length : Int)).toNat ⟨⟨#[]⟩, 0, 0, 0, 0, 0⟩).no, 0, 1], (l.getD (nextV zs (kk + 1) (l.length : Int)).toNat ⟨⟨#[]⟩, 0, 0, 0, 0, 0⟩).kind, (l.getD (nextV zs (kk + 1) (l.length : Int)).toNat ⟨⟨#[]⟩, 0, 0, 0, 0, 0⟩).tm, pickV zs (kk + 4) [(l.getD (nextV zs (kk + 1) (l.length : Int)).toNat ⟨⟨#[]⟩, 0, 0, 0, 0, 0⟩).lane, 0, 11], pickV zs (kk + 5) [(l.getD (nextV zs (kk + 1) (l.length : Int)).toNat ⟨⟨#[]⟩, 0, 0, 0, 0, 0⟩).time, 0, 1]⟩, kk + 6) else (l, kk + 1)
def sgEnd (zs : Zs) (r : List Sg × Nat × DataW Unit) : List Sg × Nat := sgFin zs r.2.1 (insL (ltOf sgDf) r.1)
/-- Signals: what comes, and where the stream stands behind it -/
def signalsV (zs : Zs) (k : Nat) : List Sg × Nat := sgEnd zs (sgOut zs (pickV zs k ([1, 1, 2] : List Int)).toNat 0 (k + 1) (.map []))
def RetSgF (w : World) (g : Nat) (zs : Zs) (k : Nat) (RV : List Sg × Nat) (e : Ending) (w' : World) : Prop := ∃ (A : Option Addr) (n c : Nat), e = .returned (.slice A n c) ∧ w'.ownsRow w.heap.size 55 6 (.slice A n c) n (RV.1.flatMap sgE) ∧ RV.1.length = n ∧ 1 ≤ n ∧ n ≤ 18 ∧ St w' g zs RV.2 ∧ RV.2 ≤ k + 300 ∧ w.grownBy w' (some g)
def k4S (kk : Nat) : Nat → Nat
  | 0 => kk
  | 1 => kk + 1
  | 2 => kk + 2
  | 3 => kk + 3
  | _ + 4 => kk + 4
def sgKf (kk : Nat) : Nat → Nat
  | 0 => kk + 2
  | 1 => kk + 3
  | 2 => kk + 4
  | 3 => kk + 5
  | _ + 4 => kk + 6
def sgLf (l : List Sg) (q : Nat) (x : Sg) (a10 : ByteArray) (a17 a24 a31 : Int) : Nat → List Sg
  | 0 => l
  | 1 => l
  | 2 => l
  | 3 => l
  | 4 => l
  | 5 => l.set q ⟨a10, x.no, x.kind, x.tm, x.lane, x.time⟩
  | 6 => (l.set q ⟨a10, x.no, x.kind, x.tm, x.lane, x.time⟩).set q ⟨a10, a17, x.kind, x.tm, x.lane, x.time⟩
  | 7 => ((l.set q ⟨a10, x.no, x.kind, x.tm, x.lane, x.time⟩).set q ⟨a10, a17, x.kind, x.tm, x.lane, x.time⟩).set q ⟨a10, a17, x.kind, x.tm, a24, x.time⟩
  | _ + 8 => (((l.set q ⟨a10, x.no, x.kind, x.tm, x.lane, x.time⟩).set q ⟨a10, a17, x.kind, x.tm, x.lane, x.time⟩).set q ⟨a10, a17, x.kind, x.tm, a24, x.time⟩).set q ⟨a10, a17, x.kind, x.tm, a24, a31⟩
theorem CH.mapw {X : Nat → World → Prop} {ch : List Nat} {pre : List (Nat × Nat)} {listed : Array Bool} {w' w2 : World} (h : CH X ch pre listed w') (hX : ∀ m, X m w' → X m w2) : CH X ch pre listed w2 := by
  obtain ⟨m, h1, h2, h3⟩ := h
  exact ⟨m, hX _ h1, h2, h3⟩
theorem setS {w8 wx : World} {g z k : Nat} {zs : Zs} (hg : g < w8.heap.size) (hz : w8.heap.size ≤ z) (o : Nat) (v : Value) (h : St wx g zs k ∧ w8.grownBy wx (some g)) : St (wx.setCell ⟨z, o, none⟩ v) g zs k ∧ w8.grownBy (wx.setCell ⟨z, o, none⟩ v) (some g) :=
  ⟨h.1.setAt (by omega) v, grown_setAt h.2 hz v⟩
/-- the new signal: where it lies (slot 15), what it holds once it is written (16) -/
def W2S (n8 : Nat) (x : Sg) (v : Value) (L : Array Bool) (w' : World) : Prop :=
  (L.getD 15 false = true → ∃ (z : Nat) (y : Sg), v = .pointer (some ⟨z, 0, none⟩) ∧ n8 ≤ z ∧ w'.heap[z]? = some (.cells (sgE y).toArray 55 (0, 0)) ∧ (L.getD 16 false = true → y = x)) ∧ (L.getD 16 false = true → L.getD 15 false = true)
theorem W2S.step {n8 i : Nat} {x : Sg} {v : Value} {L : Array Bool} {w w' : World} (h : W2S n8 x v L w) (hi : i ≠ 15) (hj : i ≠ 16) (hk : ∀ (z : Nat) (cs : Array Value), w.heap[z]? = some (.cells cs 55 (0, 0)) → w'.heap[z]? = some (.cells cs 55 (0, 0))) : W2S n8 x v (L.setIfInBounds i true) w' := by
  unfold W2S
  rw [getD_set_other _ hi, getD_set_other _ hj]
  exact ⟨fun e => by obtain ⟨z, y, h1, h2, h3, h4⟩ := h.1 e; exact ⟨z, y, h1, h2, hk _ _ h3, h4⟩, h.2⟩
theorem W2S.alloc15 {n8 : Nat} {x : Sg} {v : Value} {L : Array Bool} {w : World} (h : W2S n8 x v L w) (h0 : L.getD 15 true = false) (hn : n8 ≤ w.heap.size) : W2S n8 x (.pointer (some ⟨w.heap.size, 0, none⟩)) (L.setIfInBounds 15 true) (w.alloc (.cells (sgE ⟨⟨#[]⟩, 0, 0, 0, 0, 0⟩).toArray 55)) := by
  have h16 : L.getD 16 false = false := by
    cases e : L.getD 16 false
    · rfl
    · have := h.2 e; rw [(getD_tf9 h0).1] at this; cases this
  unfold W2S
  rw [getD_set_other (i := 15) (j := 16) _ (by decide), h16]
  exact ⟨fun _ => ⟨_, _, rfl, hn, heap_alloc_new w _, fun e => by cases e⟩, fun e => by cases e⟩
set_option maxHeartbeats 6400000 in
set_option maxRecDepth 100000 in
theorem signalsF_c (g : Nat) (zs : Zs) (k : Nat) (w : World) (h : St w g zs k) (hk : k + 400 ≤ 1099511627776) :
    Calls Tryz.prog 63 #[.pointer (some ⟨g, 0, none⟩)] w (RetSgF w g zs k (signalsV zs k)) := by
  have hmm := @run_makeMap Tryz.prog
  have hglt := h.lt
  have hV := Lib.hid (show signalsV zs k = sgEnd zs (sgOut zs (pickV zs k ([1, 1, 2] : List Int)).toNat 0 (k + 1) (.map [])) from rfl)
  generalize signalsV zs k = RV at *
  have z1 : (w.alloc (.cells #[.pointer (some ⟨g, 0, none⟩)] 23)).heap.size = w.heap.size + 1 := by simp
  have z2 : ((w.alloc (.cells #[.pointer (some ⟨g, 0, none⟩)] 23)).alloc (.cells #[.slice none 0 0] 50)).heap.size = w.heap.size + 1 + 1 := by simp
  have z3 : (((w.alloc (.cells #[.pointer (some ⟨g, 0, none⟩)] 23)).alloc (.cells #[.slice none 0 0] 50)).alloc (.map #[] 0)).heap.size = w.heap.size + 1 + 1 + 1 := by simp
  have z4 : ((((w.alloc (.cells #[.pointer (some ⟨g, 0, none⟩)] 23)).alloc (.cells #[.slice none 0 0] 50)).alloc (.map #[] 0)).alloc (.cells #[.map (some (w.heap.size + 1 + 1))] 191)).heap.size = w.heap.size + 1 + 1 + 1 + 1 := by simp
  have K0 : SKF w g zs w.heap.size (w.heap.size + 1) (w.heap.size + 1 + 1) (w.heap.size + 1 + 1 + 1) (w.heap.size + 1 + 1 + 1 + 1) (.slice none 0 0) [] k 0 (.map []) ((((w.alloc (.cells #[.pointer (some ⟨g, 0, none⟩)] 23)).alloc (.cells #[.slice none 0 0] 50)).alloc (.map #[] 0)).alloc (.cells #[.map (some (w.heap.size + 1 + 1))] 191)) :=
    ⟨⟨(((h.alloc _).alloc _).alloc _).alloc _, blk_alloc (blk_alloc (blk_alloc (heap_alloc_new w _) _) _) _, blk_alloc (blk_alloc (z1 ▸ heap_alloc_new (w.alloc (.cells #[.pointer (some ⟨g, 0, none⟩)] 23)) (.cells #[.slice none 0 0] 50)) _) _, z3 ▸ heap_alloc_new (((w.alloc (.cells #[.pointer (some ⟨g, 0, none⟩)] 23)).alloc (.cells #[.slice none 0 0] 50)).alloc (.map #[] 0)) (.cells #[.map (some (w.heap.size + 1 + 1))] 191), ⟨_, (z2 ▸ mi_new ((w.alloc (.cells #[.pointer (some ⟨g, 0, none⟩)] 23)).alloc (.cells #[.slice none 0 0] 50))).alloc _⟩, World.ownsRow_nil _ _ _ _, grown_alloc (grown_alloc (grown_alloc (grown_alloc (grown_refl w _) _) _) _) _⟩, (z2 ▸ mi_new ((w.alloc (.cells #[.pointer (some ⟨g, 0, none⟩)] 23)).alloc (.cells #[.slice none 0 0] 50))).alloc _⟩
  have hO : SO w g w.heap.size (w.heap.size + 1) (w.heap.size + 1 + 1) (w.heap.size + 1 + 1 + 1) (w.heap.size + 1 + 1 + 1 + 1) := ⟨hglt, Nat.le_refl _, by omega, by omega, by omega, by omega, by omega⟩
  clear z1 z2 z3
  go_enter Tryz.func63, Tryz.ntmps63
  go_wp2_with fail
  generalize ((((w.alloc (.cells #[.pointer (some ⟨g, 0, none⟩)] 23)).alloc (.cells #[.slice none 0 0] 50)).alloc (.map #[] 0)).alloc (.cells #[.map (some (w.heap.size + 1 + 1))] 191)) = w4 at *
  refine (pickH_c g zs _ [1, 1, 2] 1 2 3 3 _ #[.int .i64 1, .int .i64 1, .int .i64 2] w4 K0.1.st (by omega) z4 rfl rfl (by decide) (by decide) (by simp)).mono ?_; rintro e w5 ⟨v, hv, rfl, v0, v1, s5, g5⟩
  have K5 := K0.grown hO s5 g5
  clear K0 s5 g5 z4 h
  generalize w.heap.size + 1 + 1 + 1 + 1 = bs at *
  generalize w.heap.size + 1 + 1 + 1 = p3 at *
  generalize w.heap.size + 1 + 1 = pm at *
  generalize w.heap.size + 1 = p2 at *
  have hO' := hO
  obtain ⟨g0, o1, o2, o3, o4, o5, o6⟩ := hO'
  generalize w.heap.size = p1 at K5 hO g0 o1 o2 o3 o4 o5 o6 ⊢
  clear hglt
  obtain ⟨m, rfl⟩ : ∃ m : Nat, v = m := ⟨v.toNat, by omega⟩
  obtain ⟨OUT, hOe⟩ : ∃ q, sgOut zs = q := ⟨_, rfl⟩
  have hOs := Lib.hid (fun n j kk D => show OUT (n + 1) j kk D = ((sgRound zs j kk D).1 ++ (OUT n (j + 1) (sgRound zs j kk D).2.1 (sgRound zs j kk D).2.2).1, (OUT n (j + 1) (sgRound zs j kk D).2.1 (sgRound zs j kk D).2.2).2) by rw [← hOe]; rfl)
  have hO0 := Lib.hid (fun j kk D => show OUT 0 j kk D = ([], kk, D) by rw [← hOe]; rfl)
  have hV2 := Lib.hid (show RV = sgEnd zs (OUT m 0 (k + 1) (.map [])) by rw [hV.out, hv.out, Int.toNat_natCast, hOe])
  clear hOe hV hv
  obtain ⟨TOT, hTOT⟩ : ∃ q, OUT m 0 (k + 1) (.map []) = q := ⟨_, rfl⟩
  rw [hTOT] at hV2
  have hTOT := Lib.hid hTOT
  go_wp2_with fail
  clear g0 o1
  generalize hfv : Value.func (Fn.func 167) #[] #[.pointer (some ⟨p3, 0, none⟩), .pointer (some ⟨p1, 0, none⟩), .pointer (some ⟨p2, 0, none⟩)] = fv
  subst hfv
  go_loopw [6, 15] (fun tv i wr => ∃ (jj kk q : Nat) (u : Value) (acc : List Sg) (D : DataW Unit), jj ≤ m ∧ i = .int .i64 jj ∧ tv = .int .i64 (1000 + 200000 * (jj : Int)) ∧ SKF w g zs p1 p2 pm p3 bs u acc kk q D wr ∧ (jj ≤ acc.length ∧ acc.length ≤ 9 * jj) ∧ kk ≤ k + 1 + 110 * jj ∧ q ≤ 9 * jj ∧ Hid ((acc ++ (OUT (m - jj) jj kk D).1, (OUT (m - jj) jj kk D).2) = TOT)) (fun _ i _ => m - (intOf i).toNat)
  case atStart => exact ⟨0, k + 1, 0, _, [], _, by omega, rfl, rfl, K5, ⟨Nat.le_refl _, Nat.le_refl _⟩, by omega, by omega, Lib.hid (by rw [Nat.sub_zero]; exact hTOT.out)⟩
  case round =>
    clear K5
    rename World => wr
    obtain ⟨jj, kk, q, u, acc, D, hj, rfl, rfl, K, ⟨ha1, ha2⟩, hkk, hq, hG⟩ := hrel
    by_cases hlt : jj < m
    · have hlti : (jj : Int) < m := by omega
      go_wp2_with fail
      refine (sigPutF_c w g zs p1 p2 pm p3 bs hO u acc kk q D ⟨⟨#[100, 97]⟩, 0, 1, 1000 + 200000 * (jj : Int), 0, 0⟩ (by show ByteArray.size ⟨#[100, 97]⟩ ≤ 100; decide) _ K (by omega) (by omega) (by omega)).mono ?_; rintro e w6 ⟨rfl, u6, K6⟩
      obtain ⟨y6, hy6⟩ : ∃ y, putY zs kk D ⟨⟨#[100, 97]⟩, 0, 1, 1000 + 200000 * (jj : Int), 0, 0⟩ = y := ⟨_, rfl⟩
      obtain ⟨D6, hD6⟩ : ∃ y, putD zs kk D ⟨#[100, 97]⟩ = y := ⟨_, rfl⟩
      replace K6 : SKF w g zs p1 p2 pm p3 bs u6 (acc ++ [y6]) (kk + 1) (q + 1) D6 w6 := by rw [← hy6, ← hD6]; exact K6
      have hRd := Lib.hid (show sgRound zs jj kk D = (y6 :: (sgIn zs (1000 + 200000 * (jj : Int)) (0 + nextV zs (kk + 1) (8 - 0 + 1)).toNat (kk + 1 + 1) D6).1, (sgIn zs (1000 + 200000 * (jj : Int)) (0 + nextV zs (kk + 1) (8 - 0 + 1)).toNat (kk + 1 + 1) D6).2) by rw [← hy6, ← hD6]; rfl)
      clear hy6 hD6
      have hl6 : (acc ++ [y6]).length = acc.length + 1 := List.length_append
      have c1 := (blk_facts K6.1.b1).1 0
      clear K
      go_wp2_with fail
      refine (rangeH_c g zs (kk + 1) 0 8 _ K6.1.st (by omega) (by decide) (by decide) (by decide)).mono ?_; rintro e w7 ⟨v, hv, rfl, v0, v1, s7, g7⟩
      obtain ⟨m2, rfl⟩ : ∃ m2 : Nat, v = m2 := ⟨v.toNat, by omega⟩
      obtain ⟨IN, hIe⟩ : ∃ q, sgIn zs (1000 + 200000 * (jj : Int)) = q := ⟨_, rfl⟩
      have hIs := Lib.hid (fun n kk D => show IN (n + 1) kk D = ((sgStep zs (1000 + 200000 * (jj : Int)) kk D).1 :: (IN n (sgStep zs (1000 + 200000 * (jj : Int)) kk D).2.1 (sgStep zs (1000 + 200000 * (jj : Int)) kk D).2.2).1, (IN n (sgStep zs (1000 + 200000 * (jj : Int)) kk D).2.1 (sgStep zs (1000 + 200000 * (jj : Int)) kk D).2.2).2) by rw [← hIe]; rfl)
      have hI0 := Lib.hid (fun kk D => show IN 0 kk D = ([], kk, D) by rw [← hIe]; rfl)
      obtain ⟨⟨L2, k9, D9⟩, hSI⟩ : ∃ z, IN m2 (kk + 1 + 1) D6 = z := ⟨_, rfl⟩
      have hOt := Lib.hid (show ((acc ++ [y6] ++ L2) ++ (OUT (m - (jj + 1)) (jj + 1) k9 D9).1, (OUT (m - (jj + 1)) (jj + 1) k9 D9).2) = TOT by
        rw [← hG.out, show m - jj = (m - (jj + 1)) + 1 by omega, hOs.out, hRd.out, hv.out, Int.toNat_natCast, hIe, hSI, List.append_assoc, List.append_assoc]; simp only [List.append_assoc, List.cons_append, List.nil_append])
      have hSI := Lib.hid hSI
      clear hIe hRd hv hG
      generalize acc ++ [y6] = acc6 at *
      have K7 := K6.grown hO s7 g7
      clear K6 s7 g7 c1
      go_wp2_with fail
      go_loopw [23] (fun i wr => ∃ (i2 k2 q2 : Nat) (u2 : Value) (acc2 : List Sg) (D2 : DataW Unit), i2 ≤ m2 ∧ i = .int .i64 i2 ∧ SKF w g zs p1 p2 pm p3 bs u2 acc2 k2 q2 D2 wr ∧ (acc6.length ≤ acc2.length ∧ acc2.length ≤ acc6.length + i2) ∧ k2 ≤ kk + 1 + 1 + 13 * i2 ∧ q2 ≤ q + 1 + i2 ∧ Hid ((acc2 ++ (IN (m2 - i2) k2 D2).1, (IN (m2 - i2) k2 D2).2) = (acc6 ++ L2, k9, D9))) (fun i _ => m2 - (intOf i).toNat)
      case atStart => exact ⟨0, _, _, _, acc6, _, by omega, rfl, K7, ⟨Nat.le_refl _, Nat.le_refl _⟩, by omega, by omega, Lib.hid (by rw [Nat.sub_zero, hSI.out])⟩
      case round =>
        clear K7
        rename World => wr
        obtain ⟨i2, k2, q2, u2, acc2, D2, hi, rfl, K, ⟨hb1, hb2⟩, hk2, hq2, hGi⟩ := hrel
        by_cases hlt2 : i2 < m2
        · have hlti2 : (i2 : Int) < m2 := by omega
          have c1 := (blk_facts K.1.b1).1 0
          have hlz : wr.heap.size = wr.heap.size := rfl
          go_wp2_with fail
          refine (pickH_c g zs _ [2, 2, 2, 3, 4] 2 4 5 5 _ #[.int .i64 2, .int .i64 2, .int .i64 2, .int .i64 3, .int .i64 4] wr K.1.st (by omega) rfl rfl rfl (by decide) (by decide) (by simp)).mono ?_; rintro e w8 ⟨kv, hkv, rfl, kv0, kv1, s8, g8⟩
          have K8 := K.grown hO s8 g8
          have hz3 := lt_of_heap K8.1.b3
          have hU : ∀ b, u2.ownBlock = some b → b < w8.heap.size := fun b hb => (K8.1.own.lt b hb).2
          clear K s8 g8 c1 hlz
          obtain ⟨dv, hdv⟩ : ∃ v : ByteArray, Hid (pickV zs (k2 + 1) [⟨#[100, 97]⟩, ⟨#[100, 98]⟩] = v) := ⟨_, Lib.hid rfl⟩
          obtain ⟨nx, hnv⟩ : ∃ v : Int, Hid (nextV zs (k2 + 1 + 1) 130000 = v) := ⟨_, Lib.hid rfl⟩
          obtain ⟨v9, hv9⟩ : ∃ v : Int, Hid (pickV zs (k2 + 1 + 2) [9000, 16000, 30000, 31050, 32000, 61000, 61020, 90000, nx] = v) := ⟨_, Lib.hid rfl⟩
          obtain ⟨ln, hln⟩ : ∃ v : Int, Hid (pickV zs (k2 + 1 + 3) [1, 1, 2, 3] = v) := ⟨_, Lib.hid rfl⟩
          have hb0 : dv.size ≤ 100 := by
            have hm := @pickV_mem ByteArray _ zs (k2 + 1) [⟨#[100, 97]⟩, ⟨#[100, 98]⟩] (by simp)
            rw [hdv.out] at hm
            simp only [List.mem_cons, List.not_mem_nil, or_false] at hm
            rcases hm with h | h <;> (rw [h]; decide)
          have hSt := Lib.hid (show sgStep zs (1000 + 200000 * (jj : Int)) k2 D2 = if kv = 4 then putR zs (k2 + 6) D2 ⟨⟨#[100, 119]⟩, 0, kv, IntKind.i64.wrap ((1000 + 200000 * (jj : Int)) + v9), ln, 3000 + pickV zs (k2 + 5) [0, 20, 3000, 3110]⟩ else putR zs (k2 + 5) D2 ⟨dv, 0, kv, IntKind.i64.wrap ((1000 + 200000 * (jj : Int)) + v9), ln, 0⟩ by
            rw [← hln.out, ← hv9.out, ← hnv.out, ← hdv.out, ← hkv.out]; rfl)
          go_wp2_with fail
          refine wp_region_inv (by kernel_rfl) (fun listed a w' => ∃ xs : Nat → Value, a = { tmps := #[.pointer (some ⟨g, 0, none⟩), .pointer (some ⟨p1, 0, none⟩), .slice none 0 0, .pointer (some ⟨p2, 0, none⟩), .pointer (some ⟨p3, 0, none⟩), .func (Fn.func 167) #[] #[.pointer (some ⟨p3, 0, none⟩), .pointer (some ⟨p1, 0, none⟩), .pointer (some ⟨p2, 0, none⟩)], .int .i64 (1000 + 200000 * (jj : Int)), .int .i64 kv, xs 15, undef, .map (some pm), .func (Fn.func 167) #[] #[.pointer (some ⟨p3, 0, none⟩), .pointer (some ⟨p1, 0, none⟩), .pointer (some ⟨p2, 0, none⟩)], .pointer (some ⟨g, 0, none⟩), .slice (some ⟨bs, 0, none⟩) 3 3, .int .i64 (m : Int), .int .i64 (jj : Int), .bool true, .func (Fn.func 167) #[] #[.pointer (some ⟨p3, 0, none⟩), .pointer (some ⟨p1, 0, none⟩), .pointer (some ⟨p2, 0, none⟩)], .int .i64 (1000 + 200000 * (jj : Int)), .agg #[.string { data := #[100, 97] }, .int .i64 0, .int .i64 1, .int .i64 (1000 + 200000 * (jj : Int)), .int .i64 0, .int .i64 0], .tuple #[], .pointer (some ⟨g, 0, none⟩), .int .i64 (m2 : Int), .int .i64 (i2 : Int), .bool true, .pointer (some ⟨g, 0, none⟩), .slice (some ⟨wr.heap.size, 0, none⟩) 5 5, .int .i64 kv, xs 0, xs 1, xs 2, xs 3, xs 4, xs 5, xs 6, xs 7, xs 8, xs 9, xs 10, xs 11, xs 12, xs 13, xs 14, u43, u44, u45, u46, u47, u48, u49, u50, u51, u52, u53, u54, u55, u56, u57, undef, undef, undef, undef, undef, undef, undef, undef, undef, undef, undef, undef, undef, undef, undef, undef, undef, undef, undef, undef, undef, undef, undef, undef, undef, undef, undef, undef, undef, undef, undef, undef, undef, undef, undef, undef, undef, undef, undef, undef, undef, undef, undef, undef, undef, undef, undef, undef, undef, undef, undef], defers := [] } ∧ (∀ j, listed.getD j false = true → CF 3 9 [.val (.pointer (some ⟨g, 0, none⟩)), .strsV ([⟨#[100, 97]⟩, ⟨#[100, 98]⟩]), .val (.string dv), .val (.int .i64 kv), .val (.int .i64 (1000 + 200000 * (jj : Int))), .val (.pointer (some ⟨g, 0, none⟩)), .val (.pointer (some ⟨g, 0, none⟩)), .val (.int .i64 nx), .intsV ([9000, 16000, 30000, 31050, 32000, 61000, 61020, 90000, nx]), .val (.int .i64 v9), .val (.int .i64 (IntKind.i64.wrap ((1000 + 200000 * (jj : Int)) + v9))), .val (.pointer (some ⟨g, 0, none⟩)), .intsV ([1, 1, 2, 3]), .val (.int .i64 ln), .val (.agg #[.string dv, .int .i64 0, .int .i64 kv, .int .i64 (IntKind.i64.wrap ((1000 + 200000 * (jj : Int)) + v9)), .int .i64 ln, .int .i64 0]), .any, .any] j w' (xs j)) ∧ CH (fun m wx => St wx g zs (k4S (k2 + 1) m) ∧ w8.grownBy wx (some g)) [2, 7, 9, 13] [] listed w' ∧ W2S w8.heap.size ⟨dv, 0, kv, IntKind.i64.wrap ((1000 + 200000 * (jj : Int)) + v9), ln, 0⟩ (xs 15) listed w') ?h0 (AllOps.of ?hs) ?he
          case h0 => exact ⟨fun j => match j with | 0 => u28 | 1 => u29 | 2 => u30 | 3 => u31 | 4 => u32 | 5 => u33 | 6 => u34 | 7 => u35 | 8 => u36 | 9 => u37 | 10 => u38 | 11 => u39 | 12 => u40 | 13 => u41 | 14 => u42 | 15 => u8 | _ => undef, rfl, (fun j hj => by rw [rep_false] at hj; cases hj), CH.start ⟨K8.1.st.drew, grown_of_below (below_drewN (Below.refl _ _) 1)⟩, ⟨fun e => (by rw [rep_false] at e; cases e), fun e => (by rw [rep_false] at e; cases e)⟩⟩
          case hs =>
            refine ⟨?_, ?_, ?_, ?_, ?_, ?_, ?_, ?_, ?_, ?_, ?_, ?_, ?_, ?_, ?_, ?_, ?_, trivial⟩
            · intro listed a w' hs hI h0 hd K' hK
              obtain ⟨xs, rfl, hC, hW, hX2⟩ := hI
              have hK2 := Lib.hid hK
              have hC2 := Lib.hid hC
              obtain ⟨m9, hX9⟩ := hW.any
              have c9 := blk_cell (blk_grown K8.1.b1 hX9.2 (fun e => by have := hO.g0; have := hO.o1; injection e; omega)) 0 rfl
              clear hd hK hC
              go_simp
              clear h0
              exact hK2.out _ _ ⟨updV xs 0 (.pointer (some ⟨g, 0, none⟩)), by simp [updV], cond_set hC2.out (fun _ _ h => h) rfl, hW.keep (by decide) (by decide), W2S.step hX2 (by decide) (by decide) (fun _ _ h => h)⟩
            · intro listed a w' hs hI h0 hd K' hK
              obtain ⟨xs, rfl, hC, hW, hX2⟩ := hI
              have hK2 := Lib.hid hK
              have hC2 := Lib.hid hC
              clear hd hK hC h0
              go_simp
              exact hK2.out _ _ ⟨updV xs 1 (.slice (some ⟨w'.heap.size, 0, none⟩) 2 2), by simp [updV], cond_set hC2.out (fun j v h => SatF.alloc _ _ _ h) ⟨w'.heap.size, rfl, heap_alloc_new w' _⟩, (CH.alloc hW (fun m wx o h => ⟨h.1.alloc o, grown_alloc h.2 o⟩) _).keep (by decide) (by decide), W2S.step hX2 (by decide) (by decide) (fun _ _ h => blk_alloc h _)⟩
            · intro listed a w' hs hI h0 hd K' hK
              obtain ⟨xs, rfl, hC, hW, hX2⟩ := hI
              have e0 : xs 0 = (.pointer (some ⟨g, 0, none⟩)) := hC 0 (hd ⟨0, .data⟩ (by simp) rfl)
              obtain ⟨z1, e1, hz1⟩ : ∃ z : Nat, xs 1 = .slice (some ⟨z, 0, none⟩) 2 2 ∧ w'.heap[z]? = some (.cells (List.map Value.string [⟨#[100, 97]⟩, ⟨#[100, 98]⟩]).toArray 9 (0, 0)) := hC 1 (hd ⟨1, .data⟩ (by simp) rfl)
              have hK2 := Lib.hid hK
              have hC2 := Lib.hid hC
              obtain ⟨hX9, hnx⟩ := CH.step (j := 0) hW rfl h0 (.inl rfl) (fun p hp e => by cases hp) (by decide)
              have s9 : St w' g zs (k2 + 1) := hX9.1
              have r9 : RS 9 w' (some ⟨z1, 0, none⟩) 2 [⟨#[100, 97]⟩, ⟨#[100, 98]⟩] := R1.of_lit hz1 rfl rfl (by decide)
              clear h0
              clear hd hK hC
              go_simp
              refine (some_c g zs _ _ _ _ _ _ s9 (by omega) r9 (by decide)).mono ?_; rintro e w1 ⟨rfl, s10, g10⟩
              rw [hdv.out]
              exact hK2.out _ _ ⟨updV xs 2 (.string dv), by simp [updV, e0, e1], cond_set hC2.out (fun j v h => SatF.stream (s9.keep g10) (by decide) (by decide) _ _ h) rfl, hnx _ (⟨s10, grown_trans hX9.2 g10⟩), W2S.step hX2 (by decide) (by decide) (fun z cs h => s9.keep g10 z cs _ (0, 0) (by decide) h)⟩
            · intro listed a w' hs hI h0 hd K' hK
              obtain ⟨xs, rfl, hC, hW, hX2⟩ := hI
              have hK2 := Lib.hid hK
              have hC2 := Lib.hid hC
              clear hd hK hC h0
              go_simp
              exact hK2.out _ _ ⟨updV xs 3 (.int .i64 kv), by simp [updV], cond_set hC2.out (fun _ _ h => h) rfl, hW.keep (by decide) (by decide), W2S.step hX2 (by decide) (by decide) (fun _ _ h => h)⟩
            · intro listed a w' hs hI h0 hd K' hK
              obtain ⟨xs, rfl, hC, hW, hX2⟩ := hI
              have hK2 := Lib.hid hK
              have hC2 := Lib.hid hC
              clear hd hK hC h0
              go_simp
              exact hK2.out _ _ ⟨updV xs 4 (.int .i64 (1000 + 200000 * (jj : Int))), by simp [updV], cond_set hC2.out (fun _ _ h => h) rfl, hW.keep (by decide) (by decide), W2S.step hX2 (by decide) (by decide) (fun _ _ h => h)⟩
            · intro listed a w' hs hI h0 hd K' hK
              obtain ⟨xs, rfl, hC, hW, hX2⟩ := hI
              have hK2 := Lib.hid hK
              have hC2 := Lib.hid hC
              obtain ⟨m9, hX9⟩ := hW.any
              have c9 := blk_cell (blk_grown K8.1.b1 hX9.2 (fun e => by have := hO.g0; have := hO.o1; injection e; omega)) 0 rfl
              clear hd hK hC
              go_simp
              clear h0
              exact hK2.out _ _ ⟨updV xs 5 (.pointer (some ⟨g, 0, none⟩)), by simp [updV], cond_set hC2.out (fun _ _ h => h) rfl, hW.keep (by decide) (by decide), W2S.step hX2 (by decide) (by decide) (fun _ _ h => h)⟩
            · intro listed a w' hs hI h0 hd K' hK
              obtain ⟨xs, rfl, hC, hW, hX2⟩ := hI
              have hK2 := Lib.hid hK
              have hC2 := Lib.hid hC
              obtain ⟨m9, hX9⟩ := hW.any
              have c9 := blk_cell (blk_grown K8.1.b1 hX9.2 (fun e => by have := hO.g0; have := hO.o1; injection e; omega)) 0 rfl
              clear hd hK hC
              go_simp
              clear h0
              exact hK2.out _ _ ⟨updV xs 6 (.pointer (some ⟨g, 0, none⟩)), by simp [updV], cond_set hC2.out (fun _ _ h => h) rfl, hW.keep (by decide) (by decide), W2S.step hX2 (by decide) (by decide) (fun _ _ h => h)⟩
            · intro listed a w' hs hI h0 hd K' hK
              obtain ⟨xs, rfl, hC, hW, hX2⟩ := hI
              have e6 : xs 6 = (.pointer (some ⟨g, 0, none⟩)) := hC 6 (hd ⟨6, .data⟩ (by simp) rfl)
              have hK2 := Lib.hid hK
              have hC2 := Lib.hid hC
              obtain ⟨hX9, hnx⟩ := CH.step (j := 1) hW rfl h0 (.inr ⟨2, rfl, hd ⟨2, .chain⟩ (by simp) rfl⟩) (fun p hp e => by cases hp) (by decide)
              have s9 : St w' g zs (k2 + 1 + 1) := hX9.1
              clear h0
              clear hd hK hC
              go_simp
              refine (next_c g zs _ _ _ s9 (by omega) (by omega) (by omega)).mono ?_; rintro e w1 ⟨rfl, s10, g10⟩
              rw [hnv.out]
              exact hK2.out _ _ ⟨updV xs 7 (.int .i64 nx), by simp [updV, e6], cond_set hC2.out (fun j v h => SatF.stream (s9.keep g10) (by decide) (by decide) _ _ h) rfl, hnx _ (⟨s10, grown_trans hX9.2 g10⟩), W2S.step hX2 (by decide) (by decide) (fun z cs h => s9.keep g10 z cs _ (0, 0) (by decide) h)⟩
            · intro listed a w' hs hI h0 hd K' hK
              obtain ⟨xs, rfl, hC, hW, hX2⟩ := hI
              have e7 : xs 7 = (.int .i64 nx) := hC 7 (hd ⟨7, .data⟩ (by simp) rfl)
              have hK2 := Lib.hid hK
              have hC2 := Lib.hid hC
              clear hd hK hC h0
              go_simp
              exact hK2.out _ _ ⟨updV xs 8 (.slice (some ⟨w'.heap.size, 0, none⟩) 9 9), by simp [updV, e7], cond_set hC2.out (fun j v h => SatF.alloc _ _ _ h) ⟨w'.heap.size, rfl, heap_alloc_new w' _⟩, (CH.alloc hW (fun m wx o h => ⟨h.1.alloc o, grown_alloc h.2 o⟩) _).keep (by decide) (by decide), W2S.step hX2 (by decide) (by decide) (fun _ _ h => blk_alloc h _)⟩
            · intro listed a w' hs hI h0 hd K' hK
              obtain ⟨xs, rfl, hC, hW, hX2⟩ := hI
              have e5 : xs 5 = (.pointer (some ⟨g, 0, none⟩)) := hC 5 (hd ⟨5, .data⟩ (by simp) rfl)
              obtain ⟨z8, e8, hz8⟩ : ∃ z : Nat, xs 8 = .slice (some ⟨z, 0, none⟩) 9 9 ∧ w'.heap[z]? = some (.cells (ints [9000, 16000, 30000, 31050, 32000, 61000, 61020, 90000, nx]).toArray 3 (0, 0)) := hC 8 (hd ⟨8, .data⟩ (by simp) rfl)
              have hK2 := Lib.hid hK
              have hC2 := Lib.hid hC
              obtain ⟨hX9, hnx⟩ := CH.step (j := 2) hW rfl h0 (.inr ⟨7, rfl, hd ⟨7, .chain⟩ (by simp) rfl⟩) (fun p hp e => by cases hp) (by decide)
              have s9 : St w' g zs (k2 + 1 + 2) := hX9.1
              have r9 : RI 3 w' (some ⟨z8, 0, none⟩) 9 [9000, 16000, 30000, 31050, 32000, 61000, 61020, 90000, nx] := R1.of_lit hz8 rfl rfl (by decide)
              clear h0
              clear hd hK hC
              go_simp
              refine (pick_c g zs _ _ _ _ _ _ s9 (by omega) r9 (by decide)).mono ?_; rintro e w1 ⟨rfl, s10, g10⟩
              rw [hv9.out]
              exact hK2.out _ _ ⟨updV xs 9 (.int .i64 v9), by simp [updV, e5, e8], cond_set hC2.out (fun j v h => SatF.stream (s9.keep g10) (by decide) (by decide) _ _ h) rfl, hnx _ (⟨s10, grown_trans hX9.2 g10⟩), W2S.step hX2 (by decide) (by decide) (fun z cs h => s9.keep g10 z cs _ (0, 0) (by decide) h)⟩
            · intro listed a w' hs hI h0 hd K' hK
              obtain ⟨xs, rfl, hC, hW, hX2⟩ := hI
              have e4 : xs 4 = (.int .i64 (1000 + 200000 * (jj : Int))) := hC 4 (hd ⟨4, .data⟩ (by simp) rfl)
              have e9 : xs 9 = (.int .i64 v9) := hC 9 (hd ⟨9, .data⟩ (by simp) rfl)
              have hK2 := Lib.hid hK
              have hC2 := Lib.hid hC
              clear hd hK hC h0
              go_simp
              exact hK2.out _ _ ⟨updV xs 10 (.int .i64 (IntKind.i64.wrap ((1000 + 200000 * (jj : Int)) + v9))), by simp [updV, e4, e9], cond_set hC2.out (fun _ _ h => h) rfl, hW.keep (by decide) (by decide), W2S.step hX2 (by decide) (by decide) (fun _ _ h => h)⟩
            · intro listed a w' hs hI h0 hd K' hK
              obtain ⟨xs, rfl, hC, hW, hX2⟩ := hI
              have hK2 := Lib.hid hK
              have hC2 := Lib.hid hC
              obtain ⟨m9, hX9⟩ := hW.any
              have c9 := blk_cell (blk_grown K8.1.b1 hX9.2 (fun e => by have := hO.g0; have := hO.o1; injection e; omega)) 0 rfl
              clear hd hK hC
              go_simp
              clear h0
              exact hK2.out _ _ ⟨updV xs 11 (.pointer (some ⟨g, 0, none⟩)), by simp [updV], cond_set hC2.out (fun _ _ h => h) rfl, hW.keep (by decide) (by decide), W2S.step hX2 (by decide) (by decide) (fun _ _ h => h)⟩
            · intro listed a w' hs hI h0 hd K' hK
              obtain ⟨xs, rfl, hC, hW, hX2⟩ := hI
              have hK2 := Lib.hid hK
              have hC2 := Lib.hid hC
              clear hd hK hC h0
              go_simp
              exact hK2.out _ _ ⟨updV xs 12 (.slice (some ⟨w'.heap.size, 0, none⟩) 4 4), by simp [updV], cond_set hC2.out (fun j v h => SatF.alloc _ _ _ h) ⟨w'.heap.size, rfl, heap_alloc_new w' _⟩, (CH.alloc hW (fun m wx o h => ⟨h.1.alloc o, grown_alloc h.2 o⟩) _).keep (by decide) (by decide), W2S.step hX2 (by decide) (by decide) (fun _ _ h => blk_alloc h _)⟩
            · intro listed a w' hs hI h0 hd K' hK
              obtain ⟨xs, rfl, hC, hW, hX2⟩ := hI
              have e11 : xs 11 = (.pointer (some ⟨g, 0, none⟩)) := hC 11 (hd ⟨11, .data⟩ (by simp) rfl)
              obtain ⟨z12, e12, hz12⟩ : ∃ z : Nat, xs 12 = .slice (some ⟨z, 0, none⟩) 4 4 ∧ w'.heap[z]? = some (.cells (ints [1, 1, 2, 3]).toArray 3 (0, 0)) := hC 12 (hd ⟨12, .data⟩ (by simp) rfl)
              have hK2 := Lib.hid hK
              have hC2 := Lib.hid hC
              obtain ⟨hX9, hnx⟩ := CH.step (j := 3) hW rfl h0 (.inr ⟨9, rfl, hd ⟨9, .chain⟩ (by simp) rfl⟩) (fun p hp e => by cases hp) (by decide)
              have s9 : St w' g zs (k2 + 1 + 3) := hX9.1
              have r9 : RI 3 w' (some ⟨z12, 0, none⟩) 4 [1, 1, 2, 3] := R1.of_lit hz12 rfl rfl (by decide)
              clear h0
              clear hd hK hC
              go_simp
              refine (pick_c g zs _ _ _ _ _ _ s9 (by omega) r9 (by decide)).mono ?_; rintro e w1 ⟨rfl, s10, g10⟩
              rw [hln.out]
              exact hK2.out _ _ ⟨updV xs 13 (.int .i64 ln), by simp [updV, e11, e12], cond_set hC2.out (fun j v h => SatF.stream (s9.keep g10) (by decide) (by decide) _ _ h) rfl, hnx _ (⟨s10, grown_trans hX9.2 g10⟩), W2S.step hX2 (by decide) (by decide) (fun z cs h => s9.keep g10 z cs _ (0, 0) (by decide) h)⟩
            · intro listed a w' hs hI h0 hd K' hK
              obtain ⟨xs, rfl, hC, hW, hX2⟩ := hI
              have e2 : xs 2 = (.string dv) := hC 2 (hd ⟨2, .data⟩ (by simp) rfl)
              have e3 : xs 3 = (.int .i64 kv) := hC 3 (hd ⟨3, .data⟩ (by simp) rfl)
              have e10 : xs 10 = (.int .i64 (IntKind.i64.wrap ((1000 + 200000 * (jj : Int)) + v9))) := hC 10 (hd ⟨10, .data⟩ (by simp) rfl)
              have e13 : xs 13 = (.int .i64 ln) := hC 13 (hd ⟨13, .data⟩ (by simp) rfl)
              have hK2 := Lib.hid hK
              have hC2 := Lib.hid hC
              clear hd hK hC h0
              go_simp
              exact hK2.out _ _ ⟨updV xs 14 (.agg #[.string dv, .int .i64 0, .int .i64 kv, .int .i64 (IntKind.i64.wrap ((1000 + 200000 * (jj : Int)) + v9)), .int .i64 ln, .int .i64 0]), by simp [updV, e2, e3, e10, e13], cond_set hC2.out (fun _ _ h => h) rfl, hW.keep (by decide) (by decide), W2S.step hX2 (by decide) (by decide) (fun _ _ h => h)⟩
            · intro listed a w' hs hI h0 hd K' hK
              obtain ⟨xs, rfl, hC, hW, hX2⟩ := hI
              have hK2 := Lib.hid hK
              have hC2 := Lib.hid hC
              obtain ⟨m9, hX9⟩ := hW.any
              have hsz9 := hX9.2.size
              clear hd hK hC
              go_simp
              exact hK2.out _ _ ⟨updV xs 15 (.pointer (some ⟨w'.heap.size, 0, none⟩)), by simp [updV], cond_set hC2.out (fun j v h => SatF.alloc _ _ _ h) trivial, (CH.alloc hW (fun m wx o h => ⟨h.1.alloc o, grown_alloc h.2 o⟩) _).keep (by decide) (by decide), W2S.alloc15 hX2 h0 hsz9⟩
            · intro listed a w' hs hI h0 hd K' hK
              obtain ⟨xs, rfl, hC, hW, hX2⟩ := hI
              have e14 : xs 14 = (.agg #[.string dv, .int .i64 0, .int .i64 kv, .int .i64 (IntKind.i64.wrap ((1000 + 200000 * (jj : Int)) + v9)), .int .i64 ln, .int .i64 0]) := hC 14 (hd ⟨14, .data⟩ (by simp) rfl)
              obtain hT15 : True := hC 15 (hd ⟨15, .data⟩ (by simp) rfl)
              have hK2 := Lib.hid hK
              have hC2 := Lib.hid hC
              have hl15 : listed.getD 15 false = true := hd ⟨15, .data⟩ (by simp) rfl
              obtain ⟨z15, ⟨u0_, u1_, u2_, u3_, u4_, u5_⟩, e15, lo15, hz15, _⟩ := hX2.1 hl15
              replace hz15 : w'.heap[z15]? = some (.cells #[.string u0_, .int .i64 u1_, .int .i64 u2_, .int .i64 u3_, .int .i64 u4_, .int .i64 u5_] 55 (0, 0)) := hz15
              have c0_ := (blk_facts hz15).1 0
              have c1_ := (blk_facts hz15).1 1
              have c2_ := (blk_facts hz15).1 2
              have c3_ := (blk_facts hz15).1 3
              have c4_ := (blk_facts hz15).1 4
              have c5_ := (blk_facts hz15).1 5
              have f0_ := (blk_facts hz15).2 0
              have f1_ := (blk_facts hz15).2 1
              have f2_ := (blk_facts hz15).2 2
              have f3_ := (blk_facts hz15).2 3
              have f4_ := (blk_facts hz15).2 4
              have f5_ := (blk_facts hz15).2 5
              have hgw := K8.1.st.lt
              clear hd hK hC h0
              go_simp
              have p0_ := hz15
              have p1_ := blk_set p0_ 0 (.string dv)
              have p2_ := blk_set p1_ 1 (.int .i64 0)
              have p3_ := blk_set p2_ 2 (.int .i64 kv)
              have p4_ := blk_set p3_ 3 (.int .i64 (IntKind.i64.wrap ((1000 + 200000 * (jj : Int)) + v9)))
              have p5_ := blk_set p4_ 4 (.int .i64 ln)
              have p6_ := blk_set p5_ 5 (.int .i64 0)
              exact hK2.out _ _ ⟨updV xs 16 (undef), by simp [updV, e14, e15], cond_set hC2.out (fun j v h => SatF.set p5_ (by decide) (by decide) _ _ (SatF.set p4_ (by decide) (by decide) _ _ (SatF.set p3_ (by decide) (by decide) _ _ (SatF.set p2_ (by decide) (by decide) _ _ (SatF.set p1_ (by decide) (by decide) _ _ (SatF.set p0_ (by decide) (by decide) _ _ (h))))))) trivial, (hW.mapw (fun m h => setS hgw lo15 _ _ (setS hgw lo15 _ _ (setS hgw lo15 _ _ (setS hgw lo15 _ _ (setS hgw lo15 _ _ (setS hgw lo15 _ _ (h)))))))).keep (by decide) (by decide), ⟨fun _ => ⟨z15, ⟨dv, 0, kv, IntKind.i64.wrap ((1000 + 200000 * (jj : Int)) + v9), ln, 0⟩, e15, lo15, p6_, fun _ => rfl⟩, fun _ => getD_mono9 hl15⟩⟩
          case he =>
            intro listed a w' hs hI hr
            obtain ⟨xs, rfl, hC, hW, hX2⟩ := hI
            have hl13 := all_listed hs hr ⟨rfl, rfl, rfl, rfl, rfl, rfl, rfl, rfl, rfl, rfl, rfl, rfl, rfl, rfl, rfl, rfl, rfl, trivial⟩ 13 (by simp)
            have hl15 := all_listed hs hr ⟨rfl, rfl, rfl, rfl, rfl, rfl, rfl, rfl, rfl, rfl, rfl, rfl, rfl, rfl, rfl, rfl, rfl, trivial⟩ 15 (by simp)
            have hl16 := all_listed hs hr ⟨rfl, rfl, rfl, rfl, rfl, rfl, rfl, rfl, rfl, rfl, rfl, rfl, rfl, rfl, rfl, rfl, rfl, trivial⟩ 16 (by simp)
            obtain ⟨m9, hm9, hX9⟩ := hW.fin (j := 3) rfl hl13
            obtain ⟨bz, bx, be, blo, hbz, hbx⟩ := hX2.1 hl15
            obtain rfl := hbx hl16
            clear hW hC hs hr hl13 hl15 hl16 hX2 hbx
            obtain ⟨m8, rfl⟩ : ∃ m8, m9 = m8 + 4 := ⟨m9 - 4, by omega⟩
            have s9 : St w' g zs (k2 + 1 + 4) := hX9.1
            have g9 := hX9.2
            clear hX9
            try dsimp only
            have K9 := K8.grown hO s9 g9
            clear K8 s9 g9
            have hz6 : p3 < bz := by omega
            have hlu : u2.ownBlock = none ∨ u2.ownBlock ≠ some bz := by
              cases hv : u2.ownBlock with
              | none => exact .inl rfl
              | some b => exact .inr (fun e => by have := (hU b hv); injection e; omega)
            replace hbz : w'.heap[bz]? = some (.cells #[.string dv, .int .i64 0, .int .i64 kv, .int .i64 (IntKind.i64.wrap ((1000 + 200000 * (jj : Int)) + v9)), .int .i64 ln, .int .i64 0] 55 (0, 0)) := hbz
            have y0 := (blk_facts hbz).1 0
            have y1 := (blk_facts hbz).1 1
            have y2 := (blk_facts hbz).1 2
            have y3 := (blk_facts hbz).1 3
            have y4 := (blk_facts hbz).1 4
            have y5 := (blk_facts hbz).1 5
            have c1 := (blk_facts K9.1.b1).1 0
            clear hdv hnv hv9 hln hkv
            generalize IntKind.i64.wrap ((1000 + 200000 * (jj : Int)) + v9) = tm at *
            by_cases h4 : kv = 4
            · subst h4
              have hSt4 := Lib.hid (show sgStep zs (1000 + 200000 * (jj : Int)) k2 D2 = putR zs (k2 + 6) D2 ⟨⟨#[100, 119]⟩, 0, 4, tm, ln, 3000 + pickV zs (k2 + 5) [0, 20, 3000, 3110]⟩ by rw [hSt.out, if_pos rfl])
              clear hSt
              have hlz : w'.heap.size = w'.heap.size := rfl
              go_wp2_with fail
              refine (pickH_c g zs _ [0, 20, 3000, 3110] 0 3110 4 4 _ #[.int .i64 0, .int .i64 20, .int .i64 3000, .int .i64 3110] w' K9.1.st (by omega) rfl rfl rfl (by decide) (by decide) (by simp)).mono ?_; rintro e w10 ⟨pv, hpv, rfl, pv0, pv1, s10, g10⟩
              have K10 := K9.grown hO s10 g10
              have hbz10 := blk_grown hbz g10 (fun e => by have := hO.g0; have := hO.o1; have := hO.o2; have := hO.o3; have := hO.o4; injection e; omega)
              have u1 : IntKind.i64.wrap (3000 + pv) = 3000 + pv := IntWalk.i64_in _ (by omega)
              have z0 := (blk_facts hbz10).1 0
              have z5 := (blk_facts hbz10).1 5
              have f0 := (blk_facts hbz10).2 0
              have f5 := (blk_facts hbz10).2 5
              have hbn := blk_set (blk_set hbz10 0 (.string ⟨#[100, 119]⟩)) 5 (.int .i64 (3000 + pv))
              have x0 := (blk_facts hbn).1 0
              have x1 := (blk_facts hbn).1 1
              have x2 := (blk_facts hbn).1 2
              have x3 := (blk_facts hbn).1 3
              have x4 := (blk_facts hbn).1 4
              have x5 := (blk_facts hbn).1 5
              have KN := K10.other hO hbz10 hz6 hlu (w' := (w10.setCell ⟨bz, 0, none⟩ (.string ⟨#[100, 119]⟩)).setCell ⟨bz, 5, none⟩ (.int .i64 (3000 + pv))) (grown_setCell (grown_setCell (grown_refl w10 _) (p := ⟨bz, 0, none⟩) (.inl rfl) _) (p := ⟨bz, 5, none⟩) (.inl rfl) _)
              clear hbz hbz10 hbn y0 y1 y2 y3 y4 y5 K9 K10 s10 g10 c1 hlz
              go_wp2_with fail
              refine (sigPutF_c w g zs p1 p2 pm p3 bs hO u2 acc2 (k2 + 1 + 4 + 1) q2 D2 ⟨⟨#[100, 119]⟩, 0, 4, tm, ln, 3000 + pv⟩ (by show ByteArray.size ⟨#[100, 119]⟩ ≤ 100; decide) _ KN (by omega) (by omega) (by omega)).mono ?_; rintro e w11 ⟨rfl, u11, K11⟩
              obtain ⟨y11, hy11⟩ : ∃ y, putY zs (k2 + 1 + 4 + 1) D2 ⟨⟨#[100, 119]⟩, 0, 4, tm, ln, 3000 + pv⟩ = y := ⟨_, rfl⟩
              obtain ⟨D11, hD11⟩ : ∃ y, putD zs (k2 + 1 + 4 + 1) D2 ⟨#[100, 119]⟩ = y := ⟨_, rfl⟩
              replace K11 : SKF w g zs p1 p2 pm p3 bs u11 (acc2 ++ [y11]) (k2 + 1 + 4 + 1 + 1) (q2 + 1) D11 w11 := by rw [← hy11, ← hD11]; exact K11
              have hGn := Lib.hid (show ((acc2 ++ [y11]) ++ (IN (m2 - (i2 + 1)) (k2 + 1 + 4 + 1 + 1) D11).1, (IN (m2 - (i2 + 1)) (k2 + 1 + 4 + 1 + 1) D11).2) = (acc6 ++ L2, k9, D9) by
                have hS9 : sgStep zs (1000 + 200000 * (jj : Int)) k2 D2 = (y11, k2 + 1 + 4 + 1 + 1, D11) := by rw [hSt4.out, hpv.out, ← hy11, ← hD11]; rfl
                rw [← hGi.out, show m2 - i2 = (m2 - (i2 + 1)) + 1 by omega, hIs.out, hS9, List.append_assoc]; rfl)
              clear hy11 hD11 hGi
              have hl11 : (acc2 ++ [y11]).length = acc2.length + 1 := List.length_append
              generalize acc2 ++ [y11] = acc11 at *
              clear KN z0 z5 f0 f5 x0 x1 x2 x3 x4 x5 u1
              go_wp2
              go_roundw
              case rel => exact ⟨i2 + 1, _, q2 + 1, u11, acc11, D11, by omega, by go_num, K11, by omega, by omega, by omega, hGn⟩
              case measure => simp [intOf]; omega
            · have h4b : (kv == 4) = false := by simpa using h4
              have h4n := Lib.hid h4
              clear h4
              go_wp2_with fail
              refine (sigPutF_c w g zs p1 p2 pm p3 bs hO u2 acc2 (k2 + 1 + 4) q2 D2 ⟨dv, 0, kv, tm, ln, 0⟩ hb0 _ K9 (by omega) (by omega) (by omega)).mono ?_; rintro e w11 ⟨rfl, u11, K11⟩
              obtain ⟨y11, hy11⟩ : ∃ y, putY zs (k2 + 1 + 4) D2 ⟨dv, 0, kv, tm, ln, 0⟩ = y := ⟨_, rfl⟩
              obtain ⟨D11, hD11⟩ : ∃ y, putD zs (k2 + 1 + 4) D2 dv = y := ⟨_, rfl⟩
              replace K11 : SKF w g zs p1 p2 pm p3 bs u11 (acc2 ++ [y11]) (k2 + 1 + 4 + 1) (q2 + 1) D11 w11 := by rw [← hy11, ← hD11]; exact K11
              have hGn := Lib.hid (show ((acc2 ++ [y11]) ++ (IN (m2 - (i2 + 1)) (k2 + 1 + 4 + 1) D11).1, (IN (m2 - (i2 + 1)) (k2 + 1 + 4 + 1) D11).2) = (acc6 ++ L2, k9, D9) by
                have hS9 : sgStep zs (1000 + 200000 * (jj : Int)) k2 D2 = (y11, k2 + 1 + 4 + 1, D11) := by rw [hSt.out, if_neg h4n.out, ← hy11, ← hD11]; rfl
                rw [← hGi.out, show m2 - i2 = (m2 - (i2 + 1)) + 1 by omega, hIs.out, hS9, List.append_assoc]; rfl)
              clear hy11 hD11 hGi
              have hl11 : (acc2 ++ [y11]).length = acc2.length + 1 := List.length_append
              generalize acc2 ++ [y11] = acc11 at *
              clear K9 y0 y1 y2 y3 y4 y5 c1 hbz
              go_wp2
              go_roundw
              case rel => exact ⟨i2 + 1, _, q2 + 1, u11, acc11, D11, by omega, by go_num, K11, by omega, by omega, by omega, hGn⟩
              case measure => simp [intOf]; omega
        · obtain rfl : i2 = m2 := by omega
          have hGo := Lib.hid (show (acc2 ++ (OUT (m - (jj + 1)) (jj + 1) k2 D2).1, (OUT (m - (jj + 1)) (jj + 1) k2 D2).2) = TOT by
            have h1 := hGi.out
            rw [Nat.sub_self, hI0.out, List.append_nil] at h1
            injection h1 with h1 h2
            injection h2 with h2 h3
            rw [h1, h2, h3]
            exact hOt.out)
          clear hGi hOt hIs hI0 hSI
          have u1 : IntKind.i64.wrap (1000 + 200000 * (jj : Int) + 200000) = 1000 + 200000 * (jj : Int) + 200000 := IntWalk.i64_in _ (by omega)
          go_wp2
          go_roundw
          case rel => exact ⟨jj + 1, k2, q2, u2, acc2, D2, by omega, by go_num, by rw [show (1000 + 200000 * (jj : Int) + 200000) = 1000 + 200000 * ((jj + 1 : Nat) : Int) by omega], K, by omega, by omega, by omega, hGo⟩
          case measure => simp [intOf]; omega
    · obtain rfl : jj = m := by omega
      have hV3 := Lib.hid (show RV = sgFin zs kk (insL (ltOf sgDf) acc) by
        have h1 := hG.out
        rw [Nat.sub_self, hO0.out, List.append_nil] at h1
        rw [hV2.out, ← h1]; rfl)
      clear hG hV2 hOs hO0 hTOT
      have c2 := (blk_facts K.1.b2).1 0
      go_wp2_with fail
      refine (sgSortM_c acc _ bs acc.length u K.1.own (by omega)).mono ?_; rintro e w6 ⟨rfl, ho6, hg6⟩
      have hbb6 : ∀ i, u.ownBlock = some i → p3 < i := fun i hi => by have := own_row_lt K.1.own i hi; omega
      have c61 := blk_grown K.1.b1 hg6 (fun e => by have := hbb6 _ e.symm; omega)
      have c62 := blk_grown K.1.b2 hg6 (fun e => by have := hbb6 _ e.symm; omega)
      have s6 := K.1.st.grown hg6 (fun i e => by have := hbb6 i e; have := hO.g0; have := hO.o1; omega)
      have gr6 := grown_own K.1.gr hg6 (fun i e => by have := hbb6 i e; have := hO.o1; omega)
      have hl6 : (insL (ltOf sgDf) acc).length = acc.length := insL_len _ _
      generalize insL (ltOf sgDf) acc = l6 at *
      obtain ⟨A, c, rfl⟩ := own_shape ho6
      have hn1 : 1 ≤ acc.length := by omega
      have hn18 : acc.length ≤ 18 := by omega
      have c1 := (blk_facts c61).1 0
      generalize acc.length = n at *
      obtain ⟨b, rfl, hbb⟩ := own_someN ho6 hn1
      clear c2 hg6 K hbb6
      go_wp2_with fail
      refine (flipH_c g zs kk _ _ s6 (by omega) (by omega) (by omega)).mono ?_; rintro e w7 ⟨fl, hfl, rfl, s7, g7⟩
      have hgp : g < p1 := by have := hO.g0; have := hO.o1; omega
      have ho7 := own_keep ho6 (by omega) g7
      have c71 := blk_grown c61 g7 (fun e => by injection e; omega)
      have c72 := blk_grown c62 g7 (fun e => by injection e; omega)
      have gr7 := grown_trans gr6 g7
      clear s6 ho6 c61 c62 gr6 g7 c1
      have hV4a := hV3.out
      unfold sgFin at hV4a
      rw [hfl.out, hl6] at hV4a
      have hV4 := Lib.hid hV4a
      clear hV3 hfl hV4a
      cases fl
      · have c2 := (blk_facts c72).1 0
        go_wp2
        go_ret
        have hRV : RV = (l6, kk + 1) := hV4.out
        subst hRV
        exact ⟨_, n, c, rfl, own_mono ho7 (by have := hO.o1; omega), hl6, hn1, hn18, s7, (by dsimp only; omega), gr7⟩
      · have hni : (1 : Int) ≤ (n : Int) := by omega
        obtain ⟨q, hq, hqn⟩ : ∃ q : Nat, Hid (nextV zs (kk + 1) (n : Int) = (q : Int)) ∧ q < n := by
          have hb1 := (@nextV_bd zs (kk + 1) (n : Int) (by omega)).1
          have hb2 := (@nextV_bd zs (kk + 1) (n : Int) (by omega)).2
          exact ⟨(nextV zs (kk + 1) (n : Int)).toNat, Lib.hid (by omega), by omega⟩
        go_wp2_with fail
        refine wp_region_inv (by kernel_rfl) (fun listed a w' => ∃ xs : Nat → Value, a = { tmps := #[.pointer (some ⟨g, 0, none⟩), .pointer (some ⟨p1, 0, none⟩), .slice none 0 0, .pointer (some ⟨p2, 0, none⟩), .pointer (some ⟨p3, 0, none⟩), .func (Fn.func 167) #[] #[.pointer (some ⟨p3, 0, none⟩), .pointer (some ⟨p1, 0, none⟩), .pointer (some ⟨p2, 0, none⟩)], .int .i64 (1000 + 200000 * (jj : Int)), u7, u8, xs 6, .map (some pm), .func (Fn.func 167) #[] #[.pointer (some ⟨p3, 0, none⟩), .pointer (some ⟨p1, 0, none⟩), .pointer (some ⟨p2, 0, none⟩)], .pointer (some ⟨g, 0, none⟩), .slice (some ⟨bs, 0, none⟩) 3 3, .int .i64 (jj : Int), .int .i64 (jj : Int), .bool false, u17, u18, u19, u20, u21, u22, u23, u24, u25, u26, u27, u28, u29, u30, u31, u32, u33, u34, u35, u36, u37, u38, u39, u40, u41, u42, u43, u44, u45, u46, u47, u48, u49, u50, u51, u52, u53, u54, u55, u56, u57, .slice (some ⟨b, 0, none⟩) n c, .tuple #[], .pointer (some ⟨g, 0, none⟩), .bool true, xs 0, xs 1, xs 2, xs 3, xs 4, xs 5, undef, undef, undef, undef, undef, undef, undef, undef, undef, undef, undef, undef, undef, undef, undef, undef, undef, undef, undef, undef, undef, undef, undef, undef, undef, undef, undef, undef, undef, undef, undef, undef, undef, undef, undef, undef, undef, undef, undef, undef, undef], defers := [] } ∧ (∀ j, listed.getD j false = true → CF 3 9 [.val (.slice (some ⟨b, 0, none⟩) n c), .val (.pointer (some ⟨g, 0, none⟩)), .val (.slice (some ⟨b, 0, none⟩) n c), .val (.int .i64 (n : Int)), .val (.int .i64 (q : Int)), .val (.pointer (some ⟨b, q * 6, none⟩)), .val (.pointer (some ⟨b, q * 6, none⟩))] j w' (xs j)) ∧ CH (RowX w7 g zs 55 sgE 6 bs b n c (k1S (kk + 1)) (fun _ => l6)) [4] [] listed w') ?h0 (AllOps.of ?hs) ?he
        case h0 => exact ⟨fun j => match j with | 0 => undef | 1 => undef | 2 => undef | 3 => undef | 4 => undef | 5 => undef | 6 => undef | _ => undef, rfl, (fun j hj => by rw [rep_false] at hj; cases hj), CH.start (RowX.start s7 ho7)⟩
        case hs =>
          refine ⟨?_, ?_, ?_, ?_, ?_, ?_, ?_, trivial⟩
          · intro listed a w' hs hI h0 hd K' hK
            obtain ⟨xs, rfl, hC, hW⟩ := hI
            have hK2 := Lib.hid hK
            have hC2 := Lib.hid hC
            obtain ⟨m9, hX9⟩ := hW.any
            have c9 := hX9.cell (blk_cell c72 0 rfl) (by show p2 ≠ g; omega) (by show p2 ≠ b; omega)
            clear hd hK hC
            go_simp
            clear h0
            exact hK2.out _ _ ⟨updV xs 0 (.slice (some ⟨b, 0, none⟩) n c), by simp [updV], cond_set hC2.out (fun _ _ h => h) rfl, hW.keep (by decide) (by decide)⟩
          · intro listed a w' hs hI h0 hd K' hK
            obtain ⟨xs, rfl, hC, hW⟩ := hI
            have hK2 := Lib.hid hK
            have hC2 := Lib.hid hC
            obtain ⟨m9, hX9⟩ := hW.any
            have c9 := hX9.cell (blk_cell c71 0 rfl) (by show p1 ≠ g; omega) (by show p1 ≠ b; omega)
            clear hd hK hC
            go_simp
            clear h0
            exact hK2.out _ _ ⟨updV xs 1 (.pointer (some ⟨g, 0, none⟩)), by simp [updV], cond_set hC2.out (fun _ _ h => h) rfl, hW.keep (by decide) (by decide)⟩
          · intro listed a w' hs hI h0 hd K' hK
            obtain ⟨xs, rfl, hC, hW⟩ := hI
            have hK2 := Lib.hid hK
            have hC2 := Lib.hid hC
            obtain ⟨m9, hX9⟩ := hW.any
            have c9 := hX9.cell (blk_cell c72 0 rfl) (by show p2 ≠ g; omega) (by show p2 ≠ b; omega)
            clear hd hK hC
            go_simp
            clear h0
            exact hK2.out _ _ ⟨updV xs 2 (.slice (some ⟨b, 0, none⟩) n c), by simp [updV], cond_set hC2.out (fun _ _ h => h) rfl, hW.keep (by decide) (by decide)⟩
          · intro listed a w' hs hI h0 hd K' hK
            obtain ⟨xs, rfl, hC, hW⟩ := hI
            have e2 : xs 2 = (.slice (some ⟨b, 0, none⟩) n c) := hC 2 (hd ⟨2, .data⟩ (by simp) rfl)
            have hK2 := Lib.hid hK
            have hC2 := Lib.hid hC
            clear hd hK hC h0
            go_simp
            exact hK2.out _ _ ⟨updV xs 3 (.int .i64 (n : Int)), by simp [updV, e2], cond_set hC2.out (fun _ _ h => h) rfl, hW.keep (by decide) (by decide)⟩
          · intro listed a w' hs hI h0 hd K' hK
            obtain ⟨xs, rfl, hC, hW⟩ := hI
            have e1 : xs 1 = (.pointer (some ⟨g, 0, none⟩)) := hC 1 (hd ⟨1, .data⟩ (by simp) rfl)
            have e3 : xs 3 = (.int .i64 (n : Int)) := hC 3 (hd ⟨3, .data⟩ (by simp) rfl)
            have hK2 := Lib.hid hK
            have hC2 := Lib.hid hC
            obtain ⟨hX9, hnx⟩ := CH.step (j := 0) hW rfl h0 (.inl rfl) (fun p hp e => by cases hp) (by decide)
            have s9 : St w' g zs (kk + 1) := hX9.st
            clear h0
            clear hd hK hC
            go_simp
            refine (next_c g zs _ _ _ s9 (by omega) (by omega) (by omega)).mono ?_; rintro e w1 ⟨rfl, s10, g10⟩
            rw [hq.out]
            exact hK2.out _ _ ⟨updV xs 4 (.int .i64 (q : Int)), by simp [updV, e1, e3], cond_set hC2.out (fun j v h => SatF.stream (s9.keep g10) (by decide) (by decide) _ _ h) rfl, hnx _ (hX9.call (by omega) s10 g10 rfl)⟩
          · intro listed a w' hs hI h0 hd K' hK
            obtain ⟨xs, rfl, hC, hW⟩ := hI
            have e0 : xs 0 = (.slice (some ⟨b, 0, none⟩) n c) := hC 0 (hd ⟨0, .data⟩ (by simp) rfl)
            have e4 : xs 4 = (.int .i64 (q : Int)) := hC 4 (hd ⟨4, .data⟩ (by simp) rfl)
            have hK2 := Lib.hid hK
            have hC2 := Lib.hid hC
            have i8_ : (q : Int) < n := by omega
            clear hd hK hC h0
            go_simp
            exact hK2.out _ _ ⟨updV xs 5 (.pointer (some ⟨b, q * 6, none⟩)), by simp [updV, e0, e4], cond_set hC2.out (fun _ _ h => h) rfl, hW.keep (by decide) (by decide)⟩
          · intro listed a w' hs hI h0 hd K' hK
            obtain ⟨xs, rfl, hC, hW⟩ := hI
            have e5 : xs 5 = (.pointer (some ⟨b, q * 6, none⟩)) := hC 5 (hd ⟨5, .data⟩ (by simp) rfl)
            have hK2 := Lib.hid hK
            have hC2 := Lib.hid hC
            clear hd hK hC h0
            go_simp
            exact hK2.out _ _ ⟨updV xs 6 (.pointer (some ⟨b, q * 6, none⟩)), by simp [updV, e5], cond_set hC2.out (fun _ _ h => h) rfl, hW.keep (by decide) (by decide)⟩
        case he =>
          intro listed a w' hs hI hr
          obtain ⟨xs, rfl, hC, hW⟩ := hI
          have hl9 := all_listed hs hr ⟨rfl, rfl, rfl, rfl, rfl, rfl, rfl, trivial⟩ 4 (by simp)
          have e6 : xs 6 = .pointer (some ⟨b, q * 6, none⟩) := hC 6 (all_listed hs hr ⟨rfl, rfl, rfl, rfl, rfl, rfl, rfl, trivial⟩ 6 (by simp))
          obtain ⟨m9, hm9, hX9⟩ := hW.fin (j := 0) rfl hl9
          clear hC hs hr hW hl9
          obtain ⟨m8, rfl⟩ : ∃ m8, m9 = m8 + 1 := ⟨m9 - 1, by omega⟩
          have s9 : St w' g zs (kk + 1 + 1) := hX9.st
          have ho9 := hX9.own
          have c91 : w'.heap[p1]? = _ := (hX9.blocks p1 (lt_of_heap c71) (by omega) (by omega)).trans c71
          have c92 : w'.heap[p2]? = _ := (hX9.blocks p2 (lt_of_heap c72) (by omega) (by omega)).trans c72
          have gr9 := hX9.out gr7 (by have := hO.o1; omega)
          clear hX9
          clear s7 ho7 c71 c72 gr7
          have hgb : g < bs := by omega
          have hp1b : p1 ≠ b := by omega
          rename World => w20
          rename Nat → Value => ys
          rw [e6]
          clear e6
          obtain ⟨x, hx⟩ := at_of_lt (l := l6) (k := q) (by omega)
          have hV5a := hV4.out
          rw [if_pos trivial, hq.out, Int.toNat_natCast, List.getD_eq_getElem?_getD, hx, Option.getD_some] at hV5a
          obtain ⟨xdev, xno, xkd, xtm, xln, xti⟩ := x
          dsimp only at hV5a
          obtain ⟨a10, ha10⟩ : ∃ v : ByteArray, Hid (pickV zs (kk + 2) [xdev, ⟨#[]⟩, ⟨#[100, 97]⟩] = v) := ⟨_, Lib.hid rfl⟩
          obtain ⟨a17, ha17⟩ : ∃ v : Int, Hid (pickV zs (kk + 3) [xno, 0, 1] = v) := ⟨_, Lib.hid rfl⟩
          obtain ⟨a24, ha24⟩ : ∃ v : Int, Hid (pickV zs (kk + 4) [xln, 0, 11] = v) := ⟨_, Lib.hid rfl⟩
          obtain ⟨a31, ha31⟩ : ∃ v : Int, Hid (pickV zs (kk + 5) [xti, 0, 1] = v) := ⟨_, Lib.hid rfl⟩
          rw [ha10.out, ha17.out, ha24.out, ha31.out] at hV5a
          have hV5 := Lib.hid hV5a
          clear hV4 hq hV5a
          have hlo : ∀ m, m ≤ 4 → (sgLf l6 q ⟨xdev, xno, xkd, xtm, xln, xti⟩ a10 a17 a24 a31 m)[q]? = some ⟨xdev, xno, xkd, xtm, xln, xti⟩ := fun m hm => by
            match m, hm with
            | 0, _ => exact hx
            | 1, _ => exact hx
            | 2, _ => exact hx
            | 3, _ => exact hx
            | 4, _ => exact hx
          have hl0 : (sgLf l6 q ⟨xdev, xno, xkd, xtm, xln, xti⟩ a10 a17 a24 a31 4)[q]? = some ⟨xdev, xno, xkd, xtm, xln, xti⟩ := hx
          have hl1 : (sgLf l6 q ⟨xdev, xno, xkd, xtm, xln, xti⟩ a10 a17 a24 a31 5)[q]? = some ⟨a10, xno, xkd, xtm, xln, xti⟩ := List.getElem?_set_self (lt_of_at hl0)
          have hl2 : (sgLf l6 q ⟨xdev, xno, xkd, xtm, xln, xti⟩ a10 a17 a24 a31 6)[q]? = some ⟨a10, a17, xkd, xtm, xln, xti⟩ := List.getElem?_set_self (lt_of_at hl1)
          have hl3 : (sgLf l6 q ⟨xdev, xno, xkd, xtm, xln, xti⟩ a10 a17 a24 a31 7)[q]? = some ⟨a10, a17, xkd, xtm, a24, xti⟩ := List.getElem?_set_self (lt_of_at hl2)
          clear hx
          go_wp2_with fail
          refine wp_region_inv (by kernel_rfl) (fun listed a w' => ∃ xs : Nat → Value, a = { tmps := #[.pointer (some ⟨g, 0, none⟩), .pointer (some ⟨p1, 0, none⟩), .slice none 0 0, .pointer (some ⟨p2, 0, none⟩), .pointer (some ⟨p3, 0, none⟩), .func (Fn.func 167) #[] #[.pointer (some ⟨p3, 0, none⟩), .pointer (some ⟨p1, 0, none⟩), .pointer (some ⟨p2, 0, none⟩)], .int .i64 (1000 + 200000 * (jj : Int)), u7, u8, .pointer (some ⟨b, q * 6, none⟩), .map (some pm), .func (Fn.func 167) #[] #[.pointer (some ⟨p3, 0, none⟩), .pointer (some ⟨p1, 0, none⟩), .pointer (some ⟨p2, 0, none⟩)], .pointer (some ⟨g, 0, none⟩), .slice (some ⟨bs, 0, none⟩) 3 3, .int .i64 (jj : Int), .int .i64 (jj : Int), .bool false, u17, u18, u19, u20, u21, u22, u23, u24, u25, u26, u27, u28, u29, u30, u31, u32, u33, u34, u35, u36, u37, u38, u39, u40, u41, u42, u43, u44, u45, u46, u47, u48, u49, u50, u51, u52, u53, u54, u55, u56, u57, .slice (some ⟨b, 0, none⟩) n c, .tuple #[], .pointer (some ⟨g, 0, none⟩), .bool true, ys 0, ys 1, ys 2, ys 3, ys 4, ys 5, xs 0, xs 1, xs 2, xs 3, xs 4, xs 5, xs 6, xs 7, xs 8, xs 9, xs 10, xs 11, xs 12, xs 13, xs 14, xs 15, xs 16, xs 17, xs 18, xs 19, xs 20, xs 21, xs 22, xs 23, xs 24, xs 25, xs 26, xs 27, xs 28, xs 29, xs 30, xs 31, xs 32, xs 33, xs 35, xs 36, xs 38, xs 39, xs 41, xs 42, undef], defers := [] } ∧ (∀ j, listed.getD j false = true → CF 3 9 [.val (.pointer (some ⟨b, q * 6, none⟩)), .val (.pointer (some ⟨b, q * 6, none⟩)), .val (.pointer (some ⟨b, q * 6, none⟩)), .val (.pointer (some ⟨b, q * 6, none⟩)), .val (.pointer (some ⟨g, 0, none⟩)), .val (.pointer (some ⟨b, q * 6, none⟩)), .val (.pointer (some ⟨b, q * 6, none⟩)), .val (.pointer (some ⟨b, q * 6, none⟩)), .val (.string xdev), .strsV ([xdev, ⟨#[]⟩, ⟨#[100, 97]⟩]), .val (.string a10), .val (.pointer (some ⟨g, 0, none⟩)), .val (.pointer (some ⟨b, q * 6, none⟩)), .val (.pointer (some ⟨b, q * 6, none⟩)), .val (.pointer (some ⟨b, q * 6 + 1, none⟩)), .val (.int .i64 xno), .intsV ([xno, 0, 1]), .val (.int .i64 a17), .val (.pointer (some ⟨g, 0, none⟩)), .val (.pointer (some ⟨b, q * 6, none⟩)), .val (.pointer (some ⟨b, q * 6, none⟩)), .val (.pointer (some ⟨b, q * 6 + 4, none⟩)), .val (.int .i64 xln), .intsV ([xln, 0, 11]), .val (.int .i64 a24), .val (.pointer (some ⟨g, 0, none⟩)), .val (.pointer (some ⟨b, q * 6, none⟩)), .val (.pointer (some ⟨b, q * 6, none⟩)), .val (.pointer (some ⟨b, q * 6 + 5, none⟩)), .val (.int .i64 xti), .intsV ([xti, 0, 1]), .val (.int .i64 a31), .val (.pointer (some ⟨b, q * 6, none⟩)), .val (.pointer (some ⟨b, q * 6, none⟩)), .any, .val (.pointer (some ⟨b, q * 6, none⟩)), .val (.pointer (some ⟨b, q * 6 + 1, none⟩)), .any, .val (.pointer (some ⟨b, q * 6, none⟩)), .val (.pointer (some ⟨b, q * 6 + 4, none⟩)), .any, .val (.pointer (some ⟨b, q * 6, none⟩)), .val (.pointer (some ⟨b, q * 6 + 5, none⟩)), .any] j w' (xs j)) ∧ CH (RowX w20 g zs 55 sgE 6 bs b n c (sgKf kk) (sgLf l6 q ⟨xdev, xno, xkd, xtm, xln, xti⟩ a10 a17 a24 a31)) [10, 17, 24, 31, 34, 37, 40, 43] [(34, 8), (34, 15), (34, 22), (34, 29)] listed w') ?h0 (AllOps.of ?hs) ?he
          case h0 => exact ⟨fun j => match j with | 0 => undef | 1 => undef | 2 => undef | 3 => undef | 4 => undef | 5 => undef | 6 => undef | 7 => undef | 8 => undef | 9 => undef | 10 => undef | 11 => undef | 12 => undef | 13 => undef | 14 => undef | 15 => undef | 16 => undef | 17 => undef | 18 => undef | 19 => undef | 20 => undef | 21 => undef | 22 => undef | 23 => undef | 24 => undef | 25 => undef | 26 => undef | 27 => undef | 28 => undef | 29 => undef | 30 => undef | 31 => undef | 32 => undef | 33 => undef | 35 => undef | 36 => undef | 38 => undef | 39 => undef | 41 => undef | 42 => undef | _ => undef, rfl, (fun j hj => by rw [rep_false] at hj; cases hj), CH.start (RowX.start s9 ho9)⟩
          case hs =>
            refine ⟨?_, ?_, ?_, ?_, ?_, ?_, ?_, ?_, ?_, ?_, ?_, ?_, ?_, ?_, ?_, ?_, ?_, ?_, ?_, ?_, ?_, ?_, ?_, ?_, ?_, ?_, ?_, ?_, ?_, ?_, ?_, ?_, ?_, ?_, ?_, ?_, ?_, ?_, ?_, ?_, ?_, ?_, ?_, ?_, trivial⟩
            · intro listed a w' hs hI h0 hd K' hK
              obtain ⟨xs, rfl, hC, hW⟩ := hI
              have hK2 := Lib.hid hK
              have hC2 := Lib.hid hC
              clear hd hK hC h0
              go_simp
              exact hK2.out _ _ ⟨updV xs 0 (.pointer (some ⟨b, q * 6, none⟩)), by simp [updV], cond_set hC2.out (fun _ _ h => h) rfl, hW.keep (by decide) (by decide)⟩
            · intro listed a w' hs hI h0 hd K' hK
              obtain ⟨xs, rfl, hC, hW⟩ := hI
              have hK2 := Lib.hid hK
              have hC2 := Lib.hid hC
              clear hd hK hC h0
              go_simp
              exact hK2.out _ _ ⟨updV xs 1 (.pointer (some ⟨b, q * 6, none⟩)), by simp [updV], cond_set hC2.out (fun _ _ h => h) rfl, hW.keep (by decide) (by decide)⟩
            · intro listed a w' hs hI h0 hd K' hK
              obtain ⟨xs, rfl, hC, hW⟩ := hI
              have hK2 := Lib.hid hK
              have hC2 := Lib.hid hC
              clear hd hK hC h0
              go_simp
              exact hK2.out _ _ ⟨updV xs 2 (.pointer (some ⟨b, q * 6, none⟩)), by simp [updV], cond_set hC2.out (fun _ _ h => h) rfl, hW.keep (by decide) (by decide)⟩
            · intro listed a w' hs hI h0 hd K' hK
              obtain ⟨xs, rfl, hC, hW⟩ := hI
              have hK2 := Lib.hid hK
              have hC2 := Lib.hid hC
              clear hd hK hC h0
              go_simp
              exact hK2.out _ _ ⟨updV xs 3 (.pointer (some ⟨b, q * 6, none⟩)), by simp [updV], cond_set hC2.out (fun _ _ h => h) rfl, hW.keep (by decide) (by decide)⟩
            · intro listed a w' hs hI h0 hd K' hK
              obtain ⟨xs, rfl, hC, hW⟩ := hI
              have hK2 := Lib.hid hK
              have hC2 := Lib.hid hC
              obtain ⟨m9, hX9⟩ := hW.any
              have c9 := hX9.cell (blk_cell c91 0 rfl) (by show p1 ≠ g; omega) (by show p1 ≠ b; omega)
              clear hd hK hC
              go_simp
              clear h0
              exact hK2.out _ _ ⟨updV xs 4 (.pointer (some ⟨g, 0, none⟩)), by simp [updV], cond_set hC2.out (fun _ _ h => h) rfl, hW.keep (by decide) (by decide)⟩
            · intro listed a w' hs hI h0 hd K' hK
              obtain ⟨xs, rfl, hC, hW⟩ := hI
              have hK2 := Lib.hid hK
              have hC2 := Lib.hid hC
              clear hd hK hC h0
              go_simp
              exact hK2.out _ _ ⟨updV xs 5 (.pointer (some ⟨b, q * 6, none⟩)), by simp [updV], cond_set hC2.out (fun _ _ h => h) rfl, hW.keep (by decide) (by decide)⟩
            · intro listed a w' hs hI h0 hd K' hK
              obtain ⟨xs, rfl, hC, hW⟩ := hI
              have e5 : xs 5 = (.pointer (some ⟨b, q * 6, none⟩)) := hC 5 (hd ⟨5, .data⟩ (by simp) rfl)
              have hK2 := Lib.hid hK
              have hC2 := Lib.hid hC
              clear hd hK hC h0
              go_simp
              exact hK2.out _ _ ⟨updV xs 6 (.pointer (some ⟨b, q * 6, none⟩)), by simp [updV, e5], cond_set hC2.out (fun _ _ h => h) rfl, hW.keep (by decide) (by decide)⟩
            · intro listed a w' hs hI h0 hd K' hK
              obtain ⟨xs, rfl, hC, hW⟩ := hI
              have e6 : xs 6 = (.pointer (some ⟨b, q * 6, none⟩)) := hC 6 (hd ⟨6, .data⟩ (by simp) rfl)
              have hK2 := Lib.hid hK
              have hC2 := Lib.hid hC
              clear hd hK hC h0
              go_simp
              exact hK2.out _ _ ⟨updV xs 7 (.pointer (some ⟨b, q * 6, none⟩)), by simp [updV, e6], cond_set hC2.out (fun _ _ h => h) rfl, hW.keep (by decide) (by decide)⟩
            · intro listed a w' hs hI h0 hd K' hK
              obtain ⟨xs, rfl, hC, hW⟩ := hI
              have e7 : xs 7 = (.pointer (some ⟨b, q * 6, none⟩)) := hC 7 (hd ⟨7, .data⟩ (by simp) rfl)
              have hK2 := Lib.hid hK
              have hC2 := Lib.hid hC
              obtain ⟨m9, hm9, hX9⟩ := CH.early (j := 4) (s := 34) hW h0 (by simp) rfl
              have c9 := hX9.load sgE_len (x := ⟨xdev, xno, xkd, xtm, xln, xti⟩) (hlo m9 hm9) (d := 0) (by decide) rfl
              rw [Nat.add_zero] at c9
              clear hd hK hC
              go_simp
              clear h0
              exact hK2.out _ _ ⟨updV xs 8 (.string xdev), by simp [updV, e7], cond_set hC2.out (fun _ _ h => h) rfl, hW.keep (by decide) (by decide)⟩
            · intro listed a w' hs hI h0 hd K' hK
              obtain ⟨xs, rfl, hC, hW⟩ := hI
              have e8 : xs 8 = (.string xdev) := hC 8 (hd ⟨8, .data⟩ (by simp) rfl)
              have hK2 := Lib.hid hK
              have hC2 := Lib.hid hC
              clear hd hK hC h0
              go_simp
              exact hK2.out _ _ ⟨updV xs 9 (.slice (some ⟨w'.heap.size, 0, none⟩) 3 3), by simp [updV, e8], cond_set hC2.out (fun j v h => SatF.alloc _ _ _ h) ⟨w'.heap.size, rfl, heap_alloc_new w' _⟩, (CH.alloc hW (fun m w o h => RowX.alloc h o) _).keep (by decide) (by decide)⟩
            · intro listed a w' hs hI h0 hd K' hK
              obtain ⟨xs, rfl, hC, hW⟩ := hI
              have e4 : xs 4 = (.pointer (some ⟨g, 0, none⟩)) := hC 4 (hd ⟨4, .data⟩ (by simp) rfl)
              obtain ⟨z9, e9, hz9⟩ : ∃ z : Nat, xs 9 = .slice (some ⟨z, 0, none⟩) 3 3 ∧ w'.heap[z]? = some (.cells (List.map Value.string [xdev, ⟨#[]⟩, ⟨#[100, 97]⟩]).toArray 9 (0, 0)) := hC 9 (hd ⟨9, .data⟩ (by simp) rfl)
              have hK2 := Lib.hid hK
              have hC2 := Lib.hid hC
              obtain ⟨hX9, hnx⟩ := CH.step (j := 0) hW rfl h0 (.inl rfl) (fun p hp e => by simp only [List.mem_cons, List.not_mem_nil, or_false] at hp; rcases hp with rfl | rfl | rfl | rfl <;> first | exact absurd e (by decide)) (by decide)
              have s9 : St w' g zs (kk + 2) := hX9.st
              have r9 : RS 9 w' (some ⟨z9, 0, none⟩) 3 [xdev, ⟨#[]⟩, ⟨#[100, 97]⟩] := R1.of_lit hz9 rfl rfl (by decide)
              clear h0
              clear hd hK hC
              go_simp
              refine (some_c g zs _ _ _ _ _ _ s9 (by omega) r9 (by decide)).mono ?_; rintro e w1 ⟨rfl, s10, g10⟩
              rw [ha10.out]
              exact hK2.out _ _ ⟨updV xs 10 (.string a10), by simp [updV, e4, e9], cond_set hC2.out (fun j v h => SatF.stream (s9.keep g10) (by decide) (by decide) _ _ h) rfl, hnx _ (hX9.call hgb s10 g10 rfl)⟩
            · intro listed a w' hs hI h0 hd K' hK
              obtain ⟨xs, rfl, hC, hW⟩ := hI
              have hK2 := Lib.hid hK
              have hC2 := Lib.hid hC
              obtain ⟨m9, hX9⟩ := hW.any
              have c9 := hX9.cell (blk_cell c91 0 rfl) (by show p1 ≠ g; omega) (by show p1 ≠ b; omega)
              clear hd hK hC
              go_simp
              clear h0
              exact hK2.out _ _ ⟨updV xs 11 (.pointer (some ⟨g, 0, none⟩)), by simp [updV], cond_set hC2.out (fun _ _ h => h) rfl, hW.keep (by decide) (by decide)⟩
            · intro listed a w' hs hI h0 hd K' hK
              obtain ⟨xs, rfl, hC, hW⟩ := hI
              have hK2 := Lib.hid hK
              have hC2 := Lib.hid hC
              clear hd hK hC h0
              go_simp
              exact hK2.out _ _ ⟨updV xs 12 (.pointer (some ⟨b, q * 6, none⟩)), by simp [updV], cond_set hC2.out (fun _ _ h => h) rfl, hW.keep (by decide) (by decide)⟩
            · intro listed a w' hs hI h0 hd K' hK
              obtain ⟨xs, rfl, hC, hW⟩ := hI
              have e12 : xs 12 = (.pointer (some ⟨b, q * 6, none⟩)) := hC 12 (hd ⟨12, .data⟩ (by simp) rfl)
              have hK2 := Lib.hid hK
              have hC2 := Lib.hid hC
              clear hd hK hC h0
              go_simp
              exact hK2.out _ _ ⟨updV xs 13 (.pointer (some ⟨b, q * 6, none⟩)), by simp [updV, e12], cond_set hC2.out (fun _ _ h => h) rfl, hW.keep (by decide) (by decide)⟩
            · intro listed a w' hs hI h0 hd K' hK
              obtain ⟨xs, rfl, hC, hW⟩ := hI
              have e13 : xs 13 = (.pointer (some ⟨b, q * 6, none⟩)) := hC 13 (hd ⟨13, .data⟩ (by simp) rfl)
              have hK2 := Lib.hid hK
              have hC2 := Lib.hid hC
              clear hd hK hC h0
              go_simp
              exact hK2.out _ _ ⟨updV xs 14 (.pointer (some ⟨b, q * 6 + 1, none⟩)), by simp [updV, e13], cond_set hC2.out (fun _ _ h => h) rfl, hW.keep (by decide) (by decide)⟩
            · intro listed a w' hs hI h0 hd K' hK
              obtain ⟨xs, rfl, hC, hW⟩ := hI
              have e14 : xs 14 = (.pointer (some ⟨b, q * 6 + 1, none⟩)) := hC 14 (hd ⟨14, .data⟩ (by simp) rfl)
              have hK2 := Lib.hid hK
              have hC2 := Lib.hid hC
              obtain ⟨m9, hm9, hX9⟩ := CH.early (j := 4) (s := 34) hW h0 (by simp) rfl
              have c9 := hX9.load sgE_len (x := ⟨xdev, xno, xkd, xtm, xln, xti⟩) (hlo m9 hm9) (d := 1) (by decide) rfl
              clear hd hK hC
              go_simp
              clear h0
              exact hK2.out _ _ ⟨updV xs 15 (.int .i64 xno), by simp [updV, e14], cond_set hC2.out (fun _ _ h => h) rfl, hW.keep (by decide) (by decide)⟩
            · intro listed a w' hs hI h0 hd K' hK
              obtain ⟨xs, rfl, hC, hW⟩ := hI
              have e15 : xs 15 = (.int .i64 xno) := hC 15 (hd ⟨15, .data⟩ (by simp) rfl)
              have hK2 := Lib.hid hK
              have hC2 := Lib.hid hC
              clear hd hK hC h0
              go_simp
              exact hK2.out _ _ ⟨updV xs 16 (.slice (some ⟨w'.heap.size, 0, none⟩) 3 3), by simp [updV, e15], cond_set hC2.out (fun j v h => SatF.alloc _ _ _ h) ⟨w'.heap.size, rfl, heap_alloc_new w' _⟩, (CH.alloc hW (fun m w o h => RowX.alloc h o) _).keep (by decide) (by decide)⟩
            · intro listed a w' hs hI h0 hd K' hK
              obtain ⟨xs, rfl, hC, hW⟩ := hI
              have e11 : xs 11 = (.pointer (some ⟨g, 0, none⟩)) := hC 11 (hd ⟨11, .data⟩ (by simp) rfl)
              obtain ⟨z16, e16, hz16⟩ : ∃ z : Nat, xs 16 = .slice (some ⟨z, 0, none⟩) 3 3 ∧ w'.heap[z]? = some (.cells (ints [xno, 0, 1]).toArray 3 (0, 0)) := hC 16 (hd ⟨16, .data⟩ (by simp) rfl)
              have hK2 := Lib.hid hK
              have hC2 := Lib.hid hC
              obtain ⟨hX9, hnx⟩ := CH.step (j := 1) hW rfl h0 (.inr ⟨10, rfl, hd ⟨10, .chain⟩ (by simp) rfl⟩) (fun p hp e => by simp only [List.mem_cons, List.not_mem_nil, or_false] at hp; rcases hp with rfl | rfl | rfl | rfl <;> first | exact absurd e (by decide)) (by decide)
              have s9 : St w' g zs (kk + 3) := hX9.st
              have r9 : RI 3 w' (some ⟨z16, 0, none⟩) 3 [xno, 0, 1] := R1.of_lit hz16 rfl rfl (by decide)
              clear h0
              clear hd hK hC
              go_simp
              refine (pick_c g zs _ _ _ _ _ _ s9 (by omega) r9 (by decide)).mono ?_; rintro e w1 ⟨rfl, s10, g10⟩
              rw [ha17.out]
              exact hK2.out _ _ ⟨updV xs 17 (.int .i64 a17), by simp [updV, e11, e16], cond_set hC2.out (fun j v h => SatF.stream (s9.keep g10) (by decide) (by decide) _ _ h) rfl, hnx _ (hX9.call hgb s10 g10 rfl)⟩
            · intro listed a w' hs hI h0 hd K' hK
              obtain ⟨xs, rfl, hC, hW⟩ := hI
              have hK2 := Lib.hid hK
              have hC2 := Lib.hid hC
              obtain ⟨m9, hX9⟩ := hW.any
              have c9 := hX9.cell (blk_cell c91 0 rfl) (by show p1 ≠ g; omega) (by show p1 ≠ b; omega)
              clear hd hK hC
              go_simp
              clear h0
              exact hK2.out _ _ ⟨updV xs 18 (.pointer (some ⟨g, 0, none⟩)), by simp [updV], cond_set hC2.out (fun _ _ h => h) rfl, hW.keep (by decide) (by decide)⟩
            · intro listed a w' hs hI h0 hd K' hK
              obtain ⟨xs, rfl, hC, hW⟩ := hI
              have hK2 := Lib.hid hK
              have hC2 := Lib.hid hC
              clear hd hK hC h0
              go_simp
              exact hK2.out _ _ ⟨updV xs 19 (.pointer (some ⟨b, q * 6, none⟩)), by simp [updV], cond_set hC2.out (fun _ _ h => h) rfl, hW.keep (by decide) (by decide)⟩
            · intro listed a w' hs hI h0 hd K' hK
              obtain ⟨xs, rfl, hC, hW⟩ := hI
              have e19 : xs 19 = (.pointer (some ⟨b, q * 6, none⟩)) := hC 19 (hd ⟨19, .data⟩ (by simp) rfl)
              have hK2 := Lib.hid hK
              have hC2 := Lib.hid hC
              clear hd hK hC h0
              go_simp
              exact hK2.out _ _ ⟨updV xs 20 (.pointer (some ⟨b, q * 6, none⟩)), by simp [updV, e19], cond_set hC2.out (fun _ _ h => h) rfl, hW.keep (by decide) (by decide)⟩
            · intro listed a w' hs hI h0 hd K' hK
              obtain ⟨xs, rfl, hC, hW⟩ := hI
              have e20 : xs 20 = (.pointer (some ⟨b, q * 6, none⟩)) := hC 20 (hd ⟨20, .data⟩ (by simp) rfl)
              have hK2 := Lib.hid hK
              have hC2 := Lib.hid hC
              clear hd hK hC h0
              go_simp
              exact hK2.out _ _ ⟨updV xs 21 (.pointer (some ⟨b, q * 6 + 4, none⟩)), by simp [updV, e20], cond_set hC2.out (fun _ _ h => h) rfl, hW.keep (by decide) (by decide)⟩
            · intro listed a w' hs hI h0 hd K' hK
              obtain ⟨xs, rfl, hC, hW⟩ := hI
              have e21 : xs 21 = (.pointer (some ⟨b, q * 6 + 4, none⟩)) := hC 21 (hd ⟨21, .data⟩ (by simp) rfl)
              have hK2 := Lib.hid hK
              have hC2 := Lib.hid hC
              obtain ⟨m9, hm9, hX9⟩ := CH.early (j := 4) (s := 34) hW h0 (by simp) rfl
              have c9 := hX9.load sgE_len (x := ⟨xdev, xno, xkd, xtm, xln, xti⟩) (hlo m9 hm9) (d := 4) (by decide) rfl
              clear hd hK hC
              go_simp
              clear h0
              exact hK2.out _ _ ⟨updV xs 22 (.int .i64 xln), by simp [updV, e21], cond_set hC2.out (fun _ _ h => h) rfl, hW.keep (by decide) (by decide)⟩
            · intro listed a w' hs hI h0 hd K' hK
              obtain ⟨xs, rfl, hC, hW⟩ := hI
              have e22 : xs 22 = (.int .i64 xln) := hC 22 (hd ⟨22, .data⟩ (by simp) rfl)
              have hK2 := Lib.hid hK
              have hC2 := Lib.hid hC
              clear hd hK hC h0
              go_simp
              exact hK2.out _ _ ⟨updV xs 23 (.slice (some ⟨w'.heap.size, 0, none⟩) 3 3), by simp [updV, e22], cond_set hC2.out (fun j v h => SatF.alloc _ _ _ h) ⟨w'.heap.size, rfl, heap_alloc_new w' _⟩, (CH.alloc hW (fun m w o h => RowX.alloc h o) _).keep (by decide) (by decide)⟩
            · intro listed a w' hs hI h0 hd K' hK
              obtain ⟨xs, rfl, hC, hW⟩ := hI
              have e18 : xs 18 = (.pointer (some ⟨g, 0, none⟩)) := hC 18 (hd ⟨18, .data⟩ (by simp) rfl)
              obtain ⟨z23, e23, hz23⟩ : ∃ z : Nat, xs 23 = .slice (some ⟨z, 0, none⟩) 3 3 ∧ w'.heap[z]? = some (.cells (ints [xln, 0, 11]).toArray 3 (0, 0)) := hC 23 (hd ⟨23, .data⟩ (by simp) rfl)
              have hK2 := Lib.hid hK
              have hC2 := Lib.hid hC
              obtain ⟨hX9, hnx⟩ := CH.step (j := 2) hW rfl h0 (.inr ⟨17, rfl, hd ⟨17, .chain⟩ (by simp) rfl⟩) (fun p hp e => by simp only [List.mem_cons, List.not_mem_nil, or_false] at hp; rcases hp with rfl | rfl | rfl | rfl <;> first | exact absurd e (by decide)) (by decide)
              have s9 : St w' g zs (kk + 4) := hX9.st
              have r9 : RI 3 w' (some ⟨z23, 0, none⟩) 3 [xln, 0, 11] := R1.of_lit hz23 rfl rfl (by decide)
              clear h0
              clear hd hK hC
              go_simp
              refine (pick_c g zs _ _ _ _ _ _ s9 (by omega) r9 (by decide)).mono ?_; rintro e w1 ⟨rfl, s10, g10⟩
              rw [ha24.out]
              exact hK2.out _ _ ⟨updV xs 24 (.int .i64 a24), by simp [updV, e18, e23], cond_set hC2.out (fun j v h => SatF.stream (s9.keep g10) (by decide) (by decide) _ _ h) rfl, hnx _ (hX9.call hgb s10 g10 rfl)⟩
            · intro listed a w' hs hI h0 hd K' hK
              obtain ⟨xs, rfl, hC, hW⟩ := hI
              have hK2 := Lib.hid hK
              have hC2 := Lib.hid hC
              obtain ⟨m9, hX9⟩ := hW.any
              have c9 := hX9.cell (blk_cell c91 0 rfl) (by show p1 ≠ g; omega) (by show p1 ≠ b; omega)
              clear hd hK hC
              go_simp
              clear h0
              exact hK2.out _ _ ⟨updV xs 25 (.pointer (some ⟨g, 0, none⟩)), by simp [updV], cond_set hC2.out (fun _ _ h => h) rfl, hW.keep (by decide) (by decide)⟩
            · intro listed a w' hs hI h0 hd K' hK
              obtain ⟨xs, rfl, hC, hW⟩ := hI
              have hK2 := Lib.hid hK
              have hC2 := Lib.hid hC
              clear hd hK hC h0
              go_simp
              exact hK2.out _ _ ⟨updV xs 26 (.pointer (some ⟨b, q * 6, none⟩)), by simp [updV], cond_set hC2.out (fun _ _ h => h) rfl, hW.keep (by decide) (by decide)⟩
            · intro listed a w' hs hI h0 hd K' hK
              obtain ⟨xs, rfl, hC, hW⟩ := hI
              have e26 : xs 26 = (.pointer (some ⟨b, q * 6, none⟩)) := hC 26 (hd ⟨26, .data⟩ (by simp) rfl)
              have hK2 := Lib.hid hK
              have hC2 := Lib.hid hC
              clear hd hK hC h0
              go_simp
              exact hK2.out _ _ ⟨updV xs 27 (.pointer (some ⟨b, q * 6, none⟩)), by simp [updV, e26], cond_set hC2.out (fun _ _ h => h) rfl, hW.keep (by decide) (by decide)⟩
            · intro listed a w' hs hI h0 hd K' hK
              obtain ⟨xs, rfl, hC, hW⟩ := hI
              have e27 : xs 27 = (.pointer (some ⟨b, q * 6, none⟩)) := hC 27 (hd ⟨27, .data⟩ (by simp) rfl)
              have hK2 := Lib.hid hK
              have hC2 := Lib.hid hC
              clear hd hK hC h0
              go_simp
              exact hK2.out _ _ ⟨updV xs 28 (.pointer (some ⟨b, q * 6 + 5, none⟩)), by simp [updV, e27], cond_set hC2.out (fun _ _ h => h) rfl, hW.keep (by decide) (by decide)⟩
            · intro listed a w' hs hI h0 hd K' hK
              obtain ⟨xs, rfl, hC, hW⟩ := hI
              have e28 : xs 28 = (.pointer (some ⟨b, q * 6 + 5, none⟩)) := hC 28 (hd ⟨28, .data⟩ (by simp) rfl)
              have hK2 := Lib.hid hK
              have hC2 := Lib.hid hC
              obtain ⟨m9, hm9, hX9⟩ := CH.early (j := 4) (s := 34) hW h0 (by simp) rfl
              have c9 := hX9.load sgE_len (x := ⟨xdev, xno, xkd, xtm, xln, xti⟩) (hlo m9 hm9) (d := 5) (by decide) rfl
              clear hd hK hC
              go_simp
              clear h0
              exact hK2.out _ _ ⟨updV xs 29 (.int .i64 xti), by simp [updV, e28], cond_set hC2.out (fun _ _ h => h) rfl, hW.keep (by decide) (by decide)⟩
            · intro listed a w' hs hI h0 hd K' hK
              obtain ⟨xs, rfl, hC, hW⟩ := hI
              have e29 : xs 29 = (.int .i64 xti) := hC 29 (hd ⟨29, .data⟩ (by simp) rfl)
              have hK2 := Lib.hid hK
              have hC2 := Lib.hid hC
              clear hd hK hC h0
              go_simp
              exact hK2.out _ _ ⟨updV xs 30 (.slice (some ⟨w'.heap.size, 0, none⟩) 3 3), by simp [updV, e29], cond_set hC2.out (fun j v h => SatF.alloc _ _ _ h) ⟨w'.heap.size, rfl, heap_alloc_new w' _⟩, (CH.alloc hW (fun m w o h => RowX.alloc h o) _).keep (by decide) (by decide)⟩
            · intro listed a w' hs hI h0 hd K' hK
              obtain ⟨xs, rfl, hC, hW⟩ := hI
              have e25 : xs 25 = (.pointer (some ⟨g, 0, none⟩)) := hC 25 (hd ⟨25, .data⟩ (by simp) rfl)
              obtain ⟨z30, e30, hz30⟩ : ∃ z : Nat, xs 30 = .slice (some ⟨z, 0, none⟩) 3 3 ∧ w'.heap[z]? = some (.cells (ints [xti, 0, 1]).toArray 3 (0, 0)) := hC 30 (hd ⟨30, .data⟩ (by simp) rfl)
              have hK2 := Lib.hid hK
              have hC2 := Lib.hid hC
              obtain ⟨hX9, hnx⟩ := CH.step (j := 3) hW rfl h0 (.inr ⟨24, rfl, hd ⟨24, .chain⟩ (by simp) rfl⟩) (fun p hp e => by simp only [List.mem_cons, List.not_mem_nil, or_false] at hp; rcases hp with rfl | rfl | rfl | rfl <;> first | exact absurd e (by decide)) (by decide)
              have s9 : St w' g zs (kk + 5) := hX9.st
              have r9 : RI 3 w' (some ⟨z30, 0, none⟩) 3 [xti, 0, 1] := R1.of_lit hz30 rfl rfl (by decide)
              clear h0
              clear hd hK hC
              go_simp
              refine (pick_c g zs _ _ _ _ _ _ s9 (by omega) r9 (by decide)).mono ?_; rintro e w1 ⟨rfl, s10, g10⟩
              rw [ha31.out]
              exact hK2.out _ _ ⟨updV xs 31 (.int .i64 a31), by simp [updV, e25, e30], cond_set hC2.out (fun j v h => SatF.stream (s9.keep g10) (by decide) (by decide) _ _ h) rfl, hnx _ (hX9.call hgb s10 g10 rfl)⟩
            · intro listed a w' hs hI h0 hd K' hK
              obtain ⟨xs, rfl, hC, hW⟩ := hI
              have e0 : xs 0 = (.pointer (some ⟨b, q * 6, none⟩)) := hC 0 (hd ⟨0, .data⟩ (by simp) rfl)
              have hK2 := Lib.hid hK
              have hC2 := Lib.hid hC
              clear hd hK hC h0
              go_simp
              exact hK2.out _ _ ⟨updV xs 32 (.pointer (some ⟨b, q * 6, none⟩)), by simp [updV, e0], cond_set hC2.out (fun _ _ h => h) rfl, hW.keep (by decide) (by decide)⟩
            · intro listed a w' hs hI h0 hd K' hK
              obtain ⟨xs, rfl, hC, hW⟩ := hI
              have e32 : xs 32 = (.pointer (some ⟨b, q * 6, none⟩)) := hC 32 (hd ⟨32, .data⟩ (by simp) rfl)
              have hK2 := Lib.hid hK
              have hC2 := Lib.hid hC
              clear hd hK hC h0
              go_simp
              exact hK2.out _ _ ⟨updV xs 33 (.pointer (some ⟨b, q * 6, none⟩)), by simp [updV, e32], cond_set hC2.out (fun _ _ h => h) rfl, hW.keep (by decide) (by decide)⟩
            · intro listed a w' hs hI h0 hd K' hK
              obtain ⟨xs, rfl, hC, hW⟩ := hI
              have e10 : xs 10 = (.string a10) := hC 10 (hd ⟨10, .data⟩ (by simp) rfl)
              have e33 : xs 33 = (.pointer (some ⟨b, q * 6, none⟩)) := hC 33 (hd ⟨33, .data⟩ (by simp) rfl)
              have hK2 := Lib.hid hK
              have hC2 := Lib.hid hC
              obtain ⟨hX9, hnx⟩ := CH.step (j := 4) hW rfl h0 (.inr ⟨31, rfl, hd ⟨31, .chain⟩ (by simp) rfl⟩) (fun p hp e => by simp only [List.mem_cons, List.not_mem_nil, or_false] at hp; rcases hp with rfl | rfl | rfl | rfl <;> first | exact absurd e (by decide) | exact hd ⟨8, .phase⟩ (by simp) rfl | exact hd ⟨15, .phase⟩ (by simp) rfl | exact hd ⟨22, .phase⟩ (by simp) rfl | exact hd ⟨29, .phase⟩ (by simp) rfl) (by decide)
              have c9 := hX9.load sgE_len (x := ⟨xdev, xno, xkd, xtm, xln, xti⟩) hl0 (d := 0) (by decide) rfl
              have f9 := hX9.own.frozenAt (q * 6 + 0)
              obtain ⟨cs9, hcs9⟩ := hX9.blk
              have hS9 := Lib.hid (hX9.store sgE_len hgb (x := ⟨xdev, xno, xkd, xtm, xln, xti⟩) (y := ⟨a10, xno, xkd, xtm, xln, xti⟩) (v := .string a10) hl0 (d := 0) (by decide) rfl rfl rfl)
              rw [Nat.add_zero] at c9 f9 hS9
              clear h0
              clear hd hK hC
              go_simp
              exact hK2.out _ _ ⟨updV xs 34 (undef), by simp [updV, e10, e33], cond_set hC2.out (fun j v h => SatF.set hcs9 (by decide) (by decide) _ _ h) trivial, hnx _ hS9.out⟩
            · intro listed a w' hs hI h0 hd K' hK
              obtain ⟨xs, rfl, hC, hW⟩ := hI
              have e1 : xs 1 = (.pointer (some ⟨b, q * 6, none⟩)) := hC 1 (hd ⟨1, .data⟩ (by simp) rfl)
              have hK2 := Lib.hid hK
              have hC2 := Lib.hid hC
              clear hd hK hC h0
              go_simp
              exact hK2.out _ _ ⟨updV xs 35 (.pointer (some ⟨b, q * 6, none⟩)), by simp [updV, e1], cond_set hC2.out (fun _ _ h => h) rfl, hW.keep (by decide) (by decide)⟩
            · intro listed a w' hs hI h0 hd K' hK
              obtain ⟨xs, rfl, hC, hW⟩ := hI
              have e35 : xs 35 = (.pointer (some ⟨b, q * 6, none⟩)) := hC 35 (hd ⟨35, .data⟩ (by simp) rfl)
              have hK2 := Lib.hid hK
              have hC2 := Lib.hid hC
              clear hd hK hC h0
              go_simp
              exact hK2.out _ _ ⟨updV xs 36 (.pointer (some ⟨b, q * 6 + 1, none⟩)), by simp [updV, e35], cond_set hC2.out (fun _ _ h => h) rfl, hW.keep (by decide) (by decide)⟩
            · intro listed a w' hs hI h0 hd K' hK
              obtain ⟨xs, rfl, hC, hW⟩ := hI
              have e17 : xs 17 = (.int .i64 a17) := hC 17 (hd ⟨17, .data⟩ (by simp) rfl)
              have e36 : xs 36 = (.pointer (some ⟨b, q * 6 + 1, none⟩)) := hC 36 (hd ⟨36, .data⟩ (by simp) rfl)
              have hK2 := Lib.hid hK
              have hC2 := Lib.hid hC
              obtain ⟨hX9, hnx⟩ := CH.step (j := 5) hW rfl h0 (.inr ⟨34, rfl, hd ⟨34, .chain⟩ (by simp) rfl⟩) (fun p hp e => by simp only [List.mem_cons, List.not_mem_nil, or_false] at hp; rcases hp with rfl | rfl | rfl | rfl <;> first | exact absurd e (by decide)) (by decide)
              have c9 := hX9.load sgE_len (x := ⟨a10, xno, xkd, xtm, xln, xti⟩) hl1 (d := 1) (by decide) rfl
              have f9 := hX9.own.frozenAt (q * 6 + 1)
              obtain ⟨cs9, hcs9⟩ := hX9.blk
              have hS9 := Lib.hid (hX9.store sgE_len hgb (x := ⟨a10, xno, xkd, xtm, xln, xti⟩) (y := ⟨a10, a17, xkd, xtm, xln, xti⟩) (v := .int .i64 a17) hl1 (d := 1) (by decide) rfl rfl rfl)
              clear h0
              clear hd hK hC
              go_simp
              exact hK2.out _ _ ⟨updV xs 37 (undef), by simp [updV, e17, e36], cond_set hC2.out (fun j v h => SatF.set hcs9 (by decide) (by decide) _ _ h) trivial, hnx _ hS9.out⟩
            · intro listed a w' hs hI h0 hd K' hK
              obtain ⟨xs, rfl, hC, hW⟩ := hI
              have e2 : xs 2 = (.pointer (some ⟨b, q * 6, none⟩)) := hC 2 (hd ⟨2, .data⟩ (by simp) rfl)
              have hK2 := Lib.hid hK
              have hC2 := Lib.hid hC
              clear hd hK hC h0
              go_simp
              exact hK2.out _ _ ⟨updV xs 38 (.pointer (some ⟨b, q * 6, none⟩)), by simp [updV, e2], cond_set hC2.out (fun _ _ h => h) rfl, hW.keep (by decide) (by decide)⟩
            · intro listed a w' hs hI h0 hd K' hK
              obtain ⟨xs, rfl, hC, hW⟩ := hI
              have e38 : xs 38 = (.pointer (some ⟨b, q * 6, none⟩)) := hC 38 (hd ⟨38, .data⟩ (by simp) rfl)
              have hK2 := Lib.hid hK
              have hC2 := Lib.hid hC
              clear hd hK hC h0
              go_simp
              exact hK2.out _ _ ⟨updV xs 39 (.pointer (some ⟨b, q * 6 + 4, none⟩)), by simp [updV, e38], cond_set hC2.out (fun _ _ h => h) rfl, hW.keep (by decide) (by decide)⟩
            · intro listed a w' hs hI h0 hd K' hK
              obtain ⟨xs, rfl, hC, hW⟩ := hI
              have e24 : xs 24 = (.int .i64 a24) := hC 24 (hd ⟨24, .data⟩ (by simp) rfl)
              have e39 : xs 39 = (.pointer (some ⟨b, q * 6 + 4, none⟩)) := hC 39 (hd ⟨39, .data⟩ (by simp) rfl)
              have hK2 := Lib.hid hK
              have hC2 := Lib.hid hC
              obtain ⟨hX9, hnx⟩ := CH.step (j := 6) hW rfl h0 (.inr ⟨37, rfl, hd ⟨37, .chain⟩ (by simp) rfl⟩) (fun p hp e => by simp only [List.mem_cons, List.not_mem_nil, or_false] at hp; rcases hp with rfl | rfl | rfl | rfl <;> first | exact absurd e (by decide)) (by decide)
              have c9 := hX9.load sgE_len (x := ⟨a10, a17, xkd, xtm, xln, xti⟩) hl2 (d := 4) (by decide) rfl
              have f9 := hX9.own.frozenAt (q * 6 + 4)
              obtain ⟨cs9, hcs9⟩ := hX9.blk
              have hS9 := Lib.hid (hX9.store sgE_len hgb (x := ⟨a10, a17, xkd, xtm, xln, xti⟩) (y := ⟨a10, a17, xkd, xtm, a24, xti⟩) (v := .int .i64 a24) hl2 (d := 4) (by decide) rfl rfl rfl)
              clear h0
              clear hd hK hC
              go_simp
              exact hK2.out _ _ ⟨updV xs 40 (undef), by simp [updV, e24, e39], cond_set hC2.out (fun j v h => SatF.set hcs9 (by decide) (by decide) _ _ h) trivial, hnx _ hS9.out⟩
            · intro listed a w' hs hI h0 hd K' hK
              obtain ⟨xs, rfl, hC, hW⟩ := hI
              have e3 : xs 3 = (.pointer (some ⟨b, q * 6, none⟩)) := hC 3 (hd ⟨3, .data⟩ (by simp) rfl)
              have hK2 := Lib.hid hK
              have hC2 := Lib.hid hC
              clear hd hK hC h0
              go_simp
              exact hK2.out _ _ ⟨updV xs 41 (.pointer (some ⟨b, q * 6, none⟩)), by simp [updV, e3], cond_set hC2.out (fun _ _ h => h) rfl, hW.keep (by decide) (by decide)⟩
            · intro listed a w' hs hI h0 hd K' hK
              obtain ⟨xs, rfl, hC, hW⟩ := hI
              have e41 : xs 41 = (.pointer (some ⟨b, q * 6, none⟩)) := hC 41 (hd ⟨41, .data⟩ (by simp) rfl)
              have hK2 := Lib.hid hK
              have hC2 := Lib.hid hC
              clear hd hK hC h0
              go_simp
              exact hK2.out _ _ ⟨updV xs 42 (.pointer (some ⟨b, q * 6 + 5, none⟩)), by simp [updV, e41], cond_set hC2.out (fun _ _ h => h) rfl, hW.keep (by decide) (by decide)⟩
            · intro listed a w' hs hI h0 hd K' hK
              obtain ⟨xs, rfl, hC, hW⟩ := hI
              have e31 : xs 31 = (.int .i64 a31) := hC 31 (hd ⟨31, .data⟩ (by simp) rfl)
              have e42 : xs 42 = (.pointer (some ⟨b, q * 6 + 5, none⟩)) := hC 42 (hd ⟨42, .data⟩ (by simp) rfl)
              have hK2 := Lib.hid hK
              have hC2 := Lib.hid hC
              obtain ⟨hX9, hnx⟩ := CH.step (j := 7) hW rfl h0 (.inr ⟨40, rfl, hd ⟨40, .chain⟩ (by simp) rfl⟩) (fun p hp e => by simp only [List.mem_cons, List.not_mem_nil, or_false] at hp; rcases hp with rfl | rfl | rfl | rfl <;> first | exact absurd e (by decide)) (by decide)
              have c9 := hX9.load sgE_len (x := ⟨a10, a17, xkd, xtm, a24, xti⟩) hl3 (d := 5) (by decide) rfl
              have f9 := hX9.own.frozenAt (q * 6 + 5)
              obtain ⟨cs9, hcs9⟩ := hX9.blk
              have hS9 := Lib.hid (hX9.store sgE_len hgb (x := ⟨a10, a17, xkd, xtm, a24, xti⟩) (y := ⟨a10, a17, xkd, xtm, a24, a31⟩) (v := .int .i64 a31) hl3 (d := 5) (by decide) rfl rfl rfl)
              clear h0
              clear hd hK hC
              go_simp
              exact hK2.out _ _ ⟨updV xs 43 (undef), by simp [updV, e31, e42], cond_set hC2.out (fun j v h => SatF.set hcs9 (by decide) (by decide) _ _ h) trivial, hnx _ hS9.out⟩
          case he =>
            intro listed a w' hs hI hr
            obtain ⟨xs, rfl, hC, hW⟩ := hI
            have hl9 := all_listed hs hr ⟨rfl, rfl, rfl, rfl, rfl, rfl, rfl, rfl, rfl, rfl, rfl, rfl, rfl, rfl, rfl, rfl, rfl, rfl, rfl, rfl, rfl, rfl, rfl, rfl, rfl, rfl, rfl, rfl, rfl, rfl, rfl, rfl, rfl, rfl, rfl, rfl, rfl, rfl, rfl, rfl, rfl, rfl, rfl, rfl, trivial⟩ 43 (by simp)
            obtain ⟨m9, hm9, hX9⟩ := hW.fin (j := 7) rfl hl9
            clear hW hC hs hr hl9
            obtain ⟨m8, rfl⟩ : ∃ m8, m9 = m8 + 8 := ⟨m9 - 8, by omega⟩
            have s10 : St w' g zs (kk + 6) := hX9.st
            have o10 := hX9.own
            rw [show sgLf l6 q ⟨xdev, xno, xkd, xtm, xln, xti⟩ a10 a17 a24 a31 (m8 + 8) = l6.set q ⟨a10, a17, xkd, xtm, a24, a31⟩ by simp only [sgLf, List.set_set]] at o10
            have c9 := hX9.cell (blk_cell c92 0 rfl) (by show p2 ≠ g; omega) (by show p2 ≠ b; omega)
            have g10 := hX9.out gr9 (by have := hO.o1; omega)
            clear hX9
            have hRV : RV = (l6.set q ⟨a10, a17, xkd, xtm, a24, a31⟩, kk + 6) := hV5.out
            subst hRV
            go_wp2
            go_ret
            exact ⟨_, n, c, rfl, own_mono o10 (by have := hO.o1; omega), (by rw [List.length_set]; exact hl6), hn1, hn18, s10, (by dsimp only; omega), g10⟩
end Go.Proofs.YtklggnglaeagpaaGreatDoor
