import Derived.Test.YtpepdkgkdbnakaaGreatDoorLapB
import Derived.Test.YtpepdkgkdbnakaaGreatDoorLapP
import Derived.Deep.RegionHeld3
import Derived.Test.YtpepdkgkdbnakaaGreatDoorMkReg
import Derived.Laws.OwnMore
import Derived.BigRegion
import Derived.Test.YtpepdkgkdbnakaaGreatDoorPadF
import Derived.Deep.AppendLies
/- (*pace).off, (*pace).least. -/
namespace Go.Proofs.YtpepdkgkdbnakaaGreatDoor
open Go.RowKit Go.Lib
set_option linter.unusedVariables false

/-- how far a touch is from an even pace at an end -/
def offG (G E : List Int) (N : Int) (m t e : Nat) : Int := max (G.getD t 0 - (G.getD (m - 1) 0 * E.getD e 0).tdiv N) (-(G.getD t 0 - (G.getD (m - 1) 0 * E.getD e 0).tdiv N))
theorem getD_bd {L : List Int} {B : Int} (hB : 0 ≤ B) (h : ∀ x ∈ L, 0 ≤ x ∧ x ≤ B) (i : Nat) : 0 ≤ L.getD i 0 ∧ L.getD i 0 ≤ B := by
  rw [List.getD_eq_getElem?_getD]
  cases hx : L[i]? with
  | none => simp; exact hB
  | some x => exact h x (List.mem_of_getElem? hx)
theorem getD_ofI {L : List Int} {i : Nat} {x : Int} (h : L[i]? = some x) : L.getD i 0 = x := by rw [List.getD_eq_getElem?_getD, h]; rfl
theorem off_parts {g0 gl en N : Int} (h0 : 0 ≤ g0 ∧ g0 ≤ 1000000000) (h1 : 0 ≤ gl ∧ gl ≤ 1000000000) (h2 : 0 ≤ en ∧ en ≤ 16) (h3 : 1 ≤ N ∧ N ≤ 16) : (0 ≤ gl * en ∧ gl * en ≤ 16000000000) ∧ (0 ≤ (gl * en).tdiv N ∧ (gl * en).tdiv N ≤ 16000000000) := by
  have a1 : 0 ≤ gl * en := Int.mul_nonneg h1.1 h2.1
  have a2 : gl * en ≤ 1000000000 * 16 := Int.mul_le_mul h1.2 h2.2 h2.1 (by omega)
  have a3 : (gl * en).tdiv N = (gl * en) / N := Int.tdiv_eq_ediv_of_nonneg a1
  have a4 : (gl * en) / N ≤ gl * en := Int.ediv_le_self _ a1
  have a5 : 0 ≤ (gl * en) / N := Int.ediv_nonneg a1 (by omega)
  rw [a3]
  omega
theorem offG_bd {G E : List Int} {N : Int} {m : Nat} (hG : ∀ x ∈ G, 0 ≤ x ∧ x ≤ 1000000000) (hE : ∀ x ∈ E, 0 ≤ x ∧ x ≤ 16) (h3 : 1 ≤ N ∧ N ≤ 16) (t e : Nat) : 0 ≤ offG G E N m t e ∧ offG G E N m t e ≤ 1099511627776 := by
  have b0 := getD_bd (by omega) hG t
  have b1 := getD_bd (by omega) hG (m - 1)
  have b2 := getD_bd (by omega) hE e
  have := (off_parts b0 b1 b2 h3).2
  unfold offG
  omega
set_option maxHeartbeats 3200000 in
set_option maxRecDepth 100000 in
theorem off_c (P N M m : Nat) (Ae : Option Addr) (ce : Nat) (E : List Int) (Ag : Option Addr) (cg : Nat) (G : List Int) (kv : Value) (t e : Nat) (w : World) (hp : w.heap[P]? = some (.cells #[.int .i64 N, .slice Ae M ce, .slice Ag m cg, kv] 300 (0, 0))) (he : RI 3 w Ae M E) (hg : RI 3 w Ag m G) (ht : t < m) (hee : e < M) (hm : m ≤ 16) (hM : M ≤ 16) (hN : 1 ≤ N ∧ N ≤ 16) (hG : ∀ x ∈ G, 0 ≤ x ∧ x ≤ 1000000000) (hE : ∀ x ∈ E, 0 ≤ x ∧ x ≤ 16) :
    Calls Tryz.prog 313 #[.pointer (some ⟨P, 0, none⟩), .int .i64 t, .int .i64 e] w fun e' w' => e' = .returned (.int .i64 (offG G E N m t e)) ∧ Below w.heap.size w w' := by
  obtain ⟨b1, o1, x, rfl, hb1, hx, cx⟩ := hg.at_ ht
  obtain ⟨b1', o1', y, e0, hb1', hy, cy⟩ := hg.at_ (k := m - 1) (by omega)
  injection e0 with e0
  injection e0 with e0 e1
  subst e0 e1
  obtain ⟨b2, o2, z, rfl, hb2, hz, cz⟩ := he.at_ hee
  have hV : Hid (offG G E N m t e = max (x - (y * z).tdiv N) (-(x - (y * z).tdiv N))) := Lib.hid (by unfold offG; rw [getD_ofI hx, getD_ofI hy, getD_ofI hz])
  obtain ⟨⟨p1, p2⟩, p3, p4⟩ := off_parts (hG x (List.mem_of_getElem? hx)) (hG y (List.mem_of_getElem? hy)) (hE z (List.mem_of_getElem? hz)) (N := (N : Int)) (by omega)
  have p5 := hG x (List.mem_of_getElem? hx)
  have c0 := (blk_facts hp).1 0
  have c1 := (blk_facts hp).1 1
  have c2 := (blk_facts hp).1 2
  have u1 : IntKind.i64.wrap (y * z) = y * z := IntWalk.i64_in _ (by omega)
  have hm1 : ((m : Int) - 1).toNat = m - 1 := by omega
  have hm2 : (1 : Int) ≤ (m : Int) := by omega
  have hn0 : ¬ (N : Int) = 0 := by omega
  have hn1 : ((N : Int) == 0) = false := by rw [beq_eq_false_iff_ne]; exact hn0
  clear hx hy hz hg he hG hE
  generalize offG G E N m t e = V at *
  go_enter Tryz.func313, Tryz.ntmps313
  go_wp2
  go_quiet (fail)
  go_wp2
  go_ret
  exact ⟨ret_i (by rw [hV.out]), below_drewN (Below.refl _ _) _⟩
theorem listed_up {listed : Array Bool} {c : Nat} (i : Nat) (h : listed.getD c false = true) : (listed.setIfInBounds i true).getD c false = true := by
  by_cases hic : i = c
  · subst hic
    rw [Array.getD_eq_getD_getElem?] at h ⊢
    rw [Array.getElem?_setIfInBounds_self]
    split
    · rfl
    · rename_i hlt; rw [Array.getElem?_eq_none (by omega)] at h; cases h
  · rw [getD_set_other _ hic]; exact h
theorem cell_setCell_self {w : World} {b o : Nat} {x : Value} (h : w.cell? ⟨b, o, none⟩ = some x) (v : Value) : (w.setCell ⟨b, o, none⟩ v).cell? ⟨b, o, none⟩ = some v := by
  unfold World.cell? at h
  cases hb : w.heap[b]? with
  | none => simp [hb] at h
  | some ob =>
    cases ob with
    | cells c t fz =>
      simp [hb] at h
      have hlt : o < c.size := by
        rcases Nat.lt_or_ge o c.size with h1 | h1
        · exact h1
        · rw [Array.getElem?_eq_none h1] at h; cases h
      simp [World.cell?, World.setCell, Array.getElem?_modify, hb, hlt]
    | _ => simp [hb] at h
/-- a state, some calls, and one store behind them: what it wrote stands -/
def KW (KK : World → Prop) (calls : List Nat) (st : Nat) (p : Addr) (v : Value) (listed : Array Bool) (w' : World) : Prop := KK w' ∧ (listed.getD st false = true → (∀ c ∈ calls, listed.getD c false = true) ∧ w'.cell? p = some v)
theorem KW.keep {KK : World → Prop} {calls : List Nat} {st i : Nat} {p : Addr} {v : Value} {listed : Array Bool} {w' : World} (h : KW KK calls st p v listed w') (hi : i ≠ st) : KW KK calls st p v (listed.setIfInBounds i true) w' := ⟨h.1, fun e => by
  rw [getD_set_other _ hi] at e
  obtain ⟨h1, h2⟩ := h.2 e
  exact ⟨fun c hc => listed_up i (h1 c hc), h2⟩⟩
theorem KW.call {KK : World → Prop} {calls : List Nat} {st i : Nat} {p : Addr} {v : Value} {listed : Array Bool} {w' w1 : World} (h : KW KK calls st p v listed w') (h0 : listed.getD i true = false) (hc : i ∈ calls) (hi : i ≠ st) (hk : KK w1) : KW KK calls st p v (listed.setIfInBounds i true) w1 := ⟨hk, fun e => by
  rw [getD_set_other _ hi] at e
  have h9 := (h.2 e).1 i hc
  have his : i < listed.size := by
    rcases Nat.lt_or_ge i listed.size with h' | h'
    · exact h'
    · rw [Array.getD_eq_getD_getElem?, Array.getElem?_eq_none h'] at h0; cases h0
  rw [Array.getD_eq_getD_getElem?, Array.getElem?_eq_getElem his] at h0 h9
  simp only [Option.getD_some] at h0 h9
  rw [h0] at h9; cases h9⟩
theorem KW.store {KK : World → Prop} {calls : List Nat} {st : Nat} {p : Addr} {v : Value} {listed : Array Bool} {w1 : World} (hk : KK w1) (hc : ∀ c ∈ calls, listed.getD c false = true) (hv : w1.cell? p = some v) : KW KK calls st p v (listed.setIfInBounds st true) w1 := ⟨hk, fun _ => ⟨fun c h => listed_up st (hc c h), hv⟩⟩
theorem KW.start {KK : World → Prop} {calls : List Nat} {st n : Nat} {p : Addr} {v : Value} {w1 : World} (hk : KK w1) : KW KK calls st p v (Array.replicate n false) w1 := ⟨hk, fun e => by rw [rep_false] at e; cases e⟩
/-- what a search for the ends holds: the pace, and what is known of the least sums (base: the world w) -/
structure PW (w : World) (P KB : Nat) (rb : Nat → Nat) (N M m : Nat) (Ae : Option Addr) (ce : Nat) (Ag : Option Addr) (cg : Nat) (off : Nat → Nat → Int) (wx : World) : Prop where
  pc : wx.heap[P]? = some (.cells #[.int .i64 N, .slice Ae M ce, .slice Ag m cg, .slice (some ⟨KB, 0, none⟩) m m] 300 (0, 0))
  kb : ∀ t, t < m → wx.cell? ⟨KB, t, none⟩ = some (.slice (some ⟨rb t, 0, none⟩) M M)
  kt : ∃ cs, wx.heap[KB]? = some (.cells cs 22 (0, 0))
  rw_ : ∀ t, t < m → ∃ xs : List Int, xs.length = M ∧ wx.heap[rb t]? = some (.cells (ints xs).toArray 3 (0, 0)) ∧ ∀ e x, xs[e]? = some x → x = -1 ∨ x = LP.lst off (M - 1 - e) (m - 1 - t) t e
  inj : ∀ t s, t < m → s < m → rb t = rb s → t = s
  lo : ∀ t, t < m → w.heap.size ≤ rb t
  gr : w.grownBy wx (some P)
section
variable {w wx w' : World} {P KB : Nat} {rb : Nat → Nat} {N M m : Nat} {Ae : Option Addr} {ce : Nat} {Ag : Option Addr} {cg : Nat} {off : Nat → Nat → Int}
theorem PW.below (h : PW w P KB rb N M m Ae ce Ag cg off wx) (hb : Below wx.heap.size wx w') : PW w P KB rb N M m Ae ce Ag cg off w' := by
  obtain ⟨cs, hk⟩ := h.kt
  refine ⟨blk_below h.pc hb, fun t ht => ?_, ⟨cs, blk_below hk hb⟩, fun t ht => ?_, h.inj, h.lo, grown_trans h.gr (grown_of_below hb)⟩
  · rw [hb.cell (p := ⟨KB, t, none⟩) (lt_of_heap hk)]; exact h.kb t ht
  · obtain ⟨xs, h1, h2, h3⟩ := h.rw_ t ht
    exact ⟨xs, h1, blk_below h2 hb, h3⟩
/-- one sum is known -/
theorem PW.put (h : PW w P KB rb N M m Ae ce Ag cg off wx) (hP : P < w.heap.size) {t e : Nat} (ht : t < m) (he : e < M) : PW w P KB rb N M m Ae ce Ag cg off (wx.setCell ⟨rb t, e, none⟩ (.int .i64 (LP.lst off (M - 1 - e) (m - 1 - t) t e))) := by
  obtain ⟨cs, hk⟩ := h.kt
  obtain ⟨xs, h1, h2, h3⟩ := h.rw_ t ht
  have hlo := h.lo t ht
  have hKB : KB ≠ rb t := fun e => by rw [e, h2] at hk; injection hk with hk; injection hk with _ hk; exact absurd hk (by decide)
  refine ⟨blk_other h.pc (p := ⟨rb t, e, none⟩) (by show P ≠ rb t; omega) _, fun s hs => ?_, ⟨cs, blk_other hk (p := ⟨rb t, e, none⟩) hKB _⟩, fun s hs => ?_, h.inj, h.lo, grown_setCell h.gr (p := ⟨rb t, e, none⟩) (.inr hlo) _⟩
  · rw [World.cell?_of_block (Below.heap_setCell wx ⟨rb t, e, none⟩ _ KB hKB)]; exact h.kb s hs
  · by_cases hst : s = t
    · subst hst
      refine ⟨xs.set e (LP.lst off (M - 1 - e) (m - 1 - s) s e), by rw [List.length_set]; exact h1, ?_, fun d x hx => ?_⟩
      · rw [blk_set h2, List.setIfInBounds_toArray, ← ints_set]
      · by_cases hd : d = e
        · subst hd
          rw [List.getElem?_set_self (by omega)] at hx
          injection hx with hx
          exact .inr hx.symm
        · rw [List.getElem?_set_ne (fun e => hd e.symm)] at hx
          exact h3 d x hx
    · obtain ⟨ys, g1, g2, g3⟩ := h.rw_ s hs
      exact ⟨ys, g1, blk_other g2 (p := ⟨rb t, e, none⟩) (by show rb s ≠ rb t; exact fun e => hst (h.inj s t hs ht e)) _, g3⟩
end
theorem lst_bd {off : Nat → Nat → Int} (hB : ∀ t e, 0 ≤ off t e ∧ off t e ≤ 1099511627776) : ∀ f d t e, d ≤ 100 → 0 ≤ LP.lst off f d t e ∧ LP.lst off f d t e ≤ 1125899906842624 := by
  intro f d t e hd
  rw [LP.lst_bst hB f d t e hd]
  cases h : LP.bst off f d t e with
  | none => simp
  | some x =>
    have := LP.bst_bd _ hB _ _ _ _ _ h
    have h2 : (d : Int) * 1099511627776 ≤ 100 * 1099511627776 := Int.mul_le_mul_of_nonneg_right (by omega) (by omega)
    simp only; omega
theorem lst_small {off : Nat → Nat → Int} (hB : ∀ t e, 0 ≤ off t e ∧ off t e ≤ 1099511627776) {f d : Nat} (t e : Nat) (hd : d ≤ 100) (hf : d ≤ f) : LP.lst off f d t e ≤ 109951162777600 := by
  rw [LP.lst_bst hB f d t e hd]
  cases h : LP.bst off f d t e with
  | none => have := (LP.bst_none off f d t e).1 h; omega
  | some x =>
    have := LP.bst_bd _ hB _ _ _ _ _ h
    have h2 : (d : Int) * 1099511627776 ≤ 100 * 1099511627776 := Int.mul_le_mul_of_nonneg_right (by omega) (by omega)
    simp only; omega
set_option maxHeartbeats 6400000 in
set_option maxRecDepth 100000 in
theorem leastK_c (P KB : Nat) (rb : Nat → Nat) (M m : Nat) (Ae : Option Addr) (ce : Nat) (Ag : Option Addr) (cg : Nat) (OF : Nat → Nat → Int) (KK : World → Prop) (hm : 1 ≤ m ∧ m ≤ 16) (hM : M ≤ 16) (hB : ∀ t e, 0 ≤ OF t e ∧ OF t e ≤ 1099511627776)
    (hOff : Hid (∀ t e, t < m → e < M → ∀ wx, KK wx → Calls Tryz.prog 313 #[.pointer (some ⟨P, 0, none⟩), .int .i64 t, .int .i64 e] wx fun e' w' => e' = .returned (.int .i64 (OF t e)) ∧ Below wx.heap.size wx w'))
    (hPb : ∀ wx w', KK wx → Below wx.heap.size wx w' → KK w')
    (hPp : ∀ wx t e, KK wx → t < m → e < M → KK (wx.setCell ⟨rb t, e, none⟩ (.int .i64 (LP.lst OF (M - 1 - e) (m - 1 - t) t e))))
    (hPc : ∀ wx, KK wx → wx.cell? ⟨P, 1, none⟩ = some (.slice Ae M ce) ∧ wx.cell? ⟨P, 2, none⟩ = some (.slice Ag m cg) ∧ wx.cell? ⟨P, 3, none⟩ = some (.slice (some ⟨KB, 0, none⟩) m m))
    (hPk : ∀ wx t, KK wx → t < m → wx.cell? ⟨KB, t, none⟩ = some (.slice (some ⟨rb t, 0, none⟩) M M))
    (hPr : ∀ wx t e, KK wx → t < m → e < M → ∃ x : Int, wx.cell? ⟨rb t, e, none⟩ = some (.int .i64 x) ∧ wx.frozen? ⟨rb t, e, none⟩ = false ∧ (x = -1 ∨ x = LP.lst OF (M - 1 - e) (m - 1 - t) t e)) :
    ∀ (f t e : Nat), t < m → e + f = M → ∀ wx, KK wx →
    Calls Tryz.prog 314 #[.pointer (some ⟨P, 0, none⟩), .int .i64 t, .int .i64 e] wx fun e' w' => e' = .returned (.int .i64 (LP.lst OF (M - 1 - e) (m - 1 - t) t e)) ∧ KK w' := by
  have hlb := Lib.hid (fun f d t e (hd : d ≤ 100) => lst_bd hB f d t e hd)
  have hls := Lib.hid (fun f d t e (hd : d ≤ 100) (hf : d ≤ f) => lst_small hB (f := f) (d := d) t e hd hf)
  have hL0 := Lib.hid (fun f t e => show LP.lst (OF) f 0 t e = 0 by cases f <;> rfl)
  have hLf := Lib.hid (fun f d t e (h : f < d) => show LP.lst (OF) f d t e = 1125899906842624 by
    cases d with
    | zero => omega
    | succ d =>
      cases f with
      | zero => rfl
      | succ f => unfold LP.lst; rw [if_pos h])
  have hLs := Lib.hid (fun f d t e (h : d ≤ f) => show LP.lst (OF) (f + 1) (d + 1) t e = min (OF t e + LP.lst (OF) f d (t + 1) (e + 1)) (LP.lst (OF) f (d + 1) t (e + 1)) by
    rw [LP.lst, if_neg (by omega)])
  generalize LP.lst OF = LS at *
  intro f
  induction f with
  | zero =>
    intro t e ht hf wx h
    obtain ⟨c1, c2, c3⟩ := hPc _ h
    by_cases hl : m - 1 - t = 0
    · rw [hl, hL0.out]
      have e1 : (m : Int) - 1 - (t : Int) = 0 := by omega
      go_enter Tryz.func314, Tryz.ntmps314
      go_wp2
      go_ret
      exact ⟨rfl, h⟩
    · rw [hLf.out _ _ _ _ (show M - 1 - e < m - 1 - t by omega)]
      have e1 : ((m : Int) - 1 - (t : Int) == 0) = false := by rw [beq_eq_false_iff_ne]; omega
      have e2 : (M : Int) - 1 - (e : Int) < (m : Int) - 1 - (t : Int) := by omega
      go_enter Tryz.func314, Tryz.ntmps314
      go_wp2
      go_ret
      exact ⟨rfl, h⟩
  | succ f ih =>
    intro t e ht hf wx h
    obtain ⟨c1, c2, c3⟩ := hPc _ h
    by_cases hl : m - 1 - t = 0
    · rw [hl, hL0.out]
      have e1 : (m : Int) - 1 - (t : Int) = 0 := by omega
      go_enter Tryz.func314, Tryz.ntmps314
      go_wp2
      go_ret
      exact ⟨rfl, h⟩
    have e1 : ((m : Int) - 1 - (t : Int) == 0) = false := by rw [beq_eq_false_iff_ne]; omega
    by_cases hfd : f < m - 1 - t
    · rw [hLf.out _ _ _ _ (show M - 1 - e < m - 1 - t by omega)]
      have e2 : (M : Int) - 1 - (e : Int) < (m : Int) - 1 - (t : Int) := by omega
      go_enter Tryz.func314, Tryz.ntmps314
      go_wp2
      go_ret
      exact ⟨rfl, h⟩
    have e2 : ¬ (M : Int) - 1 - (e : Int) < (m : Int) - 1 - (t : Int) := by omega
    have hkt := hPk _ t h ht
    obtain ⟨x, cx, fx, hx⟩ := hPr _ t e h ht (by omega)
    have hlp := hlb.out (M - 1 - e) (m - 1 - t) t e (by omega)
    by_cases hx0 : x < 0
    · have hval : Hid (LS (M - 1 - e) (m - 1 - t) t e = min (OF t e + LS (M - 1 - (e + 1)) (m - 1 - (t + 1)) (t + 1) (e + 1)) (LS (M - 1 - (e + 1)) (m - 1 - t) t (e + 1))) := Lib.hid (by
        have := hLs.out (M - 1 - (e + 1)) (m - 1 - (t + 1)) t e (by omega)
        rw [show M - 1 - (e + 1) + 1 = M - 1 - e by omega, show m - 1 - (t + 1) + 1 = m - 1 - t by omega] at this
        exact this)
      have h1 := Lib.hid (fun W hW => (hOff.out t e ht (by omega) W hW).mono (R' := fun e' w' => e' = .returned (.int .i64 (OF t e)) ∧ KK w') fun e' w' ⟨q1, q2⟩ => ⟨q1, hPb _ _ hW q2⟩)
      have h2 := Lib.hid (fun W hW => show Calls Tryz.prog 314 #[.pointer (some ⟨P, 0, none⟩), .int .i64 ((t : Int) + 1), .int .i64 ((e : Int) + 1)] W fun e' w' => e' = .returned (.int .i64 (LS (M - 1 - (e + 1)) (m - 1 - (t + 1)) (t + 1) (e + 1))) ∧ KK w' from ih (t + 1) (e + 1) (by omega) (by omega) W hW)
      have h3 := Lib.hid (fun W hW => show Calls Tryz.prog 314 #[.pointer (some ⟨P, 0, none⟩), .int .i64 t, .int .i64 ((e : Int) + 1)] W fun e' w' => e' = .returned (.int .i64 (LS (M - 1 - (e + 1)) (m - 1 - t) t (e + 1))) ∧ KK w' from ih t (e + 1) ht (by omega) W hW)
      have b1 := hB t e
      have b2 := hls.out (M - 1 - (e + 1)) (m - 1 - (t + 1)) (t + 1) (e + 1) (by omega) (by omega)
      have b3 := hlb.out (M - 1 - (e + 1)) (m - 1 - (t + 1)) (t + 1) (e + 1) (by omega)
      have hee : e < M := by omega
      have hPpe := Lib.hid (fun W hW => hPp W t e hW ht hee)
      have u1 : IntKind.i64.wrap (OF t e + LS (M - 1 - (e + 1)) (m - 1 - (t + 1)) (t + 1) (e + 1)) = OF t e + LS (M - 1 - (e + 1)) (m - 1 - (t + 1)) (t + 1) (e + 1) := IntWalk.i64_in _ (by omega)
      clear hx ih hlb hls hL0 hLf hLs hOff hB hPp
      generalize LS (M - 1 - e) (m - 1 - t) t e = LV at *
      generalize LS (M - 1 - (e + 1)) (m - 1 - (t + 1)) (t + 1) (e + 1) = L1 at *
      generalize LS (M - 1 - (e + 1)) (m - 1 - t) t (e + 1) = L2 at *
      generalize OF t e = O1 at *
      go_enter Tryz.func314, Tryz.ntmps314
      go_wp2_with fail
      have w1_ : IntKind.i64.wrap ((t : Int) + 1) = (t : Int) + 1 := IntWalk.i64_in _ (by omega)
      have w2_ : IntKind.i64.wrap ((e : Int) + 1) = (e : Int) + 1 := IntWalk.i64_in _ (by omega)
      have hdr : KK wx.drew := hPb _ _ h (below_drewN (Below.refl _ _) 1)
      --R7
      refine wp_region_inv (by kernel_rfl) (fun listed a w' => ∃ xs : Nat → Value, a = { tmps := #[.pointer (some ⟨P, 0, none⟩), .int .i64 (t : Int), .int .i64 (e : Int), undef, undef, undef, .int .i64 0, .int .i64 ((m : Int) - 1 - (t : Int)), .pointer (some ⟨P, 0, none⟩), .pointer (some ⟨P, 0, none⟩), .pointer (some ⟨P, 2, none⟩), .slice Ag m cg, .int .i64 (m : Int), .int .i64 ((m : Int) - 1), .int .i64 (t : Int), .int .i64 ((m : Int) - 1 - (t : Int)), .int .i64 ((m : Int) - 1 - (t : Int)), .bool false, .int .i64 ((m : Int) - 1 - (t : Int)), .pointer (some ⟨P, 0, none⟩), .pointer (some ⟨P, 0, none⟩), .pointer (some ⟨P, 1, none⟩), .slice Ae M ce, .int .i64 (M : Int), .int .i64 ((M : Int) - 1), .int .i64 (e : Int), .int .i64 ((M : Int) - 1 - (e : Int)), .bool false, .pointer (some ⟨P, 0, none⟩), .pointer (some ⟨P, 0, none⟩), .pointer (some ⟨P, 3, none⟩), .slice (some ⟨KB, 0, none⟩) m m, .int .i64 (t : Int), .pointer (some ⟨KB, t, none⟩), .slice (some ⟨rb t, 0, none⟩) M M, .int .i64 (e : Int), .pointer (some ⟨rb t, e, none⟩), .int .i64 x, .bool true, xs 0, xs 1, xs 2, xs 3, xs 4, xs 5, xs 6, xs 7, xs 8, xs 9, xs 10, xs 11, xs 12, xs 13, xs 14, xs 15, xs 16, xs 17, xs 18, xs 19, xs 20, xs 21, xs 22, xs 23, xs 24, xs 25, undef, undef, undef, undef, undef, undef, undef, undef, undef, undef], defers := [] } ∧ (∀ j, listed.getD j false = true → CT 3 3 3 (fun x : Int => [Value.int .i64 x]) [.val (.pointer (some ⟨P, 0, none⟩)), .val (.pointer (some ⟨P, 0, none⟩)), .val (.pointer (some ⟨P, 3, none⟩)), .val (.slice (some ⟨KB, 0, none⟩) m m), .val (.int .i64 (t : Int)), .val (.pointer (some ⟨KB, t, none⟩)), .val (.slice (some ⟨rb t, 0, none⟩) M M), .val (.int .i64 (e : Int)), .val (.pointer (some ⟨P, 0, none⟩)), .val (.int .i64 (t : Int)), .val (.int .i64 (e : Int)), .val (.int .i64 O1), .val (.pointer (some ⟨P, 0, none⟩)), .val (.int .i64 (t : Int)), .val (.int .i64 ((t : Int) + 1)), .val (.int .i64 (e : Int)), .val (.int .i64 ((e : Int) + 1)), .val (.int .i64 L1), .val (.int .i64 (O1 + L1)), .val (.pointer (some ⟨P, 0, none⟩)), .val (.int .i64 (t : Int)), .val (.int .i64 (e : Int)), .val (.int .i64 ((e : Int) + 1)), .val (.int .i64 L2), .val (.int .i64 (min (O1 + L1) (L2))), .val (.pointer (some ⟨rb t, e, none⟩)), .any] j w' (xs j)) ∧ KW KK [11, 17, 23] 26 ⟨rb t, e, none⟩ (.int .i64 LV) listed w') ?h0 (AllOps.of ?hs) ?he
      case h0 => exact ⟨fun j => match j with | 0 => undef | 1 => undef | 2 => undef | 3 => undef | 4 => undef | 5 => undef | 6 => undef | 7 => undef | 8 => undef | 9 => undef | 10 => undef | 11 => undef | 12 => undef | 13 => undef | 14 => undef | 15 => undef | 16 => undef | 17 => undef | 18 => undef | 19 => undef | 20 => undef | 21 => undef | 22 => undef | 23 => undef | 24 => undef | 25 => undef | _ => undef, rfl, (fun j hj => by rw [rep_false] at hj; cases hj), KW.start hdr⟩
      case hs =>
        refine ⟨?_, ?_, ?_, ?_, ?_, ?_, ?_, ?_, ?_, ?_, ?_, ?_, ?_, ?_, ?_, ?_, ?_, ?_, ?_, ?_, ?_, ?_, ?_, ?_, ?_, ?_, ?_, trivial⟩
        · intro listed a w' hs hI h0 hd K' hK
          obtain ⟨xs, rfl, hC, hW⟩ := hI
          have hK2 := Lib.hid hK
          have hC2 := Lib.hid hC
          clear hd hK hC h0
          go_simp
          exact hK2.out _ _ ⟨updV xs 0 (.pointer (some ⟨P, 0, none⟩)), by simp [updV], cond_set hC2.out (fun _ _ h => h) rfl, hW.keep (by decide)⟩
        · intro listed a w' hs hI h0 hd K' hK
          obtain ⟨xs, rfl, hC, hW⟩ := hI
          have e0 : xs 0 = (.pointer (some ⟨P, 0, none⟩)) := hC 0 (hd ⟨0, .data⟩ (by simp) rfl)
          have hK2 := Lib.hid hK
          have hC2 := Lib.hid hC
          clear hd hK hC h0
          go_simp
          exact hK2.out _ _ ⟨updV xs 1 (.pointer (some ⟨P, 0, none⟩)), by simp [updV, e0], cond_set hC2.out (fun _ _ h => h) rfl, hW.keep (by decide)⟩
        · intro listed a w' hs hI h0 hd K' hK
          obtain ⟨xs, rfl, hC, hW⟩ := hI
          have e1 : xs 1 = (.pointer (some ⟨P, 0, none⟩)) := hC 1 (hd ⟨1, .data⟩ (by simp) rfl)
          have hK2 := Lib.hid hK
          have hC2 := Lib.hid hC
          clear hd hK hC h0
          go_simp
          exact hK2.out _ _ ⟨updV xs 2 (.pointer (some ⟨P, 3, none⟩)), by simp [updV, e1], cond_set hC2.out (fun _ _ h => h) rfl, hW.keep (by decide)⟩
        · intro listed a w' hs hI h0 hd K' hK
          obtain ⟨xs, rfl, hC, hW⟩ := hI
          have e2 : xs 2 = (.pointer (some ⟨P, 3, none⟩)) := hC 2 (hd ⟨2, .data⟩ (by simp) rfl)
          have hK2 := Lib.hid hK
          have hC2 := Lib.hid hC
          have c9 := (hPc _ hW.1).2.2
          clear hd hK hC h0
          go_simp
          exact hK2.out _ _ ⟨updV xs 3 (.slice (some ⟨KB, 0, none⟩) m m), by simp [updV, e2], cond_set hC2.out (fun _ _ h => h) rfl, hW.keep (by decide)⟩
        · intro listed a w' hs hI h0 hd K' hK
          obtain ⟨xs, rfl, hC, hW⟩ := hI
          have hK2 := Lib.hid hK
          have hC2 := Lib.hid hC
          clear hd hK hC h0
          go_simp
          exact hK2.out _ _ ⟨updV xs 4 (.int .i64 (t : Int)), by simp [updV], cond_set hC2.out (fun _ _ h => h) rfl, hW.keep (by decide)⟩
        · intro listed a w' hs hI h0 hd K' hK
          obtain ⟨xs, rfl, hC, hW⟩ := hI
          have e3 : xs 3 = (.slice (some ⟨KB, 0, none⟩) m m) := hC 3 (hd ⟨3, .data⟩ (by simp) rfl)
          have e4 : xs 4 = (.int .i64 (t : Int)) := hC 4 (hd ⟨4, .data⟩ (by simp) rfl)
          have hK2 := Lib.hid hK
          have hC2 := Lib.hid hC
          clear hd hK hC h0
          go_simp
          exact hK2.out _ _ ⟨updV xs 5 (.pointer (some ⟨KB, t, none⟩)), by simp [updV, e3, e4], cond_set hC2.out (fun _ _ h => h) rfl, hW.keep (by decide)⟩
        · intro listed a w' hs hI h0 hd K' hK
          obtain ⟨xs, rfl, hC, hW⟩ := hI
          have e5 : xs 5 = (.pointer (some ⟨KB, t, none⟩)) := hC 5 (hd ⟨5, .data⟩ (by simp) rfl)
          have hK2 := Lib.hid hK
          have hC2 := Lib.hid hC
          have c9 := hPk _ t hW.1 ht
          clear hd hK hC h0
          go_simp
          exact hK2.out _ _ ⟨updV xs 6 (.slice (some ⟨rb t, 0, none⟩) M M), by simp [updV, e5], cond_set hC2.out (fun _ _ h => h) rfl, hW.keep (by decide)⟩
        · intro listed a w' hs hI h0 hd K' hK
          obtain ⟨xs, rfl, hC, hW⟩ := hI
          have hK2 := Lib.hid hK
          have hC2 := Lib.hid hC
          clear hd hK hC h0
          go_simp
          exact hK2.out _ _ ⟨updV xs 7 (.int .i64 (e : Int)), by simp [updV], cond_set hC2.out (fun _ _ h => h) rfl, hW.keep (by decide)⟩
        · intro listed a w' hs hI h0 hd K' hK
          obtain ⟨xs, rfl, hC, hW⟩ := hI
          have hK2 := Lib.hid hK
          have hC2 := Lib.hid hC
          clear hd hK hC h0
          go_simp
          exact hK2.out _ _ ⟨updV xs 8 (.pointer (some ⟨P, 0, none⟩)), by simp [updV], cond_set hC2.out (fun _ _ h => h) rfl, hW.keep (by decide)⟩
        · intro listed a w' hs hI h0 hd K' hK
          obtain ⟨xs, rfl, hC, hW⟩ := hI
          have hK2 := Lib.hid hK
          have hC2 := Lib.hid hC
          clear hd hK hC h0
          go_simp
          exact hK2.out _ _ ⟨updV xs 9 (.int .i64 (t : Int)), by simp [updV], cond_set hC2.out (fun _ _ h => h) rfl, hW.keep (by decide)⟩
        · intro listed a w' hs hI h0 hd K' hK
          obtain ⟨xs, rfl, hC, hW⟩ := hI
          have hK2 := Lib.hid hK
          have hC2 := Lib.hid hC
          clear hd hK hC h0
          go_simp
          exact hK2.out _ _ ⟨updV xs 10 (.int .i64 (e : Int)), by simp [updV], cond_set hC2.out (fun _ _ h => h) rfl, hW.keep (by decide)⟩
        · intro listed a w' hs hI h0 hd K' hK
          obtain ⟨xs, rfl, hC, hW⟩ := hI
          have e8 : xs 8 = (.pointer (some ⟨P, 0, none⟩)) := hC 8 (hd ⟨8, .data⟩ (by simp) rfl)
          have e9 : xs 9 = (.int .i64 (t : Int)) := hC 9 (hd ⟨9, .data⟩ (by simp) rfl)
          have e10 : xs 10 = (.int .i64 (e : Int)) := hC 10 (hd ⟨10, .data⟩ (by simp) rfl)
          have hK2 := Lib.hid hK
          have hC2 := Lib.hid hC
          clear hd hK hC
          go_simp
          refine (h1.out _ hW.1).mono ?_; rintro e' w1 ⟨rfl, hW1⟩
          exact hK2.out _ _ ⟨updV xs 11 (.int .i64 O1), by simp [updV, e8, e9, e10], cond_set hC2.out (fun _ _ h => CT.val (by rfl) h) rfl, hW.call h0 (by decide) (by decide) hW1⟩
        · intro listed a w' hs hI h0 hd K' hK
          obtain ⟨xs, rfl, hC, hW⟩ := hI
          have hK2 := Lib.hid hK
          have hC2 := Lib.hid hC
          clear hd hK hC h0
          go_simp
          exact hK2.out _ _ ⟨updV xs 12 (.pointer (some ⟨P, 0, none⟩)), by simp [updV], cond_set hC2.out (fun _ _ h => h) rfl, hW.keep (by decide)⟩
        · intro listed a w' hs hI h0 hd K' hK
          obtain ⟨xs, rfl, hC, hW⟩ := hI
          have hK2 := Lib.hid hK
          have hC2 := Lib.hid hC
          clear hd hK hC h0
          go_simp
          exact hK2.out _ _ ⟨updV xs 13 (.int .i64 (t : Int)), by simp [updV], cond_set hC2.out (fun _ _ h => h) rfl, hW.keep (by decide)⟩
        · intro listed a w' hs hI h0 hd K' hK
          obtain ⟨xs, rfl, hC, hW⟩ := hI
          have e13 : xs 13 = (.int .i64 (t : Int)) := hC 13 (hd ⟨13, .data⟩ (by simp) rfl)
          have hK2 := Lib.hid hK
          have hC2 := Lib.hid hC
          clear hd hK hC h0
          go_simp
          exact hK2.out _ _ ⟨updV xs 14 (.int .i64 ((t : Int) + 1)), by simp [updV, e13], cond_set hC2.out (fun _ _ h => h) rfl, hW.keep (by decide)⟩
        · intro listed a w' hs hI h0 hd K' hK
          obtain ⟨xs, rfl, hC, hW⟩ := hI
          have hK2 := Lib.hid hK
          have hC2 := Lib.hid hC
          clear hd hK hC h0
          go_simp
          exact hK2.out _ _ ⟨updV xs 15 (.int .i64 (e : Int)), by simp [updV], cond_set hC2.out (fun _ _ h => h) rfl, hW.keep (by decide)⟩
        · intro listed a w' hs hI h0 hd K' hK
          obtain ⟨xs, rfl, hC, hW⟩ := hI
          have e15 : xs 15 = (.int .i64 (e : Int)) := hC 15 (hd ⟨15, .data⟩ (by simp) rfl)
          have hK2 := Lib.hid hK
          have hC2 := Lib.hid hC
          clear hd hK hC h0
          go_simp
          exact hK2.out _ _ ⟨updV xs 16 (.int .i64 ((e : Int) + 1)), by simp [updV, e15], cond_set hC2.out (fun _ _ h => h) rfl, hW.keep (by decide)⟩
        · intro listed a w' hs hI h0 hd K' hK
          obtain ⟨xs, rfl, hC, hW⟩ := hI
          have e12 : xs 12 = (.pointer (some ⟨P, 0, none⟩)) := hC 12 (hd ⟨12, .data⟩ (by simp) rfl)
          have e14 : xs 14 = (.int .i64 ((t : Int) + 1)) := hC 14 (hd ⟨14, .data⟩ (by simp) rfl)
          have e16 : xs 16 = (.int .i64 ((e : Int) + 1)) := hC 16 (hd ⟨16, .data⟩ (by simp) rfl)
          have hK2 := Lib.hid hK
          have hC2 := Lib.hid hC
          clear hd hK hC
          go_simp
          refine (h2.out _ hW.1).mono ?_; rintro e' w1 ⟨rfl, hW1⟩
          exact hK2.out _ _ ⟨updV xs 17 (.int .i64 L1), by simp [updV, e12, e14, e16], cond_set hC2.out (fun _ _ h => CT.val (by rfl) h) rfl, hW.call h0 (by decide) (by decide) hW1⟩
        · intro listed a w' hs hI h0 hd K' hK
          obtain ⟨xs, rfl, hC, hW⟩ := hI
          have e11 : xs 11 = (.int .i64 O1) := hC 11 (hd ⟨11, .data⟩ (by simp) rfl)
          have e17 : xs 17 = (.int .i64 L1) := hC 17 (hd ⟨17, .data⟩ (by simp) rfl)
          have hK2 := Lib.hid hK
          have hC2 := Lib.hid hC
          clear hd hK hC h0
          go_simp
          exact hK2.out _ _ ⟨updV xs 18 (.int .i64 (O1 + L1)), by simp [updV, e11, e17], cond_set hC2.out (fun _ _ h => h) rfl, hW.keep (by decide)⟩
        · intro listed a w' hs hI h0 hd K' hK
          obtain ⟨xs, rfl, hC, hW⟩ := hI
          have hK2 := Lib.hid hK
          have hC2 := Lib.hid hC
          clear hd hK hC h0
          go_simp
          exact hK2.out _ _ ⟨updV xs 19 (.pointer (some ⟨P, 0, none⟩)), by simp [updV], cond_set hC2.out (fun _ _ h => h) rfl, hW.keep (by decide)⟩
        · intro listed a w' hs hI h0 hd K' hK
          obtain ⟨xs, rfl, hC, hW⟩ := hI
          have hK2 := Lib.hid hK
          have hC2 := Lib.hid hC
          clear hd hK hC h0
          go_simp
          exact hK2.out _ _ ⟨updV xs 20 (.int .i64 (t : Int)), by simp [updV], cond_set hC2.out (fun _ _ h => h) rfl, hW.keep (by decide)⟩
        · intro listed a w' hs hI h0 hd K' hK
          obtain ⟨xs, rfl, hC, hW⟩ := hI
          have hK2 := Lib.hid hK
          have hC2 := Lib.hid hC
          clear hd hK hC h0
          go_simp
          exact hK2.out _ _ ⟨updV xs 21 (.int .i64 (e : Int)), by simp [updV], cond_set hC2.out (fun _ _ h => h) rfl, hW.keep (by decide)⟩
        · intro listed a w' hs hI h0 hd K' hK
          obtain ⟨xs, rfl, hC, hW⟩ := hI
          have e21 : xs 21 = (.int .i64 (e : Int)) := hC 21 (hd ⟨21, .data⟩ (by simp) rfl)
          have hK2 := Lib.hid hK
          have hC2 := Lib.hid hC
          clear hd hK hC h0
          go_simp
          exact hK2.out _ _ ⟨updV xs 22 (.int .i64 ((e : Int) + 1)), by simp [updV, e21], cond_set hC2.out (fun _ _ h => h) rfl, hW.keep (by decide)⟩
        · intro listed a w' hs hI h0 hd K' hK
          obtain ⟨xs, rfl, hC, hW⟩ := hI
          have e19 : xs 19 = (.pointer (some ⟨P, 0, none⟩)) := hC 19 (hd ⟨19, .data⟩ (by simp) rfl)
          have e20 : xs 20 = (.int .i64 (t : Int)) := hC 20 (hd ⟨20, .data⟩ (by simp) rfl)
          have e22 : xs 22 = (.int .i64 ((e : Int) + 1)) := hC 22 (hd ⟨22, .data⟩ (by simp) rfl)
          have hK2 := Lib.hid hK
          have hC2 := Lib.hid hC
          clear hd hK hC
          go_simp
          refine (h3.out _ hW.1).mono ?_; rintro e' w1 ⟨rfl, hW1⟩
          exact hK2.out _ _ ⟨updV xs 23 (.int .i64 L2), by simp [updV, e19, e20, e22], cond_set hC2.out (fun _ _ h => CT.val (by rfl) h) rfl, hW.call h0 (by decide) (by decide) hW1⟩
        · intro listed a w' hs hI h0 hd K' hK
          obtain ⟨xs, rfl, hC, hW⟩ := hI
          have e18 : xs 18 = (.int .i64 (O1 + L1)) := hC 18 (hd ⟨18, .data⟩ (by simp) rfl)
          have e23 : xs 23 = (.int .i64 L2) := hC 23 (hd ⟨23, .data⟩ (by simp) rfl)
          have hK2 := Lib.hid hK
          have hC2 := Lib.hid hC
          clear hd hK hC h0
          go_simp
          exact hK2.out _ _ ⟨updV xs 24 (.int .i64 (min (O1 + L1) (L2))), by simp [updV, e18, e23], cond_set hC2.out (fun _ _ h => h) rfl, hW.keep (by decide)⟩
        · intro listed a w' hs hI h0 hd K' hK
          obtain ⟨xs, rfl, hC, hW⟩ := hI
          have e6 : xs 6 = (.slice (some ⟨rb t, 0, none⟩) M M) := hC 6 (hd ⟨6, .data⟩ (by simp) rfl)
          have e7 : xs 7 = (.int .i64 (e : Int)) := hC 7 (hd ⟨7, .data⟩ (by simp) rfl)
          have hK2 := Lib.hid hK
          have hC2 := Lib.hid hC
          clear hd hK hC h0
          go_simp
          exact hK2.out _ _ ⟨updV xs 25 (.pointer (some ⟨rb t, e, none⟩)), by simp [updV, e6, e7], cond_set hC2.out (fun _ _ h => h) rfl, hW.keep (by decide)⟩
        · intro listed a w' hs hI h0 hd K' hK
          obtain ⟨xs, rfl, hC, hW⟩ := hI
          have e24 : xs 24 = (.int .i64 (min (O1 + L1) (L2))) := hC 24 (hd ⟨24, .data⟩ (by simp) rfl)
          have e25 : xs 25 = (.pointer (some ⟨rb t, e, none⟩)) := hC 25 (hd ⟨25, .data⟩ (by simp) rfl)
          have hK2 := Lib.hid hK
          have hC2 := Lib.hid hC
          obtain ⟨x9, cx9, fx9, _⟩ := hPr _ t e hW.1 ht hee
          have hS9 := Lib.hid (hPpe.out _ hW.1)
          have hX9 := Lib.hid (cell_setCell_self cx9 (.int .i64 LV))
          rw [hval.out] at hS9 hX9
          have hc9 : ∀ c ∈ [11, 17, 23], listed.getD c false = true := fun c hc => by simp only [List.mem_cons, List.not_mem_nil, or_false] at hc; rcases hc with rfl | rfl | rfl <;> first | exact hd ⟨11, .phase⟩ (by simp) rfl | exact hd ⟨17, .phase⟩ (by simp) rfl | exact hd ⟨23, .phase⟩ (by simp) rfl
          clear hd hK hC h0
          go_simp
          exact hK2.out _ _ ⟨updV xs 26 (undef), by simp [updV, e24, e25], cond_set hC2.out (fun _ _ h => CT.val (by rfl) h) trivial, KW.store hS9.out hc9 (by first | exact hX9.out | (rw [hval.out]; exact hX9.out))⟩
      case he =>
        intro listed a w' hs hI hr
        obtain ⟨xs, rfl, hC, hW⟩ := hI
        obtain ⟨hW1, hW2⟩ := hW
        have cst := (hW2 (all_listed hs hr ⟨rfl, rfl, rfl, rfl, rfl, rfl, rfl, rfl, rfl, rfl, rfl, rfl, rfl, rfl, rfl, rfl, rfl, rfl, rfl, rfl, rfl, rfl, rfl, rfl, rfl, rfl, rfl, trivial⟩ 26 (by simp))).2
        clear hC hs hr hW2
        try dsimp only
        obtain ⟨c91, c92, c93⟩ := hPc _ hW1
        have k99 := hPk _ t hW1 ht
        go_wp2
        go_ret
        exact ⟨rfl, hW1⟩
      --R7 end
    · have hx1 : x = LS (M - 1 - e) (m - 1 - t) t e := by
        rcases hx with hx | hx
        · omega
        · exact hx
      subst hx1
      generalize LS (M - 1 - e) (m - 1 - t) t e = LV at *
      clear hx ih hB
      go_enter Tryz.func314, Tryz.ntmps314
      go_wp2
      go_ret
      exact ⟨rfl, h⟩
/-- .. over a table that is held, beside whatever its writes leave alone -/
theorem least_c (w : World) (P KB : Nat) (rb : Nat → Nat) (N M m : Nat) (Ae : Option Addr) (ce : Nat) (E : List Int) (Ag : Option Addr) (cg : Nat) (G : List Int) (X : World → Prop) (hXb : ∀ wx w', X wx → Below wx.heap.size wx w' → X w') (he : RI 3 w Ae M E) (hg : RI 3 w Ag m G) (hP : P < w.heap.size) (hPt : ∃ cs, w.heap[P]? = some (.cells cs 300 (0, 0))) (hXs : ∀ wx t e v, t < m → X wx → X (wx.setCell ⟨rb t, e, none⟩ (.int .i64 v))) (hm : 1 ≤ m ∧ m ≤ 16) (hM : M ≤ 16) (hN : 1 ≤ N ∧ N ≤ 16) (hG : ∀ x ∈ G, 0 ≤ x ∧ x ≤ 1000000000) (hE : ∀ x ∈ E, 0 ≤ x ∧ x ≤ 16) :
    (∀ t e, t < m → e < M → ∀ wx, PW w P KB rb N M m Ae ce Ag cg (offG G E N m) wx ∧ X wx → Calls Tryz.prog 313 #[.pointer (some ⟨P, 0, none⟩), .int .i64 t, .int .i64 e] wx fun e' w' => e' = .returned (.int .i64 (offG G E N m t e)) ∧ Below wx.heap.size wx w') ∧
    ∀ (f t e : Nat), t < m → e + f = M → ∀ wx, PW w P KB rb N M m Ae ce Ag cg (offG G E N m) wx ∧ X wx →
    Calls Tryz.prog 314 #[.pointer (some ⟨P, 0, none⟩), .int .i64 t, .int .i64 e] wx fun e' w' => e' = .returned (.int .i64 (LP.lst (offG G E N m) (M - 1 - e) (m - 1 - t) t e)) ∧ (PW w P KB rb N M m Ae ce Ag cg (offG G E N m) w' ∧ X w') := by
  have hOff : ∀ t e, t < m → e < M → ∀ wx, PW w P KB rb N M m Ae ce Ag cg (offG G E N m) wx ∧ X wx → Calls Tryz.prog 313 #[.pointer (some ⟨P, 0, none⟩), .int .i64 t, .int .i64 e] wx fun e' w' => e' = .returned (.int .i64 (offG G E N m t e)) ∧ Below wx.heap.size wx w' := fun t e ht hee wx h => off_c P N M m Ae ce E Ag cg G _ t e wx h.1.pc (he.keep (T := 300) (by decide) (hPt.elim fun cs hc => Keep.of_grown hc h.1.gr)) (hg.keep (T := 300) (by decide) (hPt.elim fun cs hc => Keep.of_grown hc h.1.gr)) ht hee (by omega) hM hN hG hE
  refine ⟨hOff, leastK_c P KB rb M m Ae ce Ag cg (offG G E N m) (fun wx => PW w P KB rb N M m Ae ce Ag cg (offG G E N m) wx ∧ X wx) hm hM (offG_bd (N := (N : Int)) (m := m) hG hE (by omega)) (Lib.hid hOff) (fun wx w' h hb => ⟨h.1.below hb, hXb wx w' h.2 hb⟩) (fun wx t e h ht hee => ⟨h.1.put hP ht hee, hXs _ _ _ _ ht h.2⟩) (fun _ h => ⟨(blk_facts h.1.pc).1 1, (blk_facts h.1.pc).1 2, (blk_facts h.1.pc).1 3⟩) (fun _ _ h ht => h.1.kb _ ht) (fun wx t e h ht hee => ?_)⟩
  obtain ⟨xs, h1, h2, h3⟩ := h.1.rw_ t ht
  obtain ⟨x, hx⟩ := at_of_lt (l := xs) (k := e) (by omega)
  refine ⟨x, ?_, (blk_facts h2).2 e, h3 e x hx⟩
  rw [(blk_facts h2).1 e]
  simp [ints_at, hx]
theorem PW.high {w wx w' : World} {P KB : Nat} {rb : Nat → Nat} {N M m : Nat} {Ae : Option Addr} {ce : Nat} {Ag : Option Addr} {cg : Nat} {off : Nat → Nat → Int} {row : Option Nat} {B : Nat} (h : PW w P KB rb N M m Ae ce Ag cg off wx) (hg : wx.grownBy w' row) (hr : ∀ i, row = some i → B ≤ i) (hPB : P < B) (hKB : KB < B) (hrb : ∀ t, t < m → rb t < B) (hwB : w.heap.size ≤ B) : PW w P KB rb N M m Ae ce Ag cg off w' := by
  obtain ⟨cs, hk⟩ := h.kt
  have hk2 := blk_grown hk hg (fun e => by have := hr _ e.symm; omega)
  refine ⟨blk_grown h.pc hg (fun e => by have := hr _ e.symm; omega), fun t ht => ?_, ⟨cs, hk2⟩, fun t ht => ?_, h.inj, h.lo, grown_own h.gr hg (fun i e => by have := hr i e; omega)⟩
  · have := h.kb t ht
    rw [(blk_facts hk).1 t] at this
    rw [(blk_facts hk2).1 t]; exact this
  · obtain ⟨xs, h1, h2, h3⟩ := h.rw_ t ht
    exact ⟨xs, h1, blk_grown h2 hg (fun e => by have := hr _ e.symm; have := hrb t ht; omega), h3⟩
end Go.Proofs.YtpepdkgkdbnakaaGreatDoor

/- (*pace).stand. -/
namespace Go.Proofs.YtpepdkgkdbnakaaGreatDoor
open Go.RowKit Go.Lib
set_option linter.unusedVariables false

/-- the table under way: k rows of it are made -/
structure TW2 (w : World) (P KB : Nat) (rb : Nat → Nat) (N M m k : Nat) (Ae : Option Addr) (ce : Nat) (Ag : Option Addr) (cg : Nat) (wx : World) : Prop where
  pc : wx.heap[P]? = some (.cells #[.int .i64 N, .slice Ae M ce, .slice Ag m cg, .slice (some ⟨KB, 0, none⟩) m m] 300 (0, 0))
  kb : ∃ cs : Array Value, wx.heap[KB]? = some (.cells cs 22 (0, 0)) ∧ cs.size = m ∧ ∀ t, t < k → cs[t]? = some (.slice (some ⟨rb t, 0, none⟩) M M)
  rows : ∀ t, t < k → wx.heap[rb t]? = some (.cells (ints (List.replicate M (-1))).toArray 3 (0, 0))
  inj : ∀ t s, t < k → s < k → rb t = rb s → t = s
  lo : ∀ t, t < k → w.heap.size ≤ rb t
  lk : w.heap.size ≤ KB
  gr : w.grownBy wx (some P)
theorem TW2.done {w wx : World} {P KB : Nat} {rb : Nat → Nat} {N M m : Nat} {Ae : Option Addr} {ce : Nat} {Ag : Option Addr} {cg : Nat} (off : Nat → Nat → Int) (h : TW2 w P KB rb N M m m Ae ce Ag cg wx) : PW w P KB rb N M m Ae ce Ag cg off wx := by
  obtain ⟨cs, h1, h2, h3⟩ := h.kb
  refine ⟨h.pc, fun t ht => ?_, ⟨cs, h1⟩, fun t ht => ⟨List.replicate M (-1), List.length_replicate, h.rows t ht, fun e x hx => ?_⟩, h.inj, h.lo, h.gr⟩
  · rw [(blk_facts h1).1 t]; exact h3 t ht
  · rw [List.getElem?_replicate] at hx
    split at hx
    · injection hx with hx; exact .inl hx.symm
    · cases hx
theorem TW2.below {w wx w' : World} {P KB : Nat} {rb : Nat → Nat} {N M m k : Nat} {Ae : Option Addr} {ce : Nat} {Ag : Option Addr} {cg : Nat} (h : TW2 w P KB rb N M m k Ae ce Ag cg wx) (hb : Below wx.heap.size wx w') : TW2 w P KB rb N M m k Ae ce Ag cg w' := by
  obtain ⟨cs, h1, h2, h3⟩ := h.kb
  exact ⟨blk_below h.pc hb, ⟨cs, blk_below h1 hb, h2, h3⟩, fun t ht => blk_below (h.rows t ht) hb, h.inj, h.lo, h.lk, grown_trans h.gr (grown_of_below hb)⟩
/-- one row under way: block z, its first e numbers are -1 -/
structure TW3 (w : World) (P KB : Nat) (rb : Nat → Nat) (N M m k z e : Nat) (Ae : Option Addr) (ce : Nat) (Ag : Option Addr) (cg : Nat) (wx : World) : Prop where
  pc : wx.heap[P]? = some (.cells #[.int .i64 N, .slice Ae M ce, .slice Ag m cg, .slice (some ⟨KB, 0, none⟩) m m] 300 (0, 0))
  kb : ∃ cs : Array Value, wx.heap[KB]? = some (.cells cs 22 (0, 0)) ∧ cs.size = m ∧ (∀ t, t < k → cs[t]? = some (.slice (some ⟨rb t, 0, none⟩) M M)) ∧ cs[k]? = some (.slice (some ⟨z, 0, none⟩) M M)
  rows : ∀ t, t < k → wx.heap[rb t]? = some (.cells (ints (List.replicate M (-1))).toArray 3 (0, 0))
  zr : wx.heap[z]? = some (.cells (ints (List.replicate e (-1) ++ List.replicate (M - e) 0)).toArray 3 (0, 0))
  zn : ∀ t, t < k → rb t ≠ z
  inj : ∀ t s, t < k → s < k → rb t = rb s → t = s
  lo : ∀ t, t < k → w.heap.size ≤ rb t
  lz : w.heap.size ≤ z
  lk : w.heap.size ≤ KB
  gr : w.grownBy wx (some P)
theorem TW3.done {w wx : World} {P KB : Nat} {rb : Nat → Nat} {N M m k z : Nat} {Ae : Option Addr} {ce : Nat} {Ag : Option Addr} {cg : Nat} (h : TW3 w P KB rb N M m k z M Ae ce Ag cg wx) : TW2 w P KB (fun t => if t = k then z else rb t) N M m (k + 1) Ae ce Ag cg wx := by
  obtain ⟨cs, h1, h2, h3, h4⟩ := h.kb
  refine ⟨h.pc, ⟨cs, h1, h2, fun t ht => ?_⟩, fun t ht => ?_, fun t s ht hs e => ?_, fun t ht => ?_, h.lk, h.gr⟩
  · by_cases htk : t = k
    · subst htk; simp only [if_true]; exact h4
    · simp only [if_neg htk]; exact h3 t (by omega)
  · by_cases htk : t = k
    · subst htk; simp only [if_true]; have := h.zr; rw [Nat.sub_self, List.replicate_zero, List.append_nil] at this; exact this
    · simp only [if_neg htk]; exact h.rows t (by omega)
  · by_cases htk : t = k
    · by_cases hsk : s = k
      · omega
      · subst htk; simp only [if_true, if_neg hsk] at e; exact absurd e.symm (h.zn s (by omega))
    · by_cases hsk : s = k
      · subst hsk; simp only [if_true, if_neg htk] at e; exact absurd e (h.zn t (by omega))
      · simp only [if_neg htk, if_neg hsk] at e; exact h.inj t s (by omega) (by omega) e
  · by_cases htk : t = k
    · subst htk; simp only [if_true]; exact h.lz
    · simp only [if_neg htk]; exact h.lo t (by omega)
theorem repl_set (e M : Nat) (he : e < M) : (List.replicate e (-1 : Int) ++ List.replicate (M - e) 0).set e (-1) = List.replicate (e + 1) (-1) ++ List.replicate (M - (e + 1)) 0 := by
  rw [List.set_append_right _ _ (by rw [List.length_replicate]; exact Nat.le_refl _), List.length_replicate, Nat.sub_self, show M - e = (M - (e + 1)) + 1 by omega, List.replicate_succ, List.set_cons_zero, List.replicate_succ', List.append_assoc]
  rfl
theorem TW3.put {w wx : World} {P KB : Nat} {rb : Nat → Nat} {N M m k z e : Nat} {Ae : Option Addr} {ce : Nat} {Ag : Option Addr} {cg : Nat} (h : TW3 w P KB rb N M m k z e Ae ce Ag cg wx) (hP : P < w.heap.size) (he : e < M) : TW3 w P KB rb N M m k z (e + 1) Ae ce Ag cg (wx.setCell ⟨z, e, none⟩ (.int .i64 (-1))) := by
  obtain ⟨cs, h1, h2, h3, h4⟩ := h.kb
  have hzk : KB ≠ z := fun e => by
    have := h.zr
    rw [e, this] at h1
    injection h1 with h1
    injection h1 with _ h1
    exact absurd h1 (by decide)
  have hlz := h.lz
  refine ⟨blk_other h.pc (p := ⟨z, e, none⟩) (by show P ≠ z; omega) _, ⟨cs, blk_other h1 (p := ⟨z, e, none⟩) hzk _, h2, h3, h4⟩, fun t ht => blk_other (h.rows t ht) (p := ⟨z, e, none⟩) (h.zn t ht) _, ?_, h.zn, h.inj, h.lo, h.lz, h.lk, grown_setCell h.gr (p := ⟨z, e, none⟩) (.inr hlz) _⟩
  rw [blk_set h.zr, List.setIfInBounds_toArray, ints_set, repl_set e M he]
/-- a further end is within reach where this one is not taken -/
theorem stand_step {off : Nat → Nat → Int} (hB : ∀ t e, 0 ≤ off t e ∧ off t e ≤ 1099511627776) {f d t e : Nat} (hd : d + 1 ≤ 100) (hdf : d ≤ f) (hne : off t e + LP.lst off f d (t + 1) (e + 1) ≠ LP.lst off (f + 1) (d + 1) t e) : d + 1 ≤ f := by
  rcases Nat.lt_or_ge f (d + 1) with h | h
  · exfalso
    apply hne
    have h1 : LP.lst off f (d + 1) t (e + 1) = 1125899906842624 := by
      cases f with
      | zero => rfl
      | succ f => unfold LP.lst; rw [if_pos h]
    have h2 := lst_small hB (f := f) (d := d) (t + 1) (e + 1) (by omega) hdf
    have h3 := hB t e
    rw [LP.lst, if_neg (by omega), h1, Int.min_def, if_pos (by omega)]
  · exact h
def natsI (l : List Nat) : List Int := l.map fun k : Nat => (k : Int)
/-- what stand hands back -/
def RetSn (w : World) (P : Nat) (C : Value → Array Value) (L : List Int) (e : Ending) (w' : World) : Prop := ∃ A c kv, e = .returned (.slice A L.length c) ∧ w'.ownsRow w.heap.size 3 1 (.slice A L.length c) L.length (ints L) ∧ w.grownBy w' (some P) ∧ w'.heap[P]? = some (.cells (C kv) 300 (0, 0))
theorem info_slI : (Tryz.prog.info? 22).map (fun i => (i.zero, i.size, i.bytes)) = some (some (.slice none 0 0), 1, 24) := by kernel_rfl
theorem mk_rows (m : Nat) (hm : m ≤ 100) (W : World) : (Instr.makeSlice 298 (.int .i64 m) (.int .i64 m)).run Tryz.prog W = .ok (.slice (some ⟨W.heap.size, 0, none⟩) m m) (W.alloc (.cells (madeCells #[.slice none 0 0] m) 22)) := by
  obtain ⟨i, hi, hz0, hz1, hz2⟩ := info_parts info_slI
  have := run_makeSlice (P := Tryz.prog) W 298 22 i _ Tryz.underlying298 hi hz0 .i64 .i64 m m (by omega) (Int.le_refl _) (by rw [hz1]; simp; omega) (by rw [hz2]; omega) (by omega)
  rw [hz1, Nat.mul_one, show (Value.slice none 0 0).cells = #[Value.slice none 0 0] from rfl, show ((m : Int).toNat) = m by omega] at this
  exact this
theorem mk_ints (m : Nat) (hm : m ≤ 100) (W : World) : (Instr.makeSlice 22 (.int .i64 m) (.int .i64 m)).run Tryz.prog W = .ok (.slice (some ⟨W.heap.size, 0, none⟩) m m) (W.alloc (.cells (ints (List.replicate m 0)).toArray 3)) := by
  obtain ⟨i, hi, hz0, hz1, hz2⟩ := info_parts info_int
  have := run_makeSlice (P := Tryz.prog) W 22 3 i _ Tryz.underlying22 hi hz0 .i64 .i64 m m (by omega) (Int.le_refl _) (by rw [hz1]; simp; omega) (by rw [hz2]; omega) (by omega)
  rw [hz1, Nat.mul_one] at this
  have e : (madeCells (Value.int .i64 0).cells m) = (ints (List.replicate m 0)).toArray := by
    apply Array.toList_inj.1
    rw [show (Value.int .i64 0).cells = #[Value.int .i64 0] from rfl, toList_madeCells_one, ints_repl]
  rw [show ((m : Int).toNat) = m by omega, e] at this
  exact this
set_option maxHeartbeats 6400000 in
set_option maxRecDepth 100000 in
theorem stand_c (w : World) (P : Nat) (N M m : Nat) (Ae : Option Addr) (ce : Nat) (E : List Int) (Ag : Option Addr) (cg : Nat) (G : List Int) (he : RI 3 w Ae M E) (hg : RI 3 w Ag m G) (hp : w.heap[P]? = some (.cells #[.int .i64 N, .slice Ae M ce, .slice Ag m cg, .slice none 0 0] 300 (0, 0))) (hm : 1 ≤ m ∧ m ≤ M) (hM : M ≤ 16) (hN : 1 ≤ N ∧ N ≤ 16) (hG : ∀ x ∈ G, 0 ≤ x ∧ x ≤ 1000000000) (hE : ∀ x ∈ E, 0 ≤ x ∧ x ≤ 16) :
    Calls Tryz.prog 250 #[.pointer (some ⟨P, 0, none⟩)] w (RetSn w P (fun kv => #[.int .i64 N, .slice Ae M ce, .slice Ag m cg, kv]) (natsI (LP.stnd (offG G E N m) (M - 1) (m - 1) 0 0) ++ [(M : Int) - 1])) := by
  have hP := lt_of_heap hp
  have hPt : ∃ cs, w.heap[P]? = some (.cells cs 300 (0, 0)) := ⟨_, hp⟩
  have c2 := (blk_facts hp).1 2
  have c3 := (blk_facts hp).1 3
  have f3 := (blk_facts hp).2 3
  have hmk := mk_rows m (by omega)
  have hmi := mk_ints M (by omega)
  have hP0 : P ≠ w.heap.size := by omega
  have T0 : TW2 w P w.heap.size (fun _ => 0) N M m 0 Ae ce Ag cg ((w.setCell ⟨P, 3, none⟩ (.slice (some ⟨w.heap.size, 0, none⟩) m m)).alloc (.cells (madeCells #[.slice none 0 0] m) 22)) := by
    have hz : (w.setCell ⟨P, 3, none⟩ (.slice (some ⟨w.heap.size, 0, none⟩) m m)).heap.size = w.heap.size := by simp [World.setCell]
    have hn := heap_alloc_new (w.setCell ⟨P, 3, none⟩ (.slice (some ⟨w.heap.size, 0, none⟩) m m)) (.cells (madeCells #[.slice none 0 0] m) 22)
    rw [hz] at hn
    refine ⟨?_, ⟨_, hn, size_madeCells _ _, fun t h => absurd h (by omega)⟩, fun t h => absurd h (by omega), fun t s h => absurd h (by omega), fun t h => absurd h (by omega), Nat.le_refl _, grown_alloc (grown_setCell (grown_refl w _) (p := ⟨P, 3, none⟩) (.inl rfl) _) _⟩
    have h9 := blk_alloc (blk_set hp 3 (.slice (some ⟨w.heap.size, 0, none⟩) m m)) (.cells (madeCells #[.slice none 0 0] m) 22)
    exact h9
  go_enter Tryz.func250, Tryz.ntmps250
  go_wp2_with fail
  have d3 := (blk_facts T0.pc).1 3
  generalize hWW : (w.setCell ⟨P, 3, none⟩ (.slice (some ⟨w.heap.size, 0, none⟩) m m)).alloc (.cells (madeCells #[.slice none 0 0] m) 22) = w1 at *
  clear hWW hmk c2 c3 f3 hp
  generalize w.heap.size = KB at T0 d3 hP0 ⊢
  have hKc3 : ∀ rb k z e wx, TW3 w P KB rb N M m k z e Ae ce Ag cg wx → wx.cell? ⟨P, 3, none⟩ = some (.slice (some ⟨KB, 0, none⟩) m m) := fun _ _ _ _ _ h => (blk_facts h.pc).1 3
  have hKck : ∀ rb k z e wx, TW3 w P KB rb N M m k z e Ae ce Ag cg wx → wx.cell? ⟨KB, k, none⟩ = some (.slice (some ⟨z, 0, none⟩) M M) := fun _ _ _ _ _ h => by
    obtain ⟨cs, h1, h2, h3, h4⟩ := h.kb
    rw [(blk_facts h1).1]; exact h4
  go_loopw [22] (fun i wr => ∃ (k : Nat) (rb : Nat → Nat), k ≤ m ∧ i = .int .i64 k ∧ TW2 w P KB rb N M m k Ae ce Ag cg wr) (fun i _ => m - (intOf i).toNat)
  case atStart => exact ⟨0, _, Nat.zero_le _, rfl, T0⟩
  case round =>
    clear T0 d3
    rename World => wr
    obtain ⟨k, rb, hk, rfl, T⟩ := hrel
    have c1 := (blk_facts T.pc).1 1
    have c3 := (blk_facts T.pc).1 3
    by_cases hlt : k < m
    · obtain ⟨cs, hcs, hcz, hct⟩ := T.kb
      obtain ⟨u0, hu0⟩ : ∃ u, cs[k]? = some u := ⟨_, Array.getElem?_eq_getElem (by omega)⟩
      have ck := (blk_facts hcs).1 k
      rw [hu0] at ck
      have fk := (blk_facts hcs).2 k
      have hKz : KB < wr.heap.size := lt_of_heap hcs
      have hsz := T.gr.size
      have hlti : (k : Int) < m := by omega
      have hzz : (wr.setCell ⟨KB, k, none⟩ (.slice (some ⟨wr.heap.size, 0, none⟩) M M)).heap.size = wr.heap.size := by simp [World.setCell]
      have hnn := heap_alloc_new (wr.setCell ⟨KB, k, none⟩ (.slice (some ⟨wr.heap.size, 0, none⟩) M M)) (.cells (ints (List.replicate M 0)).toArray 3)
      rw [hzz] at hnn
      have hPK : P ≠ KB := hP0
      have hpcn := blk_alloc (blk_other T.pc (p := ⟨KB, k, none⟩) hPK (.slice (some ⟨wr.heap.size, 0, none⟩) M M)) (.cells (ints (List.replicate M 0)).toArray 3)
      have T3 : ∀ q, TW3 w P KB rb N M m k wr.heap.size 0 Ae ce Ag cg (((wr.setCell ⟨KB, k, none⟩ (.slice (some ⟨wr.heap.size, 0, none⟩) M M)).alloc (.cells (ints (List.replicate M 0)).toArray 3)).drewN q) := fun q => by
        refine ⟨hpcn, ⟨cs.setIfInBounds k (.slice (some ⟨wr.heap.size, 0, none⟩) M M), blk_alloc (blk_set hcs k _) _, by rw [Array.size_setIfInBounds]; exact hcz, fun t ht => ?_, ?_⟩, fun t ht => ?_, ?_, fun t ht => ?_, T.inj, T.lo, hsz, T.lk, grown_drewN (grown_alloc (grown_setCell T.gr (p := ⟨KB, k, none⟩) (.inr T.lk) _) _) _⟩
        · rw [Array.getElem?_setIfInBounds_ne (by omega)]; exact hct t ht
        · rw [Array.getElem?_setIfInBounds_self_of_lt (by omega)]
        · exact blk_alloc (blk_other (T.rows t ht) (p := ⟨KB, k, none⟩) (by
            show rb t ≠ KB
            intro e
            have h9 := T.rows t ht
            rw [e, hcs] at h9
            injection h9 with h9
            injection h9 with _ h9
            exact absurd h9 (by decide)) _) _
        · rw [List.replicate_zero, List.nil_append, Nat.sub_zero]
          exact hnn
        · have := lt_of_heap (T.rows t ht)
          omega
      have c1b : (((wr.setCell ⟨KB, k, none⟩ (.slice (some ⟨wr.heap.size, 0, none⟩) M M)).alloc (.cells (ints (List.replicate M 0)).toArray 3)).drew).cell? ⟨P, 1, none⟩ = some (.slice Ae M ce) := (blk_facts hpcn).1 1
      have c3b : (((wr.setCell ⟨KB, k, none⟩ (.slice (some ⟨wr.heap.size, 0, none⟩) M M)).alloc (.cells (ints (List.replicate M 0)).toArray 3)).drew).cell? ⟨P, 3, none⟩ = some (.slice (some ⟨KB, 0, none⟩) m m) := (blk_facts hpcn).1 3
      clear hnn hzz hpcn
      have hcs' := hcs
      clear hcs hct
      have c1a := (blk_facts (blk_alloc T.pc (.cells (ints (List.replicate M 0)).toArray 3))).1 1
      have c3a := (blk_facts (blk_alloc T.pc (.cells (ints (List.replicate M 0)).toArray 3))).1 3
      have cka := (blk_facts (blk_alloc hcs' (.cells (ints (List.replicate M 0)).toArray 3))).1 k
      rw [hu0] at cka
      have fka := (blk_facts (blk_alloc hcs' (.cells (ints (List.replicate M 0)).toArray 3))).2 k
      clear hu0 hcs' ck fk
      go_wp2_with fail
      go_region_held3 (fun w' => w'.cell? ⟨P, 3, none⟩ = some (.slice (some ⟨KB, 0, none⟩) m m) ∧ w'.cell? ⟨P, 1, none⟩ = some (.slice Ae M ce)) (first | with_reducible exact ⟨c3, c1⟩ | with_reducible exact ⟨c3a, c1a⟩ | with_reducible exact ⟨c3b, c1b⟩ | go_keep) (first | (fail))
      have T4 : TW3 w P KB rb N M m k wr.heap.size 0 Ae ce Ag cg (((wr.setCell ⟨KB, k, none⟩ (.slice (some ⟨wr.heap.size, 0, none⟩) M M)).alloc (.cells (ints (List.replicate M 0)).toArray 3)).drew) := T3 1
      have hc3 := hKc3 _ _ _ _ _ T4
      have hck := hKck _ _ _ _ _ T4
      generalize hw4 : ((wr.setCell ⟨KB, k, none⟩ (.slice (some ⟨wr.heap.size, 0, none⟩) M M)).alloc (.cells (ints (List.replicate M 0)).toArray 3)).drew = w4 at *
      clear hw4 T3
      generalize wr.heap.size = z at *
      clear c1 c3 c1a c3a cka fka hKz hsz T hPK
      go_wp2_with fail
      go_loopw [45] (fun i wr => ∃ e : Nat, e ≤ M ∧ i = .int .i64 e ∧ TW3 w P KB rb N M m k z e Ae ce Ag cg wr) (fun i _ => M - (intOf i).toNat)
      case atStart => exact ⟨0, Nat.zero_le _, rfl, T4⟩
      case round =>
        clear T4 hc3 hck
        rename World => wq
        obtain ⟨e, hee, rfl, T⟩ := hrel
        by_cases hlt2 : e < M
        · have hc3 := hKc3 _ _ _ _ _ T
          have hck := hKck _ _ _ _ _ T
          have hl2 : (e : Int) < M := by omega
          have hzl : ((ints (List.replicate e (-1) ++ List.replicate (M - e) 0)).toArray).size = M := by simp [ints_len]; omega
          obtain ⟨v, hv⟩ : ∃ v, ((ints (List.replicate e (-1) ++ List.replicate (M - e) 0)).toArray)[e]? = some v := ⟨_, Array.getElem?_eq_getElem (by omega)⟩
          have cz := (blk_facts T.zr).1 e
          rw [hv] at cz
          have fz := (blk_facts T.zr).2 e
          have TN := T.put hP hlt2
          clear hzl hv T
          go_wp2
          go_roundw
          case rel => exact ⟨e + 1, by omega, by go_num, TN⟩
          case measure => simp [intOf]; omega
        · obtain rfl : e = M := by omega
          have TN := T.done
          clear T
          go_wp2
          go_roundw
          case rel => exact ⟨k + 1, _, by omega, by go_num, TN⟩
          case measure => simp [intOf]; omega
    · obtain rfl : k = m := by omega
      have hW := T.done (offG G E N k)
      have hPB : P < wr.heap.size := lt_of_heap T.pc
      have hKB : KB < wr.heap.size := by obtain ⟨cs, h1, _⟩ := T.kb; exact lt_of_heap h1
      have hrb : ∀ t, t < k → rb t < wr.heap.size := fun t ht => lt_of_heap (T.rows t ht)
      have hwB := T.gr.size
      have hB := offG_bd (N := (N : Int)) (m := k) hG hE (by omega)
      have hstep := Lib.hid (fun f d t e (hd : d + 1 ≤ 100) (hdf : d ≤ f) hne => stand_step hB (f := f) (d := d) (t := t) (e := e) hd hdf hne)
      have hlb := Lib.hid (fun f d t e (hd : d ≤ 100) => lst_bd hB f d t e hd)
      have hls := Lib.hid (fun f d t e (hd : d ≤ 100) (hf : d ≤ f) => lst_small hB (f := f) (d := d) t e hd hf)
      have hLC := fun (u : Value) (acc : List Int) => least_c w P KB rb N M k Ae ce E Ag cg G (fun wx => wx.ownsRow wr.heap.size 3 1 u acc.length (ints acc) ∧ wr.heap.size ≤ wx.heap.size) (fun wx w' h hb => ⟨own_below h.1 hb, Nat.le_trans h.2 hb.size⟩) he hg hP hPt (fun wx t e v ht h => ⟨h.1.kept (grown_setCell (grown_refl wx _) (p := ⟨rb t, e, none⟩) (.inl rfl) _) (own_ne h.1 (hrb t ht)), by simpa [World.setCell] using h.2⟩) ⟨hm.1, by omega⟩ hM hN hG hE
      have hHi := fun wx w' row h (hg : wx.grownBy w' row) hr => PW.high (w := w) (wx := wx) (w' := w') (P := P) (KB := KB) (rb := rb) (N := N) (M := M) (m := k) (Ae := Ae) (ce := ce) (Ag := Ag) (cg := cg) (off := offG G E N k) (row := row) (B := wr.heap.size) h hg hr hPB hKB hrb hwB
      have hCc := fun wx (h : PW w P KB rb N M k Ae ce Ag cg (offG G E N k) wx) => And.intro ((blk_facts h.pc).1 1) ((blk_facts h.pc).1 2)
      have hPc9 := fun wx (h : PW w P KB rb N M k Ae ce Ag cg (offG G E N k) wx) => h.pc
      have hGr := fun wx (h : PW w P KB rb N M k Ae ce Ag cg (offG G E N k) wx) => h.gr
      have hPb := fun wx w' (h : PW w P KB rb N M k Ae ce Ag cg (offG G E N k) wx) (hb : Below wx.heap.size wx w') => h.below hb
      have hSu := Lib.hid (fun f d t e => show LP.stnd (offG G E N k) (f + 1) (d + 1) t e = if offG G E N k t e + LP.lst (offG G E N k) f d (t + 1) (e + 1) = LP.lst (offG G E N k) (f + 1) (d + 1) t e then e :: LP.stnd (offG G E N k) f d (t + 1) (e + 1) else LP.stnd (offG G E N k) f (d + 1) t (e + 1) from rfl)
      have hS0 := Lib.hid (fun f t e => show LP.stnd (offG G E N k) f 0 t e = [] by cases f <;> rfl)
      clear T c3 c1 he hg hPt hG hE
      have o0 : wr.ownsRow wr.heap.size 3 1 (.slice none 0 0) ([] : List Int).length (ints []) := World.ownsRow_nil _ _ _ _
      generalize PW w P KB rb N M k Ae ce Ag cg (offG G E N k) = KK at *
      generalize hSTe : LP.stnd (offG G E N k) = ST at *
      have hSTe := Lib.hid hSTe
      generalize LP.lst (offG G E N k) = LS at *
      generalize hOFe : offG G E N k = OF at *
      have hOFe := Lib.hid hOFe
      obtain ⟨c1, c2⟩ := hCc _ hW
      generalize hBB : wr.heap.size = B at *
      have hwr : B ≤ wr.heap.size := by rw [hBB]; exact Nat.le_refl _
      clear hBB
      have hk1 : (0 : Int) ≤ (k : Int) - 1 := by omega
      go_wp2_with fail
      go_loopw [5, 6, 65] (fun out ev i wx => ∃ (t e : Nat) (acc : List Int), t ≤ k - 1 ∧ i = .int .i64 t ∧ ev = .int .i64 e ∧ KK wx ∧ wx.ownsRow B 3 1 out acc.length (ints acc) ∧ B ≤ wx.heap.size ∧ acc.length = t ∧ (k - 1 - t ≤ M - 1 - e ∧ e ≤ M - 1) ∧ Hid (acc ++ natsI (ST (M - 1 - e) (k - 1 - t) t e) = natsI (ST (M - 1) (k - 1) 0 0))) (fun _ _ i _ => k - (intOf i).toNat)
      case atStart => exact ⟨0, 0, [], Nat.zero_le _, rfl, rfl, hW, o0, hwr, rfl, ⟨by omega, by omega⟩, Lib.hid rfl⟩
      case round =>
        clear hW o0 hwr c1 c2
        rename World => wx
        obtain ⟨t, e, acc, ht, rfl, rfl, hW, ho, hbz, hac, ⟨hfe, hee⟩, hF⟩ := hrel
        obtain ⟨A0, c0, hA0⟩ := own_shape ho
        subst hA0
        obtain ⟨c1, c2⟩ := hCc _ hW
        by_cases hlt2 : t < k - 1
        · have hti : (t : Int) < (k : Int) - 1 := by omega
          have hac' := Lib.hid hac
          clear hac
          go_wp2_with fail
          go_loopw [6] (fun ev wy => ∃ e2 : Nat, ev = .int .i64 e2 ∧ KK wy ∧ wy.ownsRow B 3 1 (.slice A0 acc.length c0) acc.length (ints acc) ∧ B ≤ wy.heap.size ∧ (k - 1 - t ≤ M - 1 - e2 ∧ e2 ≤ M - 1) ∧ Hid (acc ++ natsI (ST (M - 1 - e2) (k - 1 - t) t e2) = natsI (ST (M - 1) (k - 1) 0 0))) (fun ev _ => M - (intOf ev).toNat)
          case atStart => exact ⟨e, rfl, hW, ho, hbz, ⟨hfe, hee⟩, hF⟩
          case round =>
            clear hW ho hbz hfe hee hF c1 c2
            rename World => wy
            obtain ⟨e2, rfl, hW, ho, hbz, ⟨hfe, hee⟩, hF⟩ := hrel
            obtain ⟨c1, c2⟩ := hCc _ hW
            obtain ⟨hOf, hLe⟩ := hLC (.slice A0 acc.length c0) acc
            have h1 := Lib.hid (fun W h => hOf t e2 (by omega) (by omega) W h)
            have h2 := Lib.hid (fun W h => show Calls Tryz.prog 314 #[.pointer (some ⟨P, 0, none⟩), .int .i64 ((t : Int) + 1), .int .i64 ((e2 : Int) + 1)] W fun e' w' => e' = .returned (.int .i64 (LS (M - 1 - (e2 + 1)) (k - 1 - (t + 1)) (t + 1) (e2 + 1))) ∧ (KK w' ∧ w'.ownsRow B 3 1 (.slice A0 acc.length c0) acc.length (ints acc) ∧ B ≤ w'.heap.size) from hLe (M - (e2 + 1)) (t + 1) (e2 + 1) (by omega) (by omega) W h)
            have h3 := Lib.hid (fun W h => hLe (M - e2) t e2 (by omega) (by omega) W h)
            have b1 := hB t e2
            have b2 := hls.out (M - 1 - (e2 + 1)) (k - 1 - (t + 1)) (t + 1) (e2 + 1) (by omega) (by omega)
            have b3 := hlb.out (M - 1 - (e2 + 1)) (k - 1 - (t + 1)) (t + 1) (e2 + 1) (by omega)
            have hsu := hSu.out (M - 1 - (e2 + 1)) (k - 1 - (t + 1)) t e2
            have hst := hstep.out (M - 1 - (e2 + 1)) (k - 1 - (t + 1)) t e2 (by omega) (by omega)
            rw [show M - 1 - (e2 + 1) + 1 = M - 1 - e2 by omega, show k - 1 - (t + 1) + 1 = k - 1 - t by omega] at hsu hst
            have hsu := Lib.hid hsu
            have hst := Lib.hid hst
            have w1_ : IntKind.i64.wrap ((t : Int) + 1) = (t : Int) + 1 := IntWalk.i64_in _ (by omega)
            have w2_ : IntKind.i64.wrap ((e2 : Int) + 1) = (e2 : Int) + 1 := IntWalk.i64_in _ (by omega)
            clear hLe hOf
            have hacc : Hid (acc.length = t) := hac'
            generalize LS (M - 1 - (e2 + 1)) (k - 1 - (t + 1)) (t + 1) (e2 + 1) = L1 at *
            generalize LS (M - 1 - e2) (k - 1 - t) t e2 = L2 at *
            generalize OF t e2 = O1 at *
            go_wp2_with fail
            refine (h1.out _ ⟨hW, ho, hbz⟩).mono ?_; rintro e' w5 ⟨rfl, B5⟩
            have hW5 := hPb _ _ hW B5
            have ho5 := own_below ho B5
            have hz5 := Nat.le_trans hbz B5.size
            clear hW ho c1 c2 B5 h1
            go_wp2_with fail
            refine (h2.out _ ⟨hW5, ho5, hz5⟩).mono ?_; rintro e' w6 ⟨rfl, hW6, ho6, hz6⟩
            clear hW5 ho5 h2
            go_wp2_with fail
            refine (h3.out _ ⟨hW6, ho6, hz6⟩).mono ?_; rintro e' w7 ⟨rfl, hW7, ho7, hz7⟩
            clear hW6 ho6 h3
            have u1 : IntKind.i64.wrap (O1 + L1) = O1 + L1 := IntWalk.i64_in _ (by omega)
            obtain ⟨c1, c2⟩ := hCc _ hW7
            by_cases heq : O1 + L1 = L2
            · have hF2 : Hid (acc ++ natsI (e2 :: ST (M - 1 - (e2 + 1)) (k - 1 - (t + 1)) (t + 1) (e2 + 1)) = natsI (ST (M - 1) (k - 1) 0 0)) := Lib.hid (by rw [← hF.out, hsu.out, if_pos heq])
              have ht2 : Hid (t + 1 ≤ k - 1 ∧ k - 1 - (t + 1) ≤ M - 1 - (e2 + 1) ∧ (e2 + 1 ≤ M - 1)) := Lib.hid (by omega)
              have heqb : (O1 + L1 != L2) = false := by rw [heq]; simp
              have hm1000 : acc.length ≤ 1000 := by rw [hacc.out]; omega
              clear heq hF hsu hst
              go_wp2_with (at_builtin; refine wpList_app rfl (.tmp 86) (.tmp 88) 22 rfl Tryz.underlying22 info_int rfl (by omega) (by omega) ho7 rfl rfl (by first | rfl | (simp; done)) (by rfl) (by simp [Value.oneCell']) (by omega) hz7 ?_; intro v8 w8 hown8 hg8)
              have hr8 : ∀ i, (Value.slice A0 acc.length c0).ownBlock = some i → B ≤ i := own_row_lt ho7
              have hW8 := hHi _ _ _ hW7 hg8 hr8
              have ho8 : w8.ownsRow B 3 1 v8 (acc ++ [(e2 : Int)]).length (ints (acc ++ [(e2 : Int)])) := by rw [ints_app, List.length_append]; exact hown8
              have hz8 : B ≤ w8.heap.size := Nat.le_trans hz7 hg8.size
              clear hown8 hg8 ho7 hW7 c1 c2
              go_wp2
              go_roundw
              case rel => exact ⟨t + 1, e2 + 1, _, ht2.out.1, by go_num, by go_num, hW8, ho8, hz8, by rw [List.length_append, hacc.out]; rfl, ht2.out.2, Lib.hid (by rw [← hF2.out, List.append_assoc]; rfl)⟩
              case measure => simp [intOf]; omega
            · have hF2 : Hid (acc ++ natsI (ST (M - 1 - (e2 + 1)) (k - 1 - t) t (e2 + 1)) = natsI (ST (M - 1) (k - 1) 0 0)) := Lib.hid (by
                rw [← hF.out, hsu.out, if_neg heq])
              have ht2 : Hid (k - 1 - t ≤ M - 1 - (e2 + 1) ∧ (e2 + 1 ≤ M - 1)) := Lib.hid (by have := hst.out heq; omega)
              have heqb : (O1 + L1 != L2) = true := by simpa using heq
              clear heq hF hsu hst
              go_wp2
              go_roundw
              case rel => exact ⟨e2 + 1, by go_num, hW7, ho7, hz7, ht2.out, hF2⟩
              case measure => simp [intOf]; omega
        · obtain rfl : t = k - 1 := by omega
          have hS9 := hS0.out (M - 1 - e) (k - 1) e
          have hF2 : Hid (acc = natsI (ST (M - 1) (k - 1) 0 0)) := Lib.hid (by rw [← hF.out, Nat.sub_self, hS9]; exact (List.append_nil _).symm)
          have hm1000 : acc.length ≤ 1000 := by omega
          clear hS9 hF
          go_wp2_with (at_builtin; refine wpList_app rfl (.tmp 93) (.tmp 100) 22 rfl Tryz.underlying22 info_int rfl (by omega) (by omega) ho rfl rfl (by first | rfl | (simp; done)) (by rfl) (by simp [Value.oneCell']) (by omega) hbz ?_; intro v8 w8 hown8 hg8)
          have hr8 : ∀ i, (Value.slice A0 acc.length c0).ownBlock = some i → B ≤ i := own_row_lt ho
          have hW8 := hHi _ _ _ hW hg8 hr8
          have ho8 : w8.ownsRow B 3 1 v8 (acc ++ [(M : Int) - 1]).length (ints (acc ++ [(M : Int) - 1])) := by rw [ints_app, List.length_append]; exact hown8
          obtain ⟨A8, c8, rfl⟩ := own_shape ho8
          have hg9 := hGr _ hW8
          have hp9 := hPc9 _ hW8
          have hl8 : (acc ++ [(M : Int) - 1]).length = acc.length + 1 := List.length_append
          clear hown8 hg8 ho hW c1 c2
          go_wp2
          go_ret
          rw [hF2.out, ← hSTe.out, ← hOFe.out] at ho8
          rw [hF2.out, ← hSTe.out, ← hOFe.out]
          exact ⟨A8, c8, _, rfl, own_mono ho8 hwB, hg9, hp9⟩
end Go.Proofs.YtpepdkgkdbnakaaGreatDoor

/- pad.laps. -/
namespace Go.Proofs.YtpepdkgkdbnakaaGreatDoor
open Go.RowKit Go.Lib
set_option linter.unusedVariables false

def lpE (x : LP.Lp) : List Value := [.int .i64 x.length, .int .i64 x.time, .bool x.filled]
theorem lpE_len : ∀ x, (lpE x).length = 3 := fun _ => rfl
abbrev RLp (w : World) (A : Option Addr) (n : Nat) (l : List LP.Lp) : Prop := RN 3 lpE 151 w A n l
theorem info_lap : (Tryz.prog.info? 151).map (fun i => (i.zero, i.size, i.bytes)) = some (some (.agg #[.int .i64 0, .int .i64 0, .bool false]), 3, 24) := by kernel_rfl
/-- numbers of ends, rising, the last of them the last end -/
def UpL : Nat → Nat → List Nat → Prop
  | i, M, [] => i = M
  | i, M, k :: r => i ≤ k ∧ k < M ∧ UpL (k + 1) M r
theorem UpL.mono {M : Nat} : ∀ {l : List Nat} {i j : Nat}, l ≠ [] → UpL i M l → j ≤ i → UpL j M l
  | [], _, _, h, _, _ => absurd rfl h
  | k :: r, i, j, _, h, hj => ⟨by have := h.1; omega, h.2⟩
theorem stnd_up {off : Nat → Nat → Int} (hB : ∀ t e, 0 ≤ off t e ∧ off t e ≤ 1099511627776) (M : Nat) : ∀ (f d t e : Nat), d ≤ 100 → d ≤ f → e + f + 1 = M → UpL e M (LP.stnd off f d t e ++ [M - 1]) ∧ (LP.stnd off f d t e).length = d
  | f, 0, t, e, _, _, hM => by
    have : LP.stnd off f 0 t e = [] := by cases f <;> rfl
    rw [this]
    exact ⟨⟨by omega, by omega, by show M - 1 + 1 = M; omega⟩, rfl⟩
  | 0, d + 1, t, e, _, h, _ => by omega
  | f + 1, d + 1, t, e, hd, h, hM => by
    unfold LP.stnd
    split
    · have := stnd_up hB M f d (t + 1) (e + 1) (by omega) (by omega) (by omega)
      exact ⟨⟨Nat.le_refl _, by omega, this.1⟩, by rw [List.length_cons, this.2]⟩
    · rename_i hne
      have hdf := stand_step hB (f := f) (d := d) (t := t) (e := e) (by omega) (by omega) hne
      have := stnd_up hB M f (d + 1) t (e + 1) hd hdf (by omega)
      exact ⟨UpL.mono (by simp) this.1 (by omega), this.2⟩
/-- the numbers of the ends at which touches stand -/
def standV (N : Nat) (G : List Int) : List Nat := LP.stnd (offG G (endsV N) N G.length) (mN N - 1) (G.length - 1) 0 0 ++ [mN N - 1]
def lapsV (N : Nat) (l : List Int) : List LP.Lp := if (goodV N l).length = 0 then [] else LP.lapsP (endsV N) 0 0 0 ((standV N (goodV N l)).zip (goodV N l))
def RetLp (w : World) (L : List LP.Lp) (e : Ending) (w' : World) : Prop := ∃ A c, e = .returned (.slice A L.length c) ∧ w'.ownsRow w.heap.size 151 3 (.slice A L.length c) L.length (L.flatMap lpE) ∧ Below w.heap.size w w'
theorem cnt_spec {e0 : Int} {M : Nat} {P : Int → Prop} : ∀ (l g h : List Int), (∀ x ∈ l, P x) → (∀ x ∈ g, P x) → g.length ≤ M → (∀ x ∈ (cntGo e0 M g h l).1, P x) ∧ (cntGo e0 M g h l).1.length ≤ M
  | [], g, h, _, hg, hM => ⟨hg, hM⟩
  | t :: r, g, h, hl, hg, hM => by
    unfold cntGo
    by_cases hc : t < (if g.length = 0 then e0 * 1000 else g.getD (g.length - 1) 0 + 2000) ∨ g.length = M
    · rw [if_pos hc]
      exact cnt_spec r g (h ++ [t]) (fun x hx => hl x (List.mem_cons_of_mem _ hx)) hg hM
    · rw [if_neg hc]
      have hn := hc
      refine cnt_spec r (g ++ [t]) h (fun x hx => hl x (List.mem_cons_of_mem _ hx)) (fun x hx => ?_) ?_
      · rcases List.mem_append.1 hx with h1 | h1
        · exact hg x h1
        · simp at h1; subst h1; exact hl _ List.mem_cons_self
      · rw [List.length_append]
        have : g.length ≠ M := fun e => hn (.inr e)
        simp; omega
theorem goodV_ok {N : Nat} {l : List Int} (hb : ∀ x ∈ l, 0 ≤ x ∧ x ≤ 1000000000) : (∀ x ∈ goodV N l, 0 ≤ x ∧ x ≤ 1000000000) ∧ (goodV N l).length ≤ mN N := cnt_spec l [] [] hb (fun _ h => by cases h) (Nat.zero_le _)
theorem endsV_bd {N : Nat} (hN : N ≤ 16) : ∀ x ∈ endsV N, 0 ≤ x ∧ x ≤ 16 := by
  intro x hx
  unfold endsV at hx
  obtain ⟨i, hi, rfl⟩ := List.mem_map.1 hx
  rw [List.mem_range] at hi
  unfold mN at hi
  unfold e0N
  omega
theorem endsV_inc (N : Nat) : LP.Inc (endsV N) := by
  intro a b hab hb
  rw [endsV_len] at hb
  rw [getD_ofI (endsV_at N a (by omega)), getD_ofI (endsV_at N b hb)]
  omega
theorem lap_parts {x y g d : Int} (hx : 0 ≤ x ∧ x ≤ 1000000000) (hy : 0 ≤ y ∧ y ≤ 1000000000) (hg : 0 ≤ g ∧ g ≤ 16) (hd : 1 ≤ d ∧ d ≤ 16) : (-16000000000 ≤ (y - x) * g ∧ (y - x) * g ≤ 16000000000) ∧ (-16000000000 ≤ ((y - x) * g).tdiv d ∧ ((y - x) * g).tdiv d ≤ 16000000000) := by
  have h1 : (y - x) * g ≤ 1000000000 * 16 := by
    rcases Int.le_total 0 (y - x) with h | h
    · exact Int.mul_le_mul (by omega) hg.2 hg.1 (by omega)
    · have := Int.mul_nonneg (show 0 ≤ x - y by omega) hg.1
      have e : (y - x) * g = -((x - y) * g) := by rw [← Int.neg_mul]; congr 1; omega
      omega
  have h2 : -(1000000000 * 16) ≤ (y - x) * g := by
    rcases Int.le_total 0 (x - y) with h | h
    · have := Int.mul_le_mul (show x - y ≤ 1000000000 by omega) hg.2 hg.1 (by omega)
      have e : (y - x) * g = -((x - y) * g) := by rw [← Int.neg_mul]; congr 1; omega
      omega
    · have := Int.mul_nonneg (show 0 ≤ y - x by omega) hg.1
      omega
  generalize (y - x) * g = q at *
  have h3 : q.tdiv d ≤ 16000000000 ∧ -16000000000 ≤ q.tdiv d := by
    rcases Int.le_total 0 q with h | h
    · rw [Int.tdiv_eq_ediv_of_nonneg h]
      have := Int.ediv_le_self d h
      have := Int.ediv_nonneg h (show 0 ≤ d by omega)
      omega
    · have e : q.tdiv d = -((-q).tdiv d) := by rw [Int.neg_tdiv, Int.neg_neg]
      rw [e, Int.tdiv_eq_ediv_of_nonneg (show 0 ≤ -q by omega)]
      have := Int.ediv_le_self d (show 0 ≤ -q by omega)
      have := Int.ediv_nonneg (show 0 ≤ -q by omega) (show 0 ≤ d by omega)
      omega
  omega
theorem own_diffL {w : World} {base : Nat} {e : TypeId} {size n : Nat} {v : Value} {xs : List Value} {b : Nat} {cs : Array Value} {t : TypeId} {fz : Nat × Nat} (h : w.ownsRow base e size v n xs) (hb : w.heap[b]? = some (.cells cs t fz)) (hne : t ≠ e) : v.ownBlock ≠ some b := by
  intro hv
  rcases h.2 with ⟨rfl, _⟩ | ⟨g, cap, cur, rfl, _, hg, _⟩
  · cases hv
  · simp [Value.ownBlock] at hv
    subst hv
    rw [hb] at hg
    injection hg with hg
    injection hg with _ hg
    exact hne hg
theorem UpL.at {M : Nat} : ∀ {l : List Nat} {i q k : Nat}, UpL i M l → l[q]? = some k → k < M ∧ i ≤ k ∧ UpL (k + 1) M (l.drop (q + 1))
  | [], _, _, _, _, h => by simp at h
  | a :: r, i, 0, k, h, hk => by
    obtain rfl : a = k := by simpa using hk
    exact ⟨h.2.1, h.1, h.2.2⟩
  | a :: r, i, q + 1, k, h, hk => by
    have := UpL.at h.2.2 (q := q) (by simpa using hk)
    exact ⟨this.1, by have := h.1; omega, this.2.2⟩
set_option maxHeartbeats 6400000 in
set_option maxRecDepth 100000 in
theorem padLaps_c (N : Nat) (A : Option Addr) (n c : Nat) (l : List Int) (w : World) (h : RI 3 w A n l) (hN1 : 1 ≤ N) (hN : N ≤ 16) (hn : n ≤ 100) (hb : ∀ x ∈ l, 0 ≤ x ∧ x ≤ 1000000000) :
    Calls Tryz.prog 191 #[.int .i64 N, .slice A n c] w (RetLp w (lapsV N l)) := by
  have hSo := Lib.hid (sorted_c N A n c l w h hN1 hN hn hb)
  have hG := goodV_ok (N := N) hb
  have q5 : 1 ≤ mN N ∧ mN N ≤ 8 := by unfold mN; omega
  have hEn := Lib.hid (fun W => padEnds_c N W hN1 hN)
  have hLV : Hid ((goodV N l).length ≠ 0 → lapsV N l = LP.lapsP (endsV N) 0 0 0 ((standV N (goodV N l)).zip (goodV N l))) := Lib.hid (fun h => by unfold lapsV; rw [if_neg h])
  have hL0 : (goodV N l).length = 0 → lapsV N l = [] := fun h => by unfold lapsV; rw [if_pos h]
  have hEl := endsV_len N
  have hEb := endsV_bd hN
  have hEi := endsV_inc N
  have hE1 : ∀ k, k < mN N → 1 ≤ (endsV N).getD k 0 := fun k hk => by rw [getD_ofI (endsV_at N k hk)]; unfold e0N; omega
  have hSt := Lib.hid (fun W P Ae ce Ag cg h1 h2 h3 h4 => stand_c W P N (mN N) (goodV N l).length Ae ce (endsV N) Ag cg (goodV N l) h1 h2 h3 h4 (by omega) ⟨hN1, hN⟩ hG.1 hEb)
  have hsv := fun (hg : (goodV N l).length ≠ 0) => stnd_up (offG_bd (N := (N : Int)) (m := (goodV N l).length) hG.1 hEb (by omega)) (mN N) (mN N - 1) ((goodV N l).length - 1) 0 0 (by have := hG.2; omega) (by have := hG.2; omega) (by omega)
  have hpr : cntGo (e0N N) (mN N) [] [] l = (goodV N l, ghostV N l) := rfl
  rw [hpr] at hSo
  have hnz : natsI (standV N (goodV N l)) = natsI (LP.stnd (offG (goodV N l) (endsV N) N (goodV N l).length) (mN N - 1) ((goodV N l).length - 1) 0 0) ++ [((mN N : Nat) : Int) - 1] := by
    unfold standV natsI
    rw [List.map_append]
    congr 1
    show [((mN N - 1 : Nat) : Int)] = _
    congr 1; omega
  have hsl : (goodV N l).length ≠ 0 → (standV N (goodV N l)).length = (goodV N l).length := fun hg => by
    unfold standV; rw [List.length_append, (hsv hg).2]; simp; omega
  have hsu : (goodV N l).length ≠ 0 → UpL 0 (mN N) (standV N (goodV N l)) := fun hg => (hsv hg).1
  rw [← hnz] at hSt
  obtain ⟨hGb, hGM⟩ := hG
  clear hpr hnz hsv h hb
  generalize lapsV N l = LV at *
  generalize standV N (goodV N l) = SV at *
  generalize goodV N l = G at *
  generalize ghostV N l = H at *
  generalize endsV N = E at *
  generalize mN N = M at *
  go_enter Tryz.func191, Tryz.ntmps191
  go_wp2_with fail
  refine hSo.out.mono ?_; rintro e w1 ⟨A1, c1, A2, c2, rfl, r1, r2, B1⟩
  clear hSo r2
  dsimp only at r1 ⊢
  by_cases hG0 : G.length = 0
  · have hL9 := hL0 hG0
    clear hL0
    go_wp2
    go_ret
    exact ⟨none, 0, by rw [hL9]; rfl, by rw [hL9]; exact World.ownsRow_nil _ _ _ _, B1⟩
  have hLV2 := hLV.out hG0
  have hSl := hsl hG0
  have hSu := hsu hG0
  have hg1 : ((G.length : Int) == 0) = false := by rw [beq_eq_false_iff_ne]; omega
  have hg2 : 1 ≤ G.length := by omega
  clear hL0 hLV hsl hsu hG0
  go_wp2_with fail
  refine (hEn.out _).mono ?_; rintro e w2 ⟨Ae, ce, rfl, oE, B2⟩
  have rE : RI 3 w2 Ae E.length E := R1.of_own oE (by omega)
  rw [hEl] at rE
  have rG := r1.below B2
  have hB2 := below_next B1 B2
  clear hEn B1 r1 oE B2
  rw [hEl]
  have hp0 := heap_alloc_new w2 (.cells #[.int .i64 N, .slice Ae M ce, .slice A1 G.length c1, .slice none 0 0] 300)
  go_wp2_with fail
  refine (hSt.out _ _ Ae ce A1 c1 (rE.alloc _) (rG.alloc _) hp0 ⟨hg2, hGM⟩).mono ?_; rintro e w3 ⟨As, cs, kv, rfl, oS, g3, hp3⟩
  have hnl : (natsI SV).length = G.length := by unfold natsI; rw [List.length_map]; exact hSl
  have rS : RI 3 w3 As G.length (natsI SV) := by
    have := R1.of_own oS (by omega)
    rw [hnl] at this; exact this
  have rE3 := (rE.alloc (.cells #[.int .i64 N, .slice Ae M ce, .slice A1 G.length c1, .slice none 0 0] 300)).keep (T := 300) (by decide) (Keep.of_grown hp0 g3)
  have rG3 := (rG.alloc (.cells #[.int .i64 N, .slice Ae M ce, .slice A1 G.length c1, .slice none 0 0] 300)).keep (T := 300) (by decide) (Keep.of_grown hp0 g3)
  have hB3 : Below w.heap.size w w3 := (hB2.alloc hB2.size (.cells #[.int .i64 N, .slice Ae M ce, .slice A1 G.length c1, .slice none 0 0] 300)).trans (grown_below g3 hB2.size (by have := hB2.size; simp; omega))
  rw [hnl]
  clear hSt oS g3 rE rG hB2 hp0 hnl
  have hP3 := lt_of_heap hp3
  generalize w2.heap.size = P at *
  have c1' := (blk_facts hp3).1 1
  have hLp := Lib.hid (fun j x i k y r => show LP.lapsP E j x i ((k, y) :: r) = LP.fillP E j x (E.getD k 0) y i (k - i) ++ ⟨E.getD k 0, y, false⟩ :: LP.lapsP E (E.getD k 0) y (k + 1) r from rfl)
  have hFs := Lib.hid (fun j x e y i m => show LP.fillP E j x e y i (m + 1) = ⟨E.getD i 0, x + ((y - x) * (E.getD i 0 - j)).tdiv (e - j), true⟩ :: LP.fillP E j x e y (i + 1) m from rfl)
  have hF0 := Lib.hid (fun j x e y i => show LP.fillP E j x e y i 0 = [] from rfl)
  have hLn := Lib.hid (fun j x i => show LP.lapsP E j x i [] = [] from rfl)
  have hLV3 := Lib.hid hLV2
  have hI0 := OL.start lpE 3 151 w3
  have hzl : (SV.zip G).length = G.length := by rw [List.length_zip]; omega
  clear hLV2
  go_wp2_with fail
  generalize LP.lapsP E = LQ at *
  generalize LP.fillP E = FQ at *
  go_loopw [9, 10, 11, 12, 36] (fun out jv xv iv qv wx => ∃ (q i2 : Nat) (j x : Int) (acc : List LP.Lp), q ≤ G.length ∧ qv = .int .i64 q ∧ jv = .int .i64 j ∧ xv = .int .i64 x ∧ iv = .int .i64 i2 ∧ OL lpE 3 151 w3 out acc wx ∧ (0 ≤ j ∧ j ≤ 16) ∧ (0 ≤ x ∧ x ≤ 1000000000) ∧ Hid (∀ k', i2 ≤ k' → k' < M → j < E.getD k' 0) ∧ i2 ≤ M ∧ acc.length ≤ 20 * q ∧ Hid (UpL i2 M (SV.drop q)) ∧ Hid (acc ++ LQ j x i2 ((SV.zip G).drop q) = LV)) (fun _ _ _ _ qv _ => G.length - (intOf qv).toNat)
  case atStart => exact ⟨0, 0, 0, 0, [], Nat.zero_le _, rfl, rfl, rfl, rfl, hI0, by omega, by omega, Lib.hid (fun k' _ hk => by have := hE1 k' hk; omega), Nat.zero_le _, Nat.zero_le _, Lib.hid hSu, Lib.hid hLV3.out.symm⟩
  case round =>
    clear hI0
    rename World => wx
    obtain ⟨q, i2, j, x, acc, hq, rfl, rfl, rfl, rfl, hI, hj, hx, hjE, hi2, hal, hUp, hF⟩ := hrel
    obtain ⟨Ao, co, hAo⟩ := own_shape hI.own
    subst hAo
    have rS4 := rS.below hI.bel
    have rE4 := rE3.below hI.bel
    have rG4 := rG3.below hI.bel
    have hp4 := blk_below hp3 hI.bel
    have c14 := (blk_facts hp4).1 1
    by_cases hlt : q < G.length
    · obtain ⟨bS, oS, ks, rfl, lS, hks, cks⟩ := rS4.at_ hlt
      obtain ⟨kk, hkk, hke⟩ : ∃ kk : Nat, SV[q]? = some kk ∧ ks = (kk : Int) := by
        unfold natsI at hks
        rw [List.getElem?_map] at hks
        cases hv : SV[q]? with
        | none => rw [hv] at hks; cases hks
        | some kk => rw [hv] at hks; exact ⟨kk, rfl, by injection hks with hks; exact hks.symm⟩
      subst hke
      obtain ⟨bG, oG, y, rfl, lG, hy, cy⟩ := rG4.at_ hlt
      have hup2 : kk < M ∧ i2 ≤ kk ∧ UpL (kk + 1) M (SV.drop (q + 1)) := by
        have hd : (SV.drop q)[0]? = some kk := by rw [List.getElem?_drop, Nat.add_zero]; exact hkk
        have := UpL.at hUp.out hd
        rw [List.drop_drop] at this
        exact this
      obtain ⟨hkM, hik, hUp2⟩ := hup2
      obtain ⟨bE, oE, ek, rfl, lE, hek, cek⟩ := rE4.at_ hkM
      have heg := getD_ofI hek
      have hyb := hGb y (List.mem_of_getElem? hy)
      have heb := hEb ek (List.mem_of_getElem? hek)
      have hjk := hjE.out kk hik hkM
      rw [heg] at hjk
      have hzd : (SV.zip G).drop q = (kk, y) :: (SV.zip G).drop (q + 1) := drop_at (by rw [List.getElem?_zip_eq_some]; exact ⟨hkk, hy⟩)
      have hF1 := Lib.hid (show acc ++ (FQ j x ek y i2 (kk - i2) ++ ⟨ek, y, false⟩ :: LQ ek y (kk + 1) ((SV.zip G).drop (q + 1))) = LV by rw [← hF.out, hzd, hLp.out, heg])
      have hUp2 := Lib.hid hUp2
      have hkM' := Lib.hid hkM
      clear hzd hF hks hkk hy hek hUp
      have hegk := heg
      generalize hRT : LQ ek y (kk + 1) ((SV.zip G).drop (q + 1)) = RT at *
      have hRT := Lib.hid hRT
      have hegk := Lib.hid hegk
      clear heg
      go_wp2
      go_quiet (fail)
      go_wp2_with fail
      go_loopw [9, 12] (fun out iv wy => ∃ (i3 : Nat) (acc3 : List LP.Lp), i3 ≤ M ∧ iv = .int .i64 i3 ∧ OL lpE 3 151 w3 out acc3 wy ∧ Hid (∀ k', i3 ≤ k' → k' < M → j < E.getD k' 0) ∧ i3 ≤ kk ∧ acc3.length ≤ 20 * q + i3 ∧ Hid (acc3 ++ (FQ j x ek y i3 (kk - i3) ++ ⟨ek, y, false⟩ :: RT) = LV)) (fun _ iv _ => kk - (intOf iv).toNat)
      case atStart => exact ⟨i2, acc, hi2, rfl, hI.below (below_drewN (Below.refl _ _) _), hjE, hik, by omega, hF1⟩
      case round =>
        clear hI hF1 rS4 rE4 rG4 hp4 c14 cks cy cek hjE
        rename World => wy
        obtain ⟨i3, acc3, hi3, rfl, hI, hjE, hik3, hal3, hF⟩ := hrel
        obtain ⟨Ao, co, hAo⟩ := own_shape hI.own
        subst hAo
        have hp4 := blk_below hp3 hI.bel
        have c14 := (blk_facts hp4).1 1
        have hw3 := hI.bel.size
        have hm1000 : acc3.length ≤ 1000 := by omega
        by_cases hlt2 : i3 < kk
        · have rE4 := rE3.below hI.bel
          obtain ⟨bE', oE', ei, hE', lE', hei, cei⟩ := rE4.at_ (k := i3) (by have := hkM'.out; omega)
          injection hE' with hE'
          injection hE' with hE1' hE2'
          subst hE1' hE2'
          have hgi := getD_ofI hei
          have hji := hjE.out i3 (Nat.le_refl _) (by have := hkM'.out; omega)
          rw [hgi] at hji
          have heib := hEb ei (List.mem_of_getElem? hei)
          obtain ⟨⟨p1, p2⟩, p3, p4⟩ := lap_parts hx hyb (g := ei - j) (d := ek - j) (by omega) (by omega)
          have hF2 := Lib.hid (show (acc3 ++ [⟨ei, x + ((y - x) * (ei - j)).tdiv (ek - j), true⟩]) ++ (FQ j x ek y (i3 + 1) (kk - (i3 + 1)) ++ ⟨ek, y, false⟩ :: RT) = LV by
            rw [← hF.out, show kk - i3 = (kk - (i3 + 1)) + 1 by omega, hFs.out, hgi, List.append_assoc]; rfl)
          have hn0 : ((ek - j) == 0) = false := by rw [beq_eq_false_iff_ne]; omega
          have hn1 : ¬ ek - j = 0 := by omega
          have u1 : IntKind.i64.wrap (y - x) = y - x := IntWalk.i64_in _ (by omega)
          have u2 : IntKind.i64.wrap (ei - j) = ei - j := IntWalk.i64_in _ (by omega)
          have u3 : IntKind.i64.wrap (ek - j) = ek - j := IntWalk.i64_in _ (by omega)
          have u4 : IntKind.i64.wrap ((y - x) * (ei - j)) = (y - x) * (ei - j) := IntWalk.i64_in _ (by omega)
          have u5 : IntKind.i64.wrap (((y - x) * (ei - j)).tdiv (ek - j)) = ((y - x) * (ei - j)).tdiv (ek - j) := IntWalk.i64_in _ (by omega)
          have p5 : -16000000000 ≤ x + ((y - x) * (ei - j)).tdiv (ek - j) ∧ x + ((y - x) * (ei - j)).tdiv (ek - j) ≤ 17000000000 := by
            clear u1 u2 u3 u4 u5
            generalize ((y - x) * (ei - j)).tdiv (ek - j) = z at *
            omega
          have u6 : IntKind.i64.wrap (x + ((y - x) * (ei - j)).tdiv (ek - j)) = x + ((y - x) * (ei - j)).tdiv (ek - j) := IntWalk.i64_in _ (by omega)
          have lE0 : bE < w3.heap.size := by
            obtain ⟨b9, o9, x9, e9, l9, _⟩ := rE3.at_ hkM'.out
            injection e9 with e9
            injection e9 with e9
            omega
          have hneP : (Value.slice Ao acc3.length co).ownBlock ≠ some P := fun e => by have := own_row_lt hI.own P e; omega
          have hneE : (Value.slice Ao acc3.length co).ownBlock ≠ some bE := fun e => by have := own_row_lt hI.own bE e; omega
          have hPy : P < wy.heap.size := by omega
          have lE3 : bE < wy.heap.size := lE'
          have hown := Lib.hid hI.own
          clear hei hgi hF rE4
          generalize hyx : x + ((y - x) * (ei - j)).tdiv (ek - j) = tm at *
          have x0 : (0 : Int) ≤ (i3 : Int) := by omega
          have x1 : (i3 : Int) < (M : Int) := by have := hkM'.out; omega
          obtain ⟨i0, hi0, hz0, hz1, hz2⟩ := info_parts info_lap
          go_wp2_with fail
          go_region_held3 (fun w' => w'.cell? ⟨P, 1, none⟩ = some (.slice (some ⟨bE, oE, none⟩) M ce) ∧ w'.cell? ⟨bE, oE + i3, none⟩ = some (.int .i64 ei))
            (first
              | with_reducible exact ⟨c14, cei⟩
              | with_reducible exact ⟨q0, q1⟩
              | go_keep)
            (first
              | (refine step_append_lies _ (by rfl) _ _ _ (by rfl) w3.heap.size 151 i0 _ 3 24 Tryz.underlying144 hi0 hz0 hz1 hz2 rfl (by omega) (.slice Ao acc3.length co) acc3.length (acc3.flatMap lpE) (by rfl) ((hown.out.alloc _).drew) ⟨wy.heap.size, 0, none⟩ 1 1 [.int .i64 ei, .int .i64 tm, .bool true] (by rfl) (by rfl) (World.news_of_block (cs := #[.int .i64 ei, .int .i64 tm, .bool true]) (t := 151) (fr := (0, 0)) (heap_alloc_new wy _)) (by simp [Value.oneCell']) (by omega) (by unfold maxLen; omega) (by omega) (by simp; omega) (wy.heap.size + 1) (by simp) ?_; intro gg cap w7 hown7 hgrow hat hlt7; have q0 := (hgrow.cell_far ⟨P, 1, none⟩ (by simp; omega) (fun e => hneP e.symm)).trans ((World.cell?_alloc_lt wy _ ⟨P, 1, none⟩ (by show P < wy.heap.size; omega)).trans c14); have q1 := (hgrow.cell_far ⟨bE, oE + i3, none⟩ (by simp; omega) (fun e => hneE e.symm)).trans ((World.cell?_alloc_lt wy _ ⟨bE, oE + i3, none⟩ (by show bE < wy.heap.size; omega)).trans cei)))
          have hB4 : Below w3.heap.size w3 w7 := below_own (w := (wy.alloc (.cells #[.int .i64 ei, .int .i64 tm, .bool true] 151)).drew) (below_drewN (hI.bel.alloc hw3 _) 1) ((hown.out.alloc _).drew) hgrow (by simp; omega) (Nat.le_refl _)
          have hI7 : OL lpE 3 151 w3 (.slice (some ⟨gg, 0, none⟩) (acc3.length + 1) cap) (acc3 ++ [⟨ei, tm, true⟩]) w7 := ⟨by rw [← flat_snoc, List.length_append]; exact hown7, hB4⟩
          have hl7 : (acc3 ++ [(⟨ei, tm, true⟩ : LP.Lp)]).length = acc3.length + 1 := List.length_append
          clear hown7 hgrow hat hlt7 hI hown hB4 q0 q1 c14 cei
          generalize acc3 ++ [(⟨ei, tm, true⟩ : LP.Lp)] = acc4 at *
          go_wp2
          go_roundw
          case rel => exact ⟨i3 + 1, acc4, by have := hkM'.out; omega, by go_num, hI7, Lib.hid (fun k' h1 h2 => hjE.out k' (by omega) h2), by omega, by omega, hF2⟩
          case measure => simp [intOf]; omega
        · obtain rfl : i3 = kk := by omega
          have hF2 := Lib.hid (show (acc3 ++ [⟨ek, y, false⟩]) ++ RT = LV by rw [← hF.out, Nat.sub_self, hF0.out, List.append_assoc]; rfl)
          have hw6 := Lib.hid hI.own
          have hjk2 := Lib.hid (fun k' (h1 : i3 + 1 ≤ k') (h2 : k' < M) => show ek < E.getD k' 0 by have := hEi i3 k' (by omega) (by rw [hEl]; exact h2); rw [hegk.out] at this; exact this)
          clear hF
          go_wp2_with (at_builtin; refine wpList_app rfl (.tmp 87) (.tmp 91) 144 rfl Tryz.underlying144 info_lap rfl (by omega) (by omega) hw6.out rfl rfl (by first | rfl | (simp; done)) (by rfl) (by simp [Value.oneCell']) (by omega) hw3 ?_; intro v7 w7 hown7 hg7)
          have hI7 := hI.app (x := ⟨ek, y, false⟩) hown7 hg7
          have hl7 : (acc3 ++ [(⟨ek, y, false⟩ : LP.Lp)]).length = acc3.length + 1 := List.length_append
          generalize acc3 ++ [(⟨ek, y, false⟩ : LP.Lp)] = acc4 at *
          clear hI hown7 hg7 hw6 c14
          go_wp2
          go_roundw
          case rel => exact ⟨q + 1, i3 + 1, ek, y, acc4, by omega, by go_num, rfl, rfl, by go_num, hI7, heb, hyb, hjk2, by have := hkM'.out; omega, by omega, hUp2, Lib.hid (by rw [hRT.out]; exact hF2.out)⟩
          case measure => simp [intOf]; omega
    · obtain rfl : q = G.length := by omega
      have hA : Hid (acc = LV) := Lib.hid (by rw [← hF.out, drop_end (by rw [hzl]; exact Nat.le_refl _), hLn.out, List.append_nil])
      have hown := hI.own
      have hbel := hI.bel
      clear hF hUp hI
      go_wp2
      go_ret
      rw [← hA.out]
      exact ⟨Ao, co, rfl, own_mono hown hB3.size, hB3.trans (hbel.mono hB3.size)⟩
end Go.Proofs.YtpepdkgkdbnakaaGreatDoor
