/- The closures that read a field's lines: race.Read$1, tumbref1.SwimsRead$1. Printed by wip/mktx.py. -/
import Derived.Test.YtamcmehmcbjgjaaGreatDoorTxtW
import Derived.Test.YtamcmehmcbjgjaaGreatDoorTxtF
import Derived.Test.YtamcmehmcbjgjaaGreatDoorRegAp
import Derived.Test.YtamcmehmcbjgjaaGreatDoorFielded
import Derived.Deep.DeepCutAuto
namespace Go.Proofs.YtamcmehmcbjgjaaGreatDoor
open Go.RowKit Go.Lib
set_option linter.unusedVariables false

def fdOk (a : List UInt8) : Bool := (fdParse a).isSome
/-- swimmers under way in box b, each with splits of its own -/
structure FdI (w : World) (b : Nat) (L : List (List UInt8)) (W : World) : Prop where
  ex : ∃ (u : Value) (acc : List Sw), W.heap[b]? = some (.cells #[u] 28 (0, 0)) ∧ W.ownsRow (b + 1) 42 2 u acc.length (acc.flatMap swE) ∧ (∀ x ∈ acc, W.ownsRow (b + 1) 3 1 (.slice x.A x.n x.c) x.n (ints x.sp) ∧ x.n ≤ 1000000) ∧ acc.length ≤ L.length ∧ ((∀ a ∈ L, fdOk a = true) → acc.map swD = L.filterMap fdParse)
  mx : Mx W
  bel : Below b w W
theorem FdI.below {w : World} {b : Nat} {L : List (List UInt8)} {W W' : World} (h : FdI w b L W) (B : Below W.heap.size W W') : FdI w b L W' := by
  obtain ⟨u, acc, h1, h2, h3, h4, h5⟩ := h.ex
  have hb := lt_of_heap h1
  exact ⟨⟨u, acc, blk_below h1 B, own_below h2 B, fun x hx => ⟨own_below (h3 x hx).1 B, (h3 x hx).2⟩, h4, h5⟩, h.mx.below B, h.bel.trans (B.mono (by omega))⟩
theorem FdI.bad {w : World} {b : Nat} {L : List (List UInt8)} {W W' : World} (h : FdI w b L W) (B : Below W.heap.size W W') {a : List UInt8} (ha : fdOk a = false) : FdI w b (L ++ [a]) W' := by
  obtain ⟨u, acc, h1, h2, h3, h4, h5⟩ := (h.below B).ex
  exact ⟨⟨u, acc, h1, h2, h3, by rw [List.length_append]; omega, fun h9 => by have := h9 a (by simp); rw [ha] at this; cases this⟩, (h.below B).mx, (h.below B).bel⟩
theorem fdOk_emp {a : List UInt8} (h : ([] : List UInt8) ∈ spl 32 a) : fdOk a = false := by
  unfold fdOk fdParse
  split
  · rename_i x y e
    rw [e] at h
    rw [if_pos (by
      rcases List.mem_cons.1 h with h | h
      · exact .inl h.symm
      · exact .inr (List.mem_singleton.1 h).symm)]
    rfl
  · rfl
theorem fdOk_len {a : List UInt8} (h : (spl 32 a).length ≠ 2) : fdOk a = false := by
  unfold fdOk fdParse
  split
  · rename_i x y e
    rw [e] at h
    exact absurd rfl h
  · rfl
theorem fdParse_two {a x y : List UInt8} (h : spl 32 a = [x, y]) (hx : x ≠ []) (hy : y ≠ []) : fdParse a = (numsP (spl 44 y) 6).map fun ns => (⟨x.toArray⟩, ns) := by
  unfold fdParse
  rw [h]
  exact if_neg (by rintro (h | h); exact hx h; exact hy h)
theorem spl_le (c : UInt8) : ∀ l : List UInt8, ∀ p ∈ spl c l, p.length ≤ l.length
  | [], p, h => by simp [spl] at h; subst h; simp
  | b :: r, p, h => by
    have ih := spl_le c r
    unfold spl at h
    split at h
    · rcases List.mem_cons.1 h with rfl | h
      · simp
      · have := ih p h; simp only [List.length_cons]; omega
    · split at h
      · rename_i e; exact absurd e (spl_ne c r)
      · rename_i x xs e
        rcases List.mem_cons.1 h with rfl | h
        · have := ih x (by rw [e]; simp); simp only [List.length_cons]; omega
        · have := ih p (by rw [e]; exact List.mem_cons_of_mem _ h); simp only [List.length_cons]; omega
theorem numsP_len {most : Nat} {l : List (List UInt8)} {ns : List Int} (h : numsP l most = some ns) : ns.length = l.length := by
  rw [(numsP_iff.1 h).1, List.length_map]
theorem own_tyF {w : World} {B1 B2 s1 s2 n1 n2 : Nat} {e1 e2 : TypeId} {u1 u2 : Value} {x1 x2 : List Value} (h1 : w.ownsRow B1 e1 s1 u1 n1 x1) (h2 : w.ownsRow B2 e2 s2 u2 n2 x2) (he : e2 ≠ e1) : u2.ownBlock = none ∨ u2.ownBlock ≠ u1.ownBlock := by
  rcases h2.2 with ⟨rfl, _⟩ | ⟨g2, cap2, cur2, rfl, _, hh2, _⟩
  · exact .inl rfl
  · refine .inr ?_
    rcases h1.2 with ⟨rfl, _⟩ | ⟨g1, cap1, cur1, rfl, _, hh1, _⟩
    · simp [Value.ownBlock]
    · intro e
      have e' : g2 = g1 := by simpa [Value.ownBlock] using e
      subst e'
      rw [hh1] at hh2
      injection hh2 with hh2
      injection hh2 with _ hh2
      exact he hh2.symm
theorem own_setB {w : World} {b B e s n o : Nat} {u : Value} {xs : List Value} (h : w.ownsRow B e s u n xs) (hb : b < B) (v : Value) : (w.setCell ⟨b, o, none⟩ v).ownsRow B e s u n xs :=
  h.kept (row := some b) (grown_setCell (grown_refl _ _) (p := ⟨b, o, none⟩) (.inl rfl) v) (.inr fun e => by have := own_row_lt h b e; omega)
theorem FdI.good {w : World} {b : Nat} {L : List (List UInt8)} {a : List UInt8} {W : World} {u : Value} {acc : List Sw} {x : Sw} (h1 : W.heap[b]? = some (.cells #[u] 28 (0, 0))) (h2 : W.ownsRow (b + 1) 42 2 u (acc.length + 1) (acc.flatMap swE ++ swE x)) (h3 : ∀ y ∈ acc, W.ownsRow (b + 1) 3 1 (.slice y.A y.n y.c) y.n (ints y.sp) ∧ y.n ≤ 1000000) (h3' : W.ownsRow (b + 1) 3 1 (.slice x.A x.n x.c) x.n (ints x.sp) ∧ x.n ≤ 1000000) (h4 : acc.length ≤ L.length) (h5 : (∀ a ∈ L, fdOk a = true) → acc.map swD = L.filterMap fdParse) (h6 : fdOk a = true → fdParse a = some (swD x)) (hm : Mx W) (hB : Below b w W) : FdI w b (L ++ [a]) W := by
  refine ⟨⟨u, acc ++ [x], h1, ?_, fun y hy => ?_, by simp; exact h4, fun h9 => ?_⟩, hm, hB⟩
  · rw [List.length_append, List.flatMap_append]; simpa using h2
  · rcases List.mem_append.1 hy with hy | hy
    · exact h3 y hy
    · rw [List.mem_singleton.1 hy]; exact h3'
  · rw [List.map_append, List.filterMap_append, h5 fun z hz => h9 z (List.mem_append_left _ hz)]
    simp [h6 (h9 a (by simp))]
theorem shelfX {e : TypeId} {w : World} {A : Option Addr} {n : Nat} {l : List ByteArray} (h : RS e w A n l) (hp : 0 < n) : ∃ b off, A = some ⟨b, off, none⟩ ∧ ∀ j, j < l.length → w.cell? ⟨b, off + j, none⟩ = some (.string (l.getD j ⟨#[]⟩)) := by
  obtain ⟨b, off, cs, fz, hA, hb, hc⟩ := h.2.2 hp
  refine ⟨b, off, hA, fun j hj => ?_⟩
  have hx : l[j]? = some (l.getD j ⟨#[]⟩) := by rw [List.getD_eq_getElem?_getD, List.getElem?_eq_getElem hj]; rfl
  rw [cell_of_row w b _ cs e fz hb]
  exact hc j _ hx
theorem containsX_c (A : Option Addr) (n c : Nat) (l : List ByteArray) (x : ByteArray) (w : World) (h : RS 9 w A n l) :
    Calls Tryz.prog 62 #[.slice A n c, .string x] w fun e w' => e = .returned (.bool (Lib.containsS l x)) ∧ w = w' := by
  have hl := h.len
  have hb := h.bd
  rcases Nat.eq_zero_or_pos n with h0 | hp
  · subst h0
    obtain rfl : l = [] := List.eq_nil_of_length_eq_zero hl
    exact (Tryz.slices_Contains_string_empty A c x w).mono fun _ _ ⟨h1, h2⟩ => ⟨by rw [h1]; rfl, h2.symm⟩
  · obtain ⟨b, off, rfl, hc⟩ := shelfX h hp
    refine (Tryz.slices_Contains_string b off n c l x w (by omega) (by omega) hc).mono fun _ _ ⟨he, hw⟩ => ⟨?_, hw.symm⟩
    rw [he, List.take_of_length_le (by omega)]
set_option maxHeartbeats 6400000 in
set_option maxRecDepth 100000 in
theorem readCl_c (w : World) (b N : Nat) (hN : N ≤ 900000) (hb : w.heap.size ≤ b) (hM : Mx w) : TakeL N 53 #[.pointer (some ⟨b, 0, none⟩)] fdOk (FdI w b) := by
  refine ⟨enters_of Tryz.func53 (by kernel_rfl) rfl, fun L s W hI hL hs => ?_, fun L W q h => h.below (below_drewN (Below.refl _ _) q), fun L W h => h.mx⟩
  have hIb := Lib.hid (fun W' (B : Below W.heap.size W W') => hI.below B)
  have hMxx := Lib.hid (fun W' (B : Below b w W') => hM.below (B.mono hb))
  have hBad := Lib.hid (fun W' (B : Below W.heap.size W W') (h : fdOk s.data.toList = false) => hI.bad B h)
  have hSp := Lib.hid (wordsSplit_c s W (by omega) hI.mx)
  have hE1 := Lib.hid (fun h => fdOk_emp (a := s.data.toList) h)
  have hE2 := Lib.hid (fun h => fdOk_len (a := s.data.toList) h)
  have hT := Lib.hid (fun x y h => fdParse_two (a := s.data.toList) (x := x) (y := y) h)
  have hOk := Lib.hid (show fdOk s.data.toList = (fdParse s.data.toList).isSome from rfl)
  have hGd := Lib.hid (fun (W' : World) (u : Value) (acc : List Sw) (x : Sw) h1 h2 h3 h3' h4 h5 h6 hm hB => FdI.good (w := w) (b := b) (L := L) (a := s.data.toList) (W := W') (u := u) (acc := acc) (x := x) h1 h2 h3 h3' h4 h5 h6 hm hB)
  have hsz : ∀ p ∈ spl 32 s.data.toList, p.length ≤ N := fun p hp => by
    have h9 := Lib.size_eq s
    have := spl_le 32 _ p hp
    omega
  have hsz' := Lib.hid hsz
  have hI' := Lib.hid hI
  obtain ⟨OK, hOK⟩ : ∃ OK, fdOk s.data.toList = OK := ⟨_, rfl⟩
  rw [hOK] at hOk ⊢
  have hOK' := Lib.hid hOK
  generalize hps : spl 32 s.data.toList = ps at *
  clear hI hsz hOK hps
  unfold RetWs at hSp
  go_enter Tryz.func53, Tryz.ntmps53
  go_wp2_with fail
  refine hSp.out.mono ?_; rintro e w1 ⟨A, n, Lw, rfl, hR, hLw, B1⟩
  by_cases hem : ([] : List UInt8) ∈ ps
  · have hd : decide (([] : List UInt8) ∉ ps) = false := decide_eq_false (not_not_intro hem)
    obtain rfl : OK = false := hOK'.out.symm.trans (hE1.out hem)
    have hI2 := hBad.out _ B1 hOK'.out
    rw [hd]
    clear hd hem hLw hSp
    go_wp2
    go_ret
    exact ⟨rfl, hI2⟩
  have hd : decide (([] : List UInt8) ∉ ps) = true := decide_eq_true hem
  rw [hd]
  have hLw' := hLw hem
  have hLn := hR.len
  have hnp : ps.length = n := by rw [← hLw', List.length_map, hLn]
  by_cases h2 : n = 2
  rotate_left
  · have hd2 : ((n : Int) != 2) = true := by rw [bne_iff_ne]; omega
    have hd3 : ¬ (n : Int) = 2 := by omega
    obtain rfl : OK = false := hOK'.out.symm.trans (hE2.out (by rw [hnp]; exact h2))
    have hI2 := hBad.out _ B1 hOK'.out
    clear hd hem hLw hSp hLw' h2 hE1 hE2
    go_wp2
    go_ret
    exact ⟨rfl, hI2⟩
  subst h2
  obtain ⟨bx, ox, x0, hA, hbl, hx0, c0⟩ := hR.at_ (k := 0) (by omega)
  obtain ⟨bx', ox', x1, hA', _, hx1, c1⟩ := hR.at_ (k := 1) (by omega)
  obtain ⟨bz, oz, csx, fzx, hAz, hbk, hcz⟩ := hR.2.2 (by omega)
  subst hA
  injection hA' with hA'
  injection hA' with q1 q2
  subst q1 q2
  injection hAz with hAz
  injection hAz with q1 q2
  subst q1 q2
  have hps2 : ps = [bL x0, bL x1] := by
    rw [← hLw']
    match Lw, hLn, hx0, hx1 with
    | [p, q], _, h0, h1 => cases h0; cases h1; rfl
  have hm0 : bL x0 ≠ [] := fun e => hem (by rw [hps2, e]; simp)
  have hm1 : bL x1 ≠ [] := fun e => hem (by rw [hps2, e]; simp)
  have hpar := Lib.hid (hT.out _ _ hps2 hm0 hm1)
  have hx1s : x1.size ≤ N := by
    have h9 := hsz'.out (bL x1) (by rw [hps2]; simp)
    have := Lib.size_eq x1
    unfold bL at h9
    omega
  have hI1 := hIb.out _ B1
  have hcz0 : csx[ox + 0]? = some (.string x0) := by rw [← cell_of_row w1 bx (ox + 0) csx _ fzx hbk]; exact c0
  clear hcz
  have hSl := Lib.hid (splitS_c 44 x1 w1 (by omega) hI1.mx)
  clear hem hd hLw hLw' hsz' hT hE1 hE2 hSp hx0 hx1 hnp hLn hm0 hm1 hps2
  go_wp2_with fail
  refine hSl.out.mono ?_; rintro e w2 ⟨A2, n2, L2, rfl, hR2, hL2, hn2, _, B2⟩
  have hNs := Lib.hid (numbers_c A2 n2 n2 6 L2 w2 hR2 (by omega) (by omega))
  rw [hL2] at hNs
  unfold RetNs at hNs
  obtain ⟨RS9, hRS⟩ : ∃ RS9, numsP (spl 44 x1.data.toList) 6 = RS9 := ⟨_, rfl⟩
  rw [hRS] at hNs
  have hpar2 : Hid (fdParse s.data.toList = RS9.map fun ns => (⟨(bL x0).toArray⟩, ns)) := Lib.hid (by rw [hpar.out, ← hRS]; rfl)
  have hRS := Lib.hid hRS
  have hlsp := Lib.hid (show (spl 44 x1.data.toList).length = n2 by rw [← hL2, List.length_map, hR2.len])
  clear hSl hpar
  have hn29 : n2 ≤ 1000000 := by omega
  clear hL2 hn2
  go_wp2_with fail
  refine hNs.out.mono ?_; rintro e w3 ⟨A3, n3, c3, rfl, ho3, hz3, B3⟩
  have B12 := below_next B1 (below_next B2 B3)
  have I3 := hIb.out _ B12
  have hbk3 := blk_below hbk (below_next B2 B3)
  have hok9 : OK = RS9.isSome := by rw [hOk.out, hpar2.out]; cases RS9 <;> rfl
  have hn39 : n3 ≤ 1000000 := by
    cases RS9 with
    | none => have := (hz3 rfl).2.1; omega
    | some ns =>
      have h8 := numsP_len hRS.out
      have h9 := ho3.1
      rw [ints_len, hlsp.out] at *
      simp only [Option.getD_some] at h9
      omega
  subst hok9
  have h6 : fdOk s.data.toList = true → fdParse s.data.toList = some (x0, RS9.getD []) := fun h => by
    rw [hpar2.out]
    rw [hOK'.out] at h
    cases RS9 with
    | none => cases h
    | some ns => simp [bL]
  have h6' := Lib.hid h6
  have hmx := I3.mx
  have hbel := I3.bel
  obtain ⟨u, acc, hbx, hoA, hrA, haL, hfA⟩ := I3.ex
  have hrA' := Lib.hid hrA
  have hfA' := Lib.hid hfA
  have haN : acc.length ≤ 1000000 := by omega
  have lb9 : b < w3.drew.heap.size := lt_of_heap hbx
  have hne9 : bx ≠ b := fun e => by subst e; rw [hbk3] at hbx; injection hbx with hbx; injection hbx with _ hbx; exact absurd hbx (by decide)
  have hbx9 : w3.drew.heap[b]? = some (.cells #[u] 28 (0, 0)) := hbx
  have hbk9 : w3.drew.heap[bx]? = some (.cells csx 9 fzx) := hbk3
  have cb9 : w3.drew.cell? ⟨b, 0, none⟩ = some u := (blk_facts hbx9).1 0
  have hoA9 : w3.drew.ownsRow (b + 1) 42 2 u acc.length (acc.flatMap swE) := hoA
  have hbs : b + 1 ≤ w2.heap.size := by have h8 := (hIb.out _ (below_next B1 B2)).ex; obtain ⟨_, _, h9, _⟩ := h8; have := lt_of_heap h9; omega
  have ho39 : w3.drew.ownsRow (b + 1) 3 1 (.slice A3 n3 c3) n3 (ints (RS9.getD [])) := own_mono (base' := b + 1) ho3 hbs
  have hmx9 : Mx w3.drew := hmx
  have hbel9 : Below b w w3.drew := below_drewN hbel 1
  clear hNs hI1 I3 hOk hOK' hpar2 hbk hbk3 hbx hoA hmx hbel hrA hfA h6 hz3 ho3 hRS hlsp hR hR2 hbl c0 c1
  obtain ⟨i0, hi0, hz0, hz1, hz2⟩ := info_parts info_swim
  clear hIb hBad hI' B1 B2 B3 B12 hbs
  go_wp2_with fail
  refine wp_region_inv (by kernel_rfl) (fun listed a w' => ∃ xs : Nat → Value, a = { tmps := #[.string s, .pointer (some ⟨b, 0, none⟩), undef, .bool false, .slice (some ⟨bx, ox, none⟩) 2 2, .bool true, .slice A3 n3 c3, .bool RS9.isSome, .tuple #[.slice (some ⟨bx, ox, none⟩) 2 2, .bool true], .string s, .tuple #[.slice (some ⟨bx, ox, none⟩) 2 2, .bool true], .slice (some ⟨bx, ox, none⟩) 2 2, .bool true, .bool true, .bool false, .bool false, .slice (some ⟨bx, ox, none⟩) 2 2, .int .i64 2, .bool false, .bool false, .tuple #[.slice A3 n3 c3, .bool RS9.isSome], .slice (some ⟨bx, ox, none⟩) 2 2, .pointer (some ⟨bx, ox + 1, none⟩), .string x1, .slice A2 n2 n2, .tuple #[.slice A3 n3 c3, .bool RS9.isSome], .slice A3 n3 c3, .bool RS9.isSome, xs 0, xs 1, xs 2, xs 3, xs 4, xs 5, xs 6, xs 7, undef], defers := [] } ∧ (∀ j, listed.getD j false = true → CV [some (u), some (.slice (some ⟨bx, ox, none⟩) 2 2), some (.pointer (some ⟨bx, ox, none⟩)), some (.string x0), some (.slice A3 n3 c3), some (.agg #[.string x0, .slice A3 n3 c3]), none, none, none] j w' (xs j)) ∧ ApSt (b + 1) 42 2 (acc.length) (acc.flatMap swE) ([.string x0, .slice A3 n3 c3]) (w3.drew) 0 6 7 8 ⟨b, 0, none⟩ listed xs w') ?h0 (AllOps.of ?hs) ?he
  case h0 => exact ⟨fun j => match j with | 0 => undef | 1 => undef | 2 => undef | 3 => undef | 4 => undef | 5 => undef | 6 => undef | 7 => undef | _ => undef, rfl, (fun j hj => by rw [rep_falseA] at hj; cases hj), ApSt.start⟩
  case hs =>
    refine ⟨?_, ?_, ?_, ?_, ?_, ?_, ?_, ?_, ?_, trivial⟩
    · intro listed a w' hs hI h0 hd K2 hK
      obtain ⟨xs, rfl, hC, hW⟩ := hI
      have hK2 := Lib.hid hK
      have hC2 := Lib.hid hC
      have B9 := hW.below h0
      have c9 : w'.cell? ⟨b, 0, none⟩ = some u := (B9.cell (p := ⟨b, 0, none⟩) lb9).trans cb9
      have hU9 := Lib.hid (hW.row h0 (Below.refl _ _) (v := u) (own_below hoA9 B9) (by decide) (by decide) (by decide))
      clear hd hK hC h0
      go_simp
      exact hK2.out _ _ ⟨updV xs 0 (u), by simp [updV], cond_set hC2.out (fun _ _ h => h) (CV.of rfl rfl), hU9.out⟩
    · intro listed a w' hs hI h0 hd K2 hK
      obtain ⟨xs, rfl, hC, hW⟩ := hI
      have hK2 := Lib.hid hK
      have hC2 := Lib.hid hC
      clear hd hK hC h0
      go_simp
      exact hK2.out _ _ ⟨updV xs 1 (.slice (some ⟨bx, ox, none⟩) 2 2), by simp [updV], cond_set hC2.out (fun _ _ h => h) (CV.of rfl rfl), hW.keep (by decide) (by decide) (by decide) (by decide)⟩
    · intro listed a w' hs hI h0 hd K2 hK
      obtain ⟨xs, rfl, hC, hW⟩ := hI
      have e1 : xs 1 = .slice (some ⟨bx, ox, none⟩) 2 2 := (hC 1 (hd ⟨1, .data⟩ (by simp) rfl)) _ rfl
      have hK2 := Lib.hid hK
      have hC2 := Lib.hid hC
      clear hd hK hC h0
      go_simp
      exact hK2.out _ _ ⟨updV xs 2 (.pointer (some ⟨bx, ox, none⟩)), by simp [updV, e1], cond_set hC2.out (fun _ _ h => h) (CV.of rfl rfl), hW.keep (by decide) (by decide) (by decide) (by decide)⟩
    · intro listed a w' hs hI h0 hd K2 hK
      obtain ⟨xs, rfl, hC, hW⟩ := hI
      have e2 : xs 2 = .pointer (some ⟨bx, ox, none⟩) := (hC 2 (hd ⟨2, .data⟩ (by simp) rfl)) _ rfl
      have hK2 := Lib.hid hK
      have hC2 := Lib.hid hC
      have q9 := hW.typ bx csx _ fzx (by decide) hne9 hbk9
      have c9 : w'.cell? ⟨bx, ox + 0, none⟩ = some (.string x0) := by rw [cell_of_row w' bx (ox + 0) csx _ fzx q9]; exact hcz0
      have c9' : w'.cell? ⟨bx, ox, none⟩ = some (.string x0) := c9
      clear hd hK hC h0
      go_simp
      exact hK2.out _ _ ⟨updV xs 3 (.string x0), by simp [updV, e2], cond_set hC2.out (fun _ _ h => h) (CV.of rfl rfl), hW.keep (by decide) (by decide) (by decide) (by decide)⟩
    · intro listed a w' hs hI h0 hd K2 hK
      obtain ⟨xs, rfl, hC, hW⟩ := hI
      have hK2 := Lib.hid hK
      have hC2 := Lib.hid hC
      clear hd hK hC h0
      go_simp
      exact hK2.out _ _ ⟨updV xs 4 (.slice A3 n3 c3), by simp [updV], cond_set hC2.out (fun _ _ h => h) (CV.of rfl rfl), hW.keep (by decide) (by decide) (by decide) (by decide)⟩
    · intro listed a w' hs hI h0 hd K2 hK
      obtain ⟨xs, rfl, hC, hW⟩ := hI
      have e3 : xs 3 = .string x0 := (hC 3 (hd ⟨3, .data⟩ (by simp) rfl)) _ rfl
      have e4 : xs 4 = .slice A3 n3 c3 := (hC 4 (hd ⟨4, .data⟩ (by simp) rfl)) _ rfl
      have hK2 := Lib.hid hK
      have hC2 := Lib.hid hC
      clear hd hK hC h0
      go_simp
      exact hK2.out _ _ ⟨updV xs 5 (.agg #[.string x0, .slice A3 n3 c3]), by simp [updV, e3, e4], cond_set hC2.out (fun _ _ h => h) (CV.of rfl rfl), hW.keep (by decide) (by decide) (by decide) (by decide)⟩
    · intro listed a w' hs hI h0 hd K2 hK
      obtain ⟨xs, rfl, hC, hW⟩ := hI
      have e5 : xs 5 = .agg #[.string x0, .slice A3 n3 c3] := (hC 5 (hd ⟨5, .data⟩ (by simp) rfl)) _ rfl
      have hK2 := Lib.hid hK
      have hC2 := Lib.hid hC
      have hL9 := Lib.hid (hW.lay h0 (by decide) (by decide) (by decide))
      clear hd hK hC h0
      go_simp
      exact hK2.out _ _ ⟨updV xs 6 (.slice (some ⟨w'.heap.size, 0, none⟩) 1 1), by simp [updV, e5], cond_set hC2.out (fun _ _ h => h) (CV.free rfl), hL9.out⟩
    · intro listed a w' hs hI h0 hd K2 hK
      obtain ⟨xs, rfl, hC, hW⟩ := hI
      have e0 : xs 0 = u := (hC 0 (hd ⟨0, .data⟩ (by simp) rfl)) _ rfl
      have hK2 := Lib.hid hK
      have hC2 := Lib.hid hC
      obtain ⟨o9, B9, z9, q9, hz9, hnx⟩ := hW.app h0 (hd ⟨0, .data⟩ (by simp) rfl) (hd ⟨6, .data⟩ (by simp) rfl) (by decide) (by decide) (by decide)
      rw [e0] at o9 hnx
      have hnx' := Lib.hid hnx
      clear hd hK hC hnx
      refine step_append_lies _ rfl (.tmp 28) (.tmp 34) 28 (by rfl) _ 42 i0 _ 2 40 Tryz.underlying28 hi0 hz0 hz1 hz2 (by rfl) (by omega) _ _ _ (by show xs 0 = _; exact e0) o9 _ 1 1 ([.string x0, .slice A3 n3 c3]) (by show xs 6 = _; exact q9) rfl (World.news_of_block hz9) (by simp [Value.oneCell']) (by omega) (by unfold maxLen; omega) (by omega) (Nat.le_trans lb9 B9.size) _ rfl ?_
      intro g cap w2 ho hg hat hlt
      clear h0
      exact hK2.out _ _ ⟨updV xs 7 (.slice (some ⟨g, 0, none⟩) ((acc.length) + 1) cap), by first | rfl | simp [updV, Act.put], cond_set hC2.out (fun _ _ h => h) (CV.free rfl), hnx'.out g cap w2 ho hg hat⟩
    · intro listed a w' hs hI h0 hd K2 hK
      obtain ⟨xs, rfl, hC, hW⟩ := hI
      have hK2 := Lib.hid hK
      have hC2 := Lib.hid hC
      obtain ⟨w1, g, cap, b1, b2, b3, b4, hnx⟩ := hW.store h0 (hd ⟨7, .data⟩ (by simp) rfl) (by decide) (by decide) (by decide)
      have r9 := blk_grown (blk_below hbx9 b1) b3 (fun e => by have := own_row_lt b2 b e.symm; omega)
      have f9 := (blk_facts r9).2 0
      have c9 : w'.cell? ⟨b, 0, none⟩ = some u := (blk_facts r9).1 0
      have hnx' := Lib.hid hnx
      clear hd hK hC h0
      go_simp
      exact hK2.out _ _ ⟨updV xs 8 (undef), by simp [updV, b4], cond_set hC2.out (fun _ _ h => h) (CV.free rfl), hnx'.out _⟩
  case he =>
    intro listed a w' hs hI hr
    obtain ⟨xs, rfl, hC, hW⟩ := hI
    have hal := all_listed hs hr ⟨rfl, rfl, rfl, rfl, rfl, rfl, rfl, rfl, rfl, trivial⟩
    have e0 : xs 0 = u := (hC 0 (hal 0 (by simp))) _ rfl
    have e1 : xs 1 = .slice (some ⟨bx, ox, none⟩) 2 2 := (hC 1 (hal 1 (by simp))) _ rfl
    have e2 : xs 2 = .pointer (some ⟨bx, ox, none⟩) := (hC 2 (hal 2 (by simp))) _ rfl
    have e3 : xs 3 = .string x0 := (hC 3 (hal 3 (by simp))) _ rfl
    have e4 : xs 4 = .slice A3 n3 c3 := (hC 4 (hal 4 (by simp))) _ rfl
    have e5 : xs 5 = .agg #[.string x0, .slice A3 n3 c3] := (hC 5 (hal 5 (by simp))) _ rfl
    obtain ⟨w1, w2, g, cap, b1, b2, b3, b4, b5, b6, b7⟩ := hW.done (hal 7 (by simp)) (hal 8 (by simp))
    clear hC hs hr hal hW
    rw [e0] at b2 b5 b6
    subst b7
    have r1 := blk_grown (blk_below hbx9 b1) b5 (fun e => by have := own_row_lt b2 b e.symm; omega)
    have r2 := blk_set r1 0 (.slice (some ⟨g, 0, none⟩) (acc.length + 1) cap)
    have hkA : ∀ y ∈ acc, (w2.setCell ⟨b, 0, none⟩ (.slice (some ⟨g, 0, none⟩) (acc.length + 1) cap)).ownsRow (b + 1) 3 1 (.slice y.A y.n y.c) y.n (ints y.sp) ∧ y.n ≤ 1000000 := fun y hy => ⟨own_setB ((own_below (w := w3.drew) (hrA'.out y hy).1 b1).kept b5 (own_tyF b2 (own_below (w := w3.drew) (hrA'.out y hy).1 b1) (by decide))) (Nat.lt_succ_self b) _, (hrA'.out y hy).2⟩
    have hkB := own_setB (o := 0) ((own_below ho39 b1).kept b5 (own_tyF b2 (own_below ho39 b1) (by decide))) (Nat.lt_succ_self b) (.slice (some ⟨g, 0, none⟩) (acc.length + 1) cap)
    have hB1 := hbel9.trans (b1.mono (Nat.le_of_lt lb9))
    have hB2 := hB1.grown b5 (Nat.le_trans (Nat.le_of_lt lb9) b1.size) (fun k hk => by have := own_row_lt b2 k hk; omega)
    have hFin := Lib.hid (hGd.out _ _ acc ⟨x0, A3, n3, c3, RS9.getD []⟩ r2 (own_setB (o := 0) b4 (Nat.lt_succ_self b) _) hkA ⟨hkB, hn39⟩ haL hfA'.out h6'.out (hMxx.out _ (hB2.setCell (p := ⟨b, 0, none⟩) (Nat.le_refl _) _)) (hB2.setCell (p := ⟨b, 0, none⟩) (Nat.le_refl _) _))
    clear r1 r2 hkA hkB hB1 hB2 b1 b2 b3 b4 b5 b6 e0 e1 e2 e3 e4 e5 hi0 hz0 hz1 hz2 hGd
    generalize w2.setCell ⟨b, 0, none⟩ (.slice (some ⟨g, 0, none⟩) (acc.length + 1) cap) = w8 at *
    go_wp2
    go_ret
    exact ⟨rfl, hFin.out⟩
set_option maxHeartbeats 6400000 in
set_option maxRecDepth 100000 in
theorem refCl_c (w : World) (b N : Nat) (hN : N ≤ 900000) (hb : w.heap.size ≤ b) (hM : Mx w) (hTb : Tb w) (hEx : Ex w) : TakeL N 61 #[.pointer (some ⟨b, 0, none⟩)] fdOk (FdI w b) := by
  refine ⟨enters_of Tryz.func61 (by kernel_rfl) rfl, fun L s W hI hL hs => ?_, fun L W q h => h.below (below_drewN (Below.refl _ _) q), fun L W h => h.mx⟩
  have hIb := Lib.hid (fun W' (B : Below W.heap.size W W') => hI.below B)
  have hMxx := Lib.hid (fun W' (B : Below b w W') => hM.below (B.mono hb))
  have hBad := Lib.hid (fun W' (B : Below W.heap.size W W') (h : fdOk s.data.toList = false) => hI.bad B h)
  have hSp := Lib.hid (splitS_c 32 s W (by omega) hI.mx)
  have hE1 := Lib.hid (fun h => fdOk_emp (a := s.data.toList) h)
  have hE2 := Lib.hid (fun h => fdOk_len (a := s.data.toList) h)
  have hT := Lib.hid (fun x y h => fdParse_two (a := s.data.toList) (x := x) (y := y) h)
  have hOk := Lib.hid (show fdOk s.data.toList = (fdParse s.data.toList).isSome from rfl)
  have hGd := Lib.hid (fun (W' : World) (u : Value) (acc : List Sw) (x : Sw) h1 h2 h3 h3' h4 h5 h6 hm hB => FdI.good (w := w) (b := b) (L := L) (a := s.data.toList) (W := W') (u := u) (acc := acc) (x := x) h1 h2 h3 h3' h4 h5 h6 hm hB)
  have hsz : ∀ p ∈ spl 32 s.data.toList, p.length ≤ N := fun p hp => by
    have h9 := Lib.size_eq s
    have := spl_le 32 _ p hp
    omega
  have hsz' := Lib.hid hsz
  have hI' := Lib.hid hI
  obtain ⟨OK, hOK⟩ : ∃ OK, fdOk s.data.toList = OK := ⟨_, rfl⟩
  rw [hOK] at hOk ⊢
  have hOK' := Lib.hid hOK
  generalize hps : spl 32 s.data.toList = ps at *
  clear hI hsz hOK hps
  go_enter Tryz.func61, Tryz.ntmps61
  go_wp2_with fail
  refine hSp.out.mono ?_; rintro e w1 ⟨A, n, Lw, rfl, hR, hLw', hnz, _, B1⟩
  have hCo := Lib.hid (containsX_c A n n Lw ⟨#[]⟩ w1 hR)
  have hem0 : Lib.containsS Lw ⟨#[]⟩ = decide (([] : List UInt8) ∈ ps) := by
    rw [Bool.eq_iff_iff, Lib.containsS_iff, decide_eq_true_eq, ← hLw', List.mem_map]
    constructor
    · intro h; exact ⟨_, h, rfl⟩
    · rintro ⟨x, hx, e⟩
      have : x = ⟨#[]⟩ := by cases x; unfold bL at e; simp at e; simp [e]
      rw [← this]; exact hx
  rw [hem0] at hCo
  clear hem0
  by_cases hem : ([] : List UInt8) ∈ ps
  · have hd : decide (([] : List UInt8) ∈ ps) = true := decide_eq_true hem
    rw [hd] at hCo
    obtain rfl : OK = false := hOK'.out.symm.trans (hE1.out hem)
    have hI2 := hBad.out _ B1 hOK'.out
    clear hd hem hLw' hSp
    go_wp2_with fail
    refine hCo.out.mono ?_; rintro e w2 ⟨rfl, rfl⟩
    go_wp2
    go_ret
    exact ⟨rfl, hI2⟩
  have hd : decide (([] : List UInt8) ∈ ps) = false := decide_eq_false hem
  rw [hd] at hCo
  go_wp2_with fail
  refine hCo.out.mono ?_; rintro e w1' ⟨rfl, rfl⟩
  clear hCo
  have hLn := hR.len
  have hnp : ps.length = n := by rw [← hLw', List.length_map, hLn]
  by_cases h2 : n = 2
  rotate_left
  · have hd2 : ((n : Int) != 2) = true := by rw [bne_iff_ne]; omega
    have hd3 : ¬ (n : Int) = 2 := by omega
    obtain rfl : OK = false := hOK'.out.symm.trans (hE2.out (by rw [hnp]; exact h2))
    have hI2 := hBad.out _ B1 hOK'.out
    clear hd hem hSp hLw' h2 hE1 hE2
    go_wp2
    go_ret
    exact ⟨rfl, hI2⟩
  subst h2
  obtain ⟨bx, ox, x0, hA, hbl, hx0, c0⟩ := hR.at_ (k := 0) (by omega)
  obtain ⟨bx', ox', x1, hA', _, hx1, c1⟩ := hR.at_ (k := 1) (by omega)
  obtain ⟨bz, oz, csx, fzx, hAz, hbk, hcz⟩ := hR.2.2 (by omega)
  subst hA
  injection hA' with hA'
  injection hA' with q1 q2
  subst q1 q2
  injection hAz with hAz
  injection hAz with q1 q2
  subst q1 q2
  have hps2 : ps = [bL x0, bL x1] := by
    rw [← hLw']
    match Lw, hLn, hx0, hx1 with
    | [p, q], _, h0, h1 => cases h0; cases h1; rfl
  have hm0 : bL x0 ≠ [] := fun e => hem (by rw [hps2, e]; simp)
  have hm1 : bL x1 ≠ [] := fun e => hem (by rw [hps2, e]; simp)
  have hpar := Lib.hid (hT.out _ _ hps2 hm0 hm1)
  have hx1s : x1.size ≤ N := by
    have h9 := hsz'.out (bL x1) (by rw [hps2]; simp)
    have := Lib.size_eq x1
    unfold bL at h9
    omega
  have hI1 := hIb.out _ B1
  have hcz0 : csx[ox + 0]? = some (.string x0) := by rw [← cell_of_row w1 bx (ox + 0) csx _ fzx hbk]; exact c0
  clear hcz
  have hSl := Lib.hid (splitS_c 44 x1 w1 (by omega) hI1.mx)
  clear hem hd hLw' hsz' hT hE1 hE2 hSp hx0 hx1 hnp hLn hm0 hm1 hps2
  go_wp2_with fail
  refine hSl.out.mono ?_; rintro e w2 ⟨A2, n2, L2, rfl, hR2, hL2, hn2, _, B2⟩
  have hNs := Lib.hid (intsW_c A2 n2 n2 6 L2 w2 hR2 (by omega) (by omega) (hTb.below ((hIb.out _ (below_next B1 B2)).bel.mono hb)) (hEx.below ((hIb.out _ (below_next B1 B2)).bel.mono hb)))
  rw [hL2] at hNs
  unfold RetNs at hNs
  obtain ⟨RS9, hRS⟩ : ∃ RS9, numsP (spl 44 x1.data.toList) 6 = RS9 := ⟨_, rfl⟩
  rw [hRS] at hNs
  have hpar2 : Hid (fdParse s.data.toList = RS9.map fun ns => (⟨(bL x0).toArray⟩, ns)) := Lib.hid (by rw [hpar.out, ← hRS]; rfl)
  have hRS := Lib.hid hRS
  have hlsp := Lib.hid (show (spl 44 x1.data.toList).length = n2 by rw [← hL2, List.length_map, hR2.len])
  clear hSl hpar
  have hn29 : n2 ≤ 1000000 := by omega
  clear hL2 hn2
  go_wp2_with fail
  refine hNs.out.mono ?_; rintro e w3 ⟨A3, n3, c3, rfl, ho3, hz3, B3⟩
  have B12 := below_next B1 (below_next B2 B3)
  have I3 := hIb.out _ B12
  have hbk3 := blk_below hbk (below_next B2 B3)
  have hok9 : OK = RS9.isSome := by rw [hOk.out, hpar2.out]; cases RS9 <;> rfl
  have hn39 : n3 ≤ 1000000 := by
    cases RS9 with
    | none => have := (hz3 rfl).2.1; omega
    | some ns =>
      have h8 := numsP_len hRS.out
      have h9 := ho3.1
      rw [ints_len, hlsp.out] at *
      simp only [Option.getD_some] at h9
      omega
  subst hok9
  have h6 : fdOk s.data.toList = true → fdParse s.data.toList = some (x0, RS9.getD []) := fun h => by
    rw [hpar2.out]
    rw [hOK'.out] at h
    cases RS9 with
    | none => cases h
    | some ns => simp [bL]
  have h6' := Lib.hid h6
  have hmx := I3.mx
  have hbel := I3.bel
  obtain ⟨u, acc, hbx, hoA, hrA, haL, hfA⟩ := I3.ex
  have hrA' := Lib.hid hrA
  have hfA' := Lib.hid hfA
  have haN : acc.length ≤ 1000000 := by omega
  have lb9 : b < w3.drew.heap.size := lt_of_heap hbx
  have hne9 : bx ≠ b := fun e => by subst e; rw [hbk3] at hbx; injection hbx with hbx; injection hbx with _ hbx; exact absurd hbx (by decide)
  have hbx9 : w3.drew.heap[b]? = some (.cells #[u] 28 (0, 0)) := hbx
  have hbk9 : w3.drew.heap[bx]? = some (.cells csx 9 fzx) := hbk3
  have cb9 : w3.drew.cell? ⟨b, 0, none⟩ = some u := (blk_facts hbx9).1 0
  have hoA9 : w3.drew.ownsRow (b + 1) 42 2 u acc.length (acc.flatMap swE) := hoA
  have hbs : b + 1 ≤ w2.heap.size := by have h8 := (hIb.out _ (below_next B1 B2)).ex; obtain ⟨_, _, h9, _⟩ := h8; have := lt_of_heap h9; omega
  have ho39 : w3.drew.ownsRow (b + 1) 3 1 (.slice A3 n3 c3) n3 (ints (RS9.getD [])) := own_mono (base' := b + 1) ho3 hbs
  have hmx9 : Mx w3.drew := hmx
  have hbel9 : Below b w w3.drew := below_drewN hbel 1
  clear hNs hI1 I3 hOk hOK' hpar2 hbk hbk3 hbx hoA hmx hbel hrA hfA h6 hz3 ho3 hRS hlsp hR hR2 hbl c0 c1
  obtain ⟨i0, hi0, hz0, hz1, hz2⟩ := info_parts info_swim
  clear hIb hBad hI' B1 B2 B3 B12 hbs
  go_wp2_with fail
  refine wp_region_inv (by kernel_rfl) (fun listed a w' => ∃ xs : Nat → Value, a = { tmps := #[.string s, .pointer (some ⟨b, 0, none⟩), undef, .bool false, .slice (some ⟨bx, ox, none⟩) 2 2, .slice A3 n3 c3, .bool RS9.isSome, .string s, .slice (some ⟨bx, ox, none⟩) 2 2, .slice (some ⟨bx, ox, none⟩) 2 2, .bool false, .bool false, .slice (some ⟨bx, ox, none⟩) 2 2, .int .i64 2, .bool false, .bool false, .tuple #[.slice A3 n3 c3, .bool RS9.isSome], .slice (some ⟨bx, ox, none⟩) 2 2, .pointer (some ⟨bx, ox + 1, none⟩), .string x1, .slice A2 n2 n2, .tuple #[.slice A3 n3 c3, .bool RS9.isSome], .slice A3 n3 c3, .bool RS9.isSome, xs 0, xs 1, xs 2, xs 3, xs 4, xs 5, xs 6, xs 7, undef], defers := [] } ∧ (∀ j, listed.getD j false = true → CV [some (u), some (.slice (some ⟨bx, ox, none⟩) 2 2), some (.pointer (some ⟨bx, ox, none⟩)), some (.string x0), some (.slice A3 n3 c3), some (.agg #[.string x0, .slice A3 n3 c3]), none, none, none] j w' (xs j)) ∧ ApSt (b + 1) 42 2 (acc.length) (acc.flatMap swE) ([.string x0, .slice A3 n3 c3]) (w3.drew) 0 6 7 8 ⟨b, 0, none⟩ listed xs w') ?h0 (AllOps.of ?hs) ?he
  case h0 => exact ⟨fun j => match j with | 0 => undef | 1 => undef | 2 => undef | 3 => undef | 4 => undef | 5 => undef | 6 => undef | 7 => undef | _ => undef, rfl, (fun j hj => by rw [rep_falseA] at hj; cases hj), ApSt.start⟩
  case hs =>
    refine ⟨?_, ?_, ?_, ?_, ?_, ?_, ?_, ?_, ?_, trivial⟩
    · intro listed a w' hs hI h0 hd K2 hK
      obtain ⟨xs, rfl, hC, hW⟩ := hI
      have hK2 := Lib.hid hK
      have hC2 := Lib.hid hC
      have B9 := hW.below h0
      have c9 : w'.cell? ⟨b, 0, none⟩ = some u := (B9.cell (p := ⟨b, 0, none⟩) lb9).trans cb9
      have hU9 := Lib.hid (hW.row h0 (Below.refl _ _) (v := u) (own_below hoA9 B9) (by decide) (by decide) (by decide))
      clear hd hK hC h0
      go_simp
      exact hK2.out _ _ ⟨updV xs 0 (u), by simp [updV], cond_set hC2.out (fun _ _ h => h) (CV.of rfl rfl), hU9.out⟩
    · intro listed a w' hs hI h0 hd K2 hK
      obtain ⟨xs, rfl, hC, hW⟩ := hI
      have hK2 := Lib.hid hK
      have hC2 := Lib.hid hC
      clear hd hK hC h0
      go_simp
      exact hK2.out _ _ ⟨updV xs 1 (.slice (some ⟨bx, ox, none⟩) 2 2), by simp [updV], cond_set hC2.out (fun _ _ h => h) (CV.of rfl rfl), hW.keep (by decide) (by decide) (by decide) (by decide)⟩
    · intro listed a w' hs hI h0 hd K2 hK
      obtain ⟨xs, rfl, hC, hW⟩ := hI
      have e1 : xs 1 = .slice (some ⟨bx, ox, none⟩) 2 2 := (hC 1 (hd ⟨1, .data⟩ (by simp) rfl)) _ rfl
      have hK2 := Lib.hid hK
      have hC2 := Lib.hid hC
      clear hd hK hC h0
      go_simp
      exact hK2.out _ _ ⟨updV xs 2 (.pointer (some ⟨bx, ox, none⟩)), by simp [updV, e1], cond_set hC2.out (fun _ _ h => h) (CV.of rfl rfl), hW.keep (by decide) (by decide) (by decide) (by decide)⟩
    · intro listed a w' hs hI h0 hd K2 hK
      obtain ⟨xs, rfl, hC, hW⟩ := hI
      have e2 : xs 2 = .pointer (some ⟨bx, ox, none⟩) := (hC 2 (hd ⟨2, .data⟩ (by simp) rfl)) _ rfl
      have hK2 := Lib.hid hK
      have hC2 := Lib.hid hC
      have q9 := hW.typ bx csx _ fzx (by decide) hne9 hbk9
      have c9 : w'.cell? ⟨bx, ox + 0, none⟩ = some (.string x0) := by rw [cell_of_row w' bx (ox + 0) csx _ fzx q9]; exact hcz0
      have c9' : w'.cell? ⟨bx, ox, none⟩ = some (.string x0) := c9
      clear hd hK hC h0
      go_simp
      exact hK2.out _ _ ⟨updV xs 3 (.string x0), by simp [updV, e2], cond_set hC2.out (fun _ _ h => h) (CV.of rfl rfl), hW.keep (by decide) (by decide) (by decide) (by decide)⟩
    · intro listed a w' hs hI h0 hd K2 hK
      obtain ⟨xs, rfl, hC, hW⟩ := hI
      have hK2 := Lib.hid hK
      have hC2 := Lib.hid hC
      clear hd hK hC h0
      go_simp
      exact hK2.out _ _ ⟨updV xs 4 (.slice A3 n3 c3), by simp [updV], cond_set hC2.out (fun _ _ h => h) (CV.of rfl rfl), hW.keep (by decide) (by decide) (by decide) (by decide)⟩
    · intro listed a w' hs hI h0 hd K2 hK
      obtain ⟨xs, rfl, hC, hW⟩ := hI
      have e3 : xs 3 = .string x0 := (hC 3 (hd ⟨3, .data⟩ (by simp) rfl)) _ rfl
      have e4 : xs 4 = .slice A3 n3 c3 := (hC 4 (hd ⟨4, .data⟩ (by simp) rfl)) _ rfl
      have hK2 := Lib.hid hK
      have hC2 := Lib.hid hC
      clear hd hK hC h0
      go_simp
      exact hK2.out _ _ ⟨updV xs 5 (.agg #[.string x0, .slice A3 n3 c3]), by simp [updV, e3, e4], cond_set hC2.out (fun _ _ h => h) (CV.of rfl rfl), hW.keep (by decide) (by decide) (by decide) (by decide)⟩
    · intro listed a w' hs hI h0 hd K2 hK
      obtain ⟨xs, rfl, hC, hW⟩ := hI
      have e5 : xs 5 = .agg #[.string x0, .slice A3 n3 c3] := (hC 5 (hd ⟨5, .data⟩ (by simp) rfl)) _ rfl
      have hK2 := Lib.hid hK
      have hC2 := Lib.hid hC
      have hL9 := Lib.hid (hW.lay h0 (by decide) (by decide) (by decide))
      clear hd hK hC h0
      go_simp
      exact hK2.out _ _ ⟨updV xs 6 (.slice (some ⟨w'.heap.size, 0, none⟩) 1 1), by simp [updV, e5], cond_set hC2.out (fun _ _ h => h) (CV.free rfl), hL9.out⟩
    · intro listed a w' hs hI h0 hd K2 hK
      obtain ⟨xs, rfl, hC, hW⟩ := hI
      have e0 : xs 0 = u := (hC 0 (hd ⟨0, .data⟩ (by simp) rfl)) _ rfl
      have hK2 := Lib.hid hK
      have hC2 := Lib.hid hC
      obtain ⟨o9, B9, z9, q9, hz9, hnx⟩ := hW.app h0 (hd ⟨0, .data⟩ (by simp) rfl) (hd ⟨6, .data⟩ (by simp) rfl) (by decide) (by decide) (by decide)
      rw [e0] at o9 hnx
      have hnx' := Lib.hid hnx
      clear hd hK hC hnx
      refine step_append_lies _ rfl (.tmp 24) (.tmp 30) 28 (by rfl) _ 42 i0 _ 2 40 Tryz.underlying28 hi0 hz0 hz1 hz2 (by rfl) (by omega) _ _ _ (by show xs 0 = _; exact e0) o9 _ 1 1 ([.string x0, .slice A3 n3 c3]) (by show xs 6 = _; exact q9) rfl (World.news_of_block hz9) (by simp [Value.oneCell']) (by omega) (by unfold maxLen; omega) (by omega) (Nat.le_trans lb9 B9.size) _ rfl ?_
      intro g cap w2 ho hg hat hlt
      clear h0
      exact hK2.out _ _ ⟨updV xs 7 (.slice (some ⟨g, 0, none⟩) ((acc.length) + 1) cap), by first | rfl | simp [updV, Act.put], cond_set hC2.out (fun _ _ h => h) (CV.free rfl), hnx'.out g cap w2 ho hg hat⟩
    · intro listed a w' hs hI h0 hd K2 hK
      obtain ⟨xs, rfl, hC, hW⟩ := hI
      have hK2 := Lib.hid hK
      have hC2 := Lib.hid hC
      obtain ⟨w1, g, cap, b1, b2, b3, b4, hnx⟩ := hW.store h0 (hd ⟨7, .data⟩ (by simp) rfl) (by decide) (by decide) (by decide)
      have r9 := blk_grown (blk_below hbx9 b1) b3 (fun e => by have := own_row_lt b2 b e.symm; omega)
      have f9 := (blk_facts r9).2 0
      have c9 : w'.cell? ⟨b, 0, none⟩ = some u := (blk_facts r9).1 0
      have hnx' := Lib.hid hnx
      clear hd hK hC h0
      go_simp
      exact hK2.out _ _ ⟨updV xs 8 (undef), by simp [updV, b4], cond_set hC2.out (fun _ _ h => h) (CV.free rfl), hnx'.out _⟩
  case he =>
    intro listed a w' hs hI hr
    obtain ⟨xs, rfl, hC, hW⟩ := hI
    have hal := all_listed hs hr ⟨rfl, rfl, rfl, rfl, rfl, rfl, rfl, rfl, rfl, trivial⟩
    have e0 : xs 0 = u := (hC 0 (hal 0 (by simp))) _ rfl
    have e1 : xs 1 = .slice (some ⟨bx, ox, none⟩) 2 2 := (hC 1 (hal 1 (by simp))) _ rfl
    have e2 : xs 2 = .pointer (some ⟨bx, ox, none⟩) := (hC 2 (hal 2 (by simp))) _ rfl
    have e3 : xs 3 = .string x0 := (hC 3 (hal 3 (by simp))) _ rfl
    have e4 : xs 4 = .slice A3 n3 c3 := (hC 4 (hal 4 (by simp))) _ rfl
    have e5 : xs 5 = .agg #[.string x0, .slice A3 n3 c3] := (hC 5 (hal 5 (by simp))) _ rfl
    obtain ⟨w1, w2, g, cap, b1, b2, b3, b4, b5, b6, b7⟩ := hW.done (hal 7 (by simp)) (hal 8 (by simp))
    clear hC hs hr hal hW
    rw [e0] at b2 b5 b6
    subst b7
    have r1 := blk_grown (blk_below hbx9 b1) b5 (fun e => by have := own_row_lt b2 b e.symm; omega)
    have r2 := blk_set r1 0 (.slice (some ⟨g, 0, none⟩) (acc.length + 1) cap)
    have hkA : ∀ y ∈ acc, (w2.setCell ⟨b, 0, none⟩ (.slice (some ⟨g, 0, none⟩) (acc.length + 1) cap)).ownsRow (b + 1) 3 1 (.slice y.A y.n y.c) y.n (ints y.sp) ∧ y.n ≤ 1000000 := fun y hy => ⟨own_setB ((own_below (w := w3.drew) (hrA'.out y hy).1 b1).kept b5 (own_tyF b2 (own_below (w := w3.drew) (hrA'.out y hy).1 b1) (by decide))) (Nat.lt_succ_self b) _, (hrA'.out y hy).2⟩
    have hkB := own_setB (o := 0) ((own_below ho39 b1).kept b5 (own_tyF b2 (own_below ho39 b1) (by decide))) (Nat.lt_succ_self b) (.slice (some ⟨g, 0, none⟩) (acc.length + 1) cap)
    have hB1 := hbel9.trans (b1.mono (Nat.le_of_lt lb9))
    have hB2 := hB1.grown b5 (Nat.le_trans (Nat.le_of_lt lb9) b1.size) (fun k hk => by have := own_row_lt b2 k hk; omega)
    have hFin := Lib.hid (hGd.out _ _ acc ⟨x0, A3, n3, c3, RS9.getD []⟩ r2 (own_setB (o := 0) b4 (Nat.lt_succ_self b) _) hkA ⟨hkB, hn39⟩ haL hfA'.out h6'.out (hMxx.out _ (hB2.setCell (p := ⟨b, 0, none⟩) (Nat.le_refl _) _)) (hB2.setCell (p := ⟨b, 0, none⟩) (Nat.le_refl _) _))
    clear r1 r2 hkA hkB hB1 hB2 b1 b2 b3 b4 b5 b6 e0 e1 e2 e3 e4 e5 hi0 hz0 hz1 hz2 hGd
    generalize w2.setCell ⟨b, 0, none⟩ (.slice (some ⟨g, 0, none⟩) (acc.length + 1) cap) = w8 at *
    go_wp2
    go_ret
    exact ⟨rfl, hFin.out⟩
end Go.Proofs.YtamcmehmcbjgjaaGreatDoor
