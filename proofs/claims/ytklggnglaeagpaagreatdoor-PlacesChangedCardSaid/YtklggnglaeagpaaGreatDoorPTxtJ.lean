/- Readers of starts: heat.Read, tumbref1.StartsRead and their closures. Printed by wip/mkst.py. -/
import Derived.Test.YtklggnglaeagpaaGreatDoorPTxtI
import Derived.Test.YtklggnglaeagpaaGreatDoorPTxtS
import Derived.Test.YtklggnglaeagpaaGreatDoorPStaN
import Derived.Deep.DeepCutAuto
namespace Go.Proofs.YtklggnglaeagpaaGreatDoor
open Go.RowKit Go.Lib
set_option linter.unusedVariables false

abbrev StI (w : World) (b : Nat) : List (List UInt8) → World → Prop := TkI 146 153 3 spE stParse w b
def stOf (z : List UInt8) (R : Option (List Int)) : Option Sp := match R with
  | some [m, n] => some ⟨⟨z.toArray⟩, m, n⟩
  | _ => none
theorem st_emp {a : List UInt8} (h : ([] : List UInt8) ∈ spl 32 a) : stParse a = none := by
  unfold stParse
  split
  · rename_i x y z e
    rw [e] at h
    rw [if_pos (by
      simp only [List.mem_cons, List.not_mem_nil, or_false] at h
      rcases h with h | h | h
      · exact .inl h.symm
      · exact .inr (.inl h.symm)
      · exact .inr (.inr h.symm))]
  · rfl
theorem st_len {a : List UInt8} (h : (spl 32 a).length ≠ 3) : stParse a = none := by
  unfold stParse
  split
  · rename_i x y z e
    rw [e] at h
    exact absurd rfl h
  · rfl
theorem st_three {a x y z : List UInt8} (h : spl 32 a = [x, y, z]) (hx : x ≠ []) (hy : y ≠ []) (hz : z ≠ []) : stParse a = stOf z (numsP [x, y] 4) := by
  unfold stParse
  rw [h]
  exact if_neg (by rintro (h | h | h); exact hx h; exact hy h; exact hz h)
set_option maxHeartbeats 6400000 in
set_option maxRecDepth 100000 in
theorem stRead_cl (w : World) (b N : Nat) (hN : N ≤ 900000) (hb : w.heap.size ≤ b) (hM : Mx w) : TakeL N 207 #[.pointer (some ⟨b, 0, none⟩)] (fun a => (stParse a).isSome) (StI w b) := by
  refine ⟨enters_of Tryz.func207 (by kernel_rfl) rfl, fun L s W hI hL hs => ?_, fun L W q h => h.below (below_drewN (Below.refl _ _) q), fun L W h => h.mx⟩
  have hIb := Lib.hid (fun W' (B : Below W.heap.size W W') => hI.below B)
  have hMxx := Lib.hid (fun W' (B : Below b w W') => hM.below (B.mono hb))
  have hBad := Lib.hid (fun W' (B : Below W.heap.size W W') (h : (stParse s.data.toList).isSome = false) => hI.bad B h)
  have hSp := Lib.hid (wordsSplit_c s W (by omega) hI.mx)
  have hE1 := Lib.hid (fun h => st_emp (a := s.data.toList) h)
  have hE2 := Lib.hid (fun h => st_len (a := s.data.toList) h)
  have hT := Lib.hid (fun x y z h => st_three (a := s.data.toList) (x := x) (y := y) (z := z) h)
  have hGd := Lib.hid (fun (W' : World) (u : Value) (acc : List Sp) (x : Sp) h1 h2 h4 h5 h6 hm hB => TkI.good (T := 146) (Te := 153) (sz := 3) (enc := spE) (parse := stParse) (w := w) (b := b) (L := L) (a := s.data.toList) (W := W') (u := u) (acc := acc) (x := x) h1 h2 h4 h5 h6 hm hB)
  show Calls Tryz.prog 207 #[.string s, .pointer (some ⟨b, 0, none⟩)] W fun e w' => e = .returned (.bool (stParse s.data.toList).isSome) ∧ StI w b (L ++ [s.data.toList]) w'
  obtain ⟨SP, hSP⟩ : ∃ SP, stParse s.data.toList = SP := ⟨_, rfl⟩
  rw [hSP] at hE1 hE2 hT hBad hGd ⊢
  generalize hps : spl 32 s.data.toList = ps at *
  have hI0 := Lib.hid hI
  clear hI hSP hps
  unfold RetWs at hSp
  go_enter Tryz.func207, Tryz.ntmps207
  go_wp2_with fail
  refine hSp.out.mono ?_; rintro e w1 ⟨A, n, Lw, rfl, hR, hLw, B1⟩
  by_cases hem : ([] : List UInt8) ∈ ps
  · have hd : decide (([] : List UInt8) ∉ ps) = false := decide_eq_false (not_not_intro hem)
    obtain rfl : SP = none := hE1.out hem
    have hI2 := hBad.out _ B1 rfl
    rw [hd]
    clear hd hem hLw hSp
    go_wp2
    go_ret
    exact ⟨rfl, hI2⟩
  have hd : decide (([] : List UInt8) ∉ ps) = true := decide_eq_true hem
  rw [hd]
  have hLw' := hLw hem
  clear hLw
  have hLn := hR.len
  have hnp : ps.length = n := by rw [← hLw', List.length_map, hLn]
  by_cases h2 : n = 3
  rotate_left
  · have hd2 : ((n : Int) != 3) = true := by rw [bne_iff_ne]; omega
    have hd3 : ¬ (n : Int) = 3 := by omega
    obtain rfl : SP = none := hE2.out (by rw [hnp]; exact h2)
    have hI2 := hBad.out _ B1 rfl
    clear hd hem hSp hLw' h2 hE1 hE2
    go_wp2
    go_ret
    exact ⟨rfl, hI2⟩
  subst h2
  obtain ⟨bx, ox, x0, hA, hbl, hx0, c0⟩ := hR.at_ (k := 0) (by omega)
  subst hA
  obtain ⟨csx, fzx, hbk, hcz⟩ := hR.blk (by omega)
  obtain ⟨y0, y1, y2, rfl⟩ : ∃ y0 y1 y2, Lw = [y0, y1, y2] := by
    match Lw, hLn with
    | [p, q, r], _ => exact ⟨p, q, r, rfl⟩
  have hps2 : ps = [bL y0, bL y1, bL y2] := by rw [← hLw']; rfl
  have hm0 : bL y0 ≠ [] := fun e => hem (by rw [hps2, e]; simp)
  have hm1 : bL y1 ≠ [] := fun e => hem (by rw [hps2, e]; simp)
  have hm2 : bL y2 ≠ [] := fun e => hem (by rw [hps2, e]; simp)
  have hpar := Lib.hid (hT.out _ _ _ hps2 hm0 hm1 hm2)
  have hcz2 : csx[ox + 2]? = some (.string y2) := hcz 2 _ rfl
  have hI1 := hIb.out _ B1
  have hR2 : RS 9 w1 (some ⟨bx, ox, none⟩) 2 [y0, y1] := RS_takeT (k := 2) hR (by omega)
  have hNs := Lib.hid (numbers_c (some ⟨bx, ox, none⟩) 2 3 4 [y0, y1] w1 hR2 (by omega) (by omega))
  rw [show ([y0, y1] : List ByteArray).map bL = [bL y0, bL y1] from rfl] at hNs
  unfold RetNs at hNs
  obtain ⟨RS9, hRS⟩ : ∃ RS9, numsP [bL y0, bL y1] 4 = RS9 := ⟨_, rfl⟩
  rw [hRS] at hNs
  have hpar2 : Hid (SP = stOf (bL y2) RS9) := Lib.hid (by rw [hpar.out, ← hRS])
  clear hem hd hLw' hT hE1 hE2 hSp hx0 hnp hLn hm0 hm1 hm2 hps2 hpar hcz c0 hI1 hR hR2
  go_wp2_with fail
  refine hNs.out.mono ?_; rintro e w3 ⟨A3, n3, c3, rfl, ho3, hz3, B3⟩
  have B12 := below_next B1 B3
  rcases hRS9 : RS9 with _ | ns
  · subst hRS9
    obtain rfl : SP = none := hpar2.out
    have hI2 := hBad.out _ B12 rfl
    clear hNs hz3 hbk ho3 hGd hIb hRS
    go_wp2
    go_ret
    exact ⟨rfl, hI2⟩
  subst hRS9
  have hl2 : ns.length = 2 := by have h9 := congrArg List.length (numsP_iff.1 hRS).1; simp at h9; omega
  obtain ⟨m0, m1, rfl⟩ : ∃ m0 m1, ns = [m0, m1] := by
    match ns, hl2 with
    | [p, q], _ => exact ⟨p, q, rfl⟩
  obtain rfl : SP = some ⟨y2, m0, m1⟩ := hpar2.out
  obtain rfl : n3 = 2 := by have h9 := ho3.1; simp only [Option.getD_some] at h9; rw [ints_len] at h9; simp at h9; omega
  have hR3 : RI 3 w3 A3 2 [m0, m1] := R1.of_own ho3 (by omega)
  obtain ⟨by_, oy, m0', hA3, hbly, hm0, cy0⟩ := hR3.at_ (k := 0) (by omega)
  subst hA3
  obtain ⟨csy, fzy, hbky, hczy⟩ := hR3.blk (by omega)
  have hcy0 : csy[oy + 0]? = some (.int .i64 m0) := hczy 0 _ rfl
  have hcy1 : csy[oy + 1]? = some (.int .i64 m1) := hczy 1 _ rfl
  have I3 := hIb.out _ B12
  have hbk3 := blk_below hbk B3
  have hmx := I3.mx
  have hbel := I3.bel
  obtain ⟨u, acc, hbx, hoA, haL, hfA⟩ := I3.ex
  have hfA' := Lib.hid hfA
  have haN : acc.length ≤ 1000000 := by omega
  have lb9 : b < w3.drew.heap.size := lt_of_heap hbx
  have hne9 : bx ≠ b := fun e => by subst e; rw [hbk3] at hbx; injection hbx with hbx; injection hbx with _ hbx; exact absurd hbx (by decide)
  have hny9 : by_ ≠ b := fun e => by subst e; rw [hbky] at hbx; injection hbx with hbx; injection hbx with _ hbx; exact absurd hbx (by decide)
  have hbx9 : w3.drew.heap[b]? = some (.cells #[u] 146 (0, 0)) := hbx
  have hbk9 : w3.drew.heap[bx]? = some (.cells csx 9 fzx) := hbk3
  have hby9 : w3.drew.heap[by_]? = some (.cells csy 3 fzy) := hbky
  have cb9 : w3.drew.cell? ⟨b, 0, none⟩ = some u := (blk_facts hbx9).1 0
  have hoA9 : w3.drew.ownsRow (b + 1) 153 3 u acc.length (acc.flatMap spE) := hoA
  have hmx9 : Mx w3.drew := hmx
  have hbel9 : Below b w w3.drew := below_drewN hbel 1
  clear hNs I3 hbk hbk3 hbx hoA hmx hbel hfA hz3 ho3 hRS hbl hR3 hczy hbky cy0 hm0 hl2 hpar2 hbly
  obtain ⟨i0, hi0, hz0, hz1, hz2⟩ := info_parts info_start
  clear hIb hBad B1 B3 B12 hI0
  go_wp2_with fail
  refine wp_region_inv (by kernel_rfl) (fun listed a w' => ∃ xs : Nat → Value, a = { tmps := #[.string s, .pointer (some ⟨b, 0, none⟩), undef, .bool false, .slice (some ⟨bx, ox, none⟩) 3 3, .bool true, .slice (some ⟨by_, oy, none⟩) 2 c3, .bool true, .tuple #[.slice (some ⟨bx, ox, none⟩) 3 3, .bool true], .string s, .tuple #[.slice (some ⟨bx, ox, none⟩) 3 3, .bool true], .slice (some ⟨bx, ox, none⟩) 3 3, .bool true, .bool true, .bool false, .bool false, .slice (some ⟨bx, ox, none⟩) 3 3, .int .i64 3, .bool false, .bool false, .tuple #[.slice (some ⟨by_, oy, none⟩) 2 c3, .bool true], .slice (some ⟨bx, ox, none⟩) 3 3, .slice (some ⟨bx, ox, none⟩) 2 3, .tuple #[.slice (some ⟨by_, oy, none⟩) 2 c3, .bool true], .slice (some ⟨by_, oy, none⟩) 2 c3, .bool true, .bool true, .bool false, xs 0, xs 1, xs 2, xs 3, xs 4, xs 5, xs 6, xs 7, xs 8, xs 9, xs 10, xs 11, xs 12], defers := [] } ∧ (∀ j, listed.getD j false = true → CV [some (u), some (.slice (some ⟨by_, oy, none⟩) 2 c3), some (.pointer (some ⟨by_, oy, none⟩)), some (.int .i64 m0), some (.slice (some ⟨by_, oy, none⟩) 2 c3), some (.pointer (some ⟨by_, oy + 1, none⟩)), some (.int .i64 m1), some (.slice (some ⟨bx, ox, none⟩) 3 3), some (.pointer (some ⟨bx, ox + 2, none⟩)), some (.string y2), some (.agg #[.string y2, .int .i64 m0, .int .i64 m1]), none, none, none] j w' (xs j)) ∧ ApSt (b + 1) 153 3 (acc.length) (acc.flatMap spE) ([.string y2, .int .i64 m0, .int .i64 m1]) (w3.drew) 0 11 12 13 ⟨b, 0, none⟩ listed xs w') ?h0 (AllOps.of ?hs) ?he
  case h0 => exact ⟨fun j => match j with | 0 => undef | 1 => undef | 2 => undef | 3 => undef | 4 => undef | 5 => undef | 6 => undef | 7 => undef | 8 => undef | 9 => undef | 10 => undef | 11 => undef | 12 => undef | _ => undef, rfl, (fun j hj => by rw [rep_falseA] at hj; cases hj), ApSt.start⟩
  case hs =>
    refine ⟨?_, ?_, ?_, ?_, ?_, ?_, ?_, ?_, ?_, ?_, ?_, ?_, ?_, ?_, trivial⟩
    · intro listed a w' hs hI h0 hd K2 hK
      obtain ⟨xs, rfl, hC, hW⟩ := hI
      have hK2 := Lib.hid hK
      have hC2 := Lib.hid hC
      have B9 := hW.below h0
      have c9 : w'.cell? ⟨b, 0, none⟩ = some u := (B9.cell (p := ⟨b, 0, none⟩) lb9).trans cb9
      have hU9 := Lib.hid (hW.row h0 (Below.refl _ _) (v := u) (own_below hoA9 B9) (by decide) (by decide) (by decide))
      clear hd hK hC h0
      go_simp
      exact hK2.out _ _ ⟨updV xs 0 (u), by simp [updV], cond_set hC2.out (fun _ _ h => h) (CV.of rfl rfl), hU9.out⟩
    · intro listed a w' hs hI h0 hd K2 hK
      obtain ⟨xs, rfl, hC, hW⟩ := hI
      have hK2 := Lib.hid hK
      have hC2 := Lib.hid hC
      clear hd hK hC h0
      go_simp
      exact hK2.out _ _ ⟨updV xs 1 (.slice (some ⟨by_, oy, none⟩) 2 c3), by simp [updV], cond_set hC2.out (fun _ _ h => h) (CV.of rfl rfl), hW.keep (by decide) (by decide) (by decide) (by decide)⟩
    · intro listed a w' hs hI h0 hd K2 hK
      obtain ⟨xs, rfl, hC, hW⟩ := hI
      have e1 : xs 1 = .slice (some ⟨by_, oy, none⟩) 2 c3 := (hC 1 (hd ⟨1, .data⟩ (by simp) rfl)) _ rfl
      have hK2 := Lib.hid hK
      have hC2 := Lib.hid hC
      clear hd hK hC h0
      go_simp
      exact hK2.out _ _ ⟨updV xs 2 (.pointer (some ⟨by_, oy, none⟩)), by simp [updV, e1], cond_set hC2.out (fun _ _ h => h) (CV.of rfl rfl), hW.keep (by decide) (by decide) (by decide) (by decide)⟩
    · intro listed a w' hs hI h0 hd K2 hK
      obtain ⟨xs, rfl, hC, hW⟩ := hI
      have e2 : xs 2 = .pointer (some ⟨by_, oy, none⟩) := (hC 2 (hd ⟨2, .data⟩ (by simp) rfl)) _ rfl
      have hK2 := Lib.hid hK
      have hC2 := Lib.hid hC
      have q9 := hW.typ by_ csy _ fzy (by decide) hny9 hby9
      have c9 : w'.cell? ⟨by_, oy + 0, none⟩ = some (.int .i64 m0) := by rw [cell_of_row w' by_ (oy + 0) csy _ fzy q9]; exact hcy0
      have c9' : w'.cell? ⟨by_, oy, none⟩ = some (.int .i64 m0) := c9
      clear hd hK hC h0
      go_simp
      exact hK2.out _ _ ⟨updV xs 3 (.int .i64 m0), by simp [updV, e2], cond_set hC2.out (fun _ _ h => h) (CV.of rfl rfl), hW.keep (by decide) (by decide) (by decide) (by decide)⟩
    · intro listed a w' hs hI h0 hd K2 hK
      obtain ⟨xs, rfl, hC, hW⟩ := hI
      have hK2 := Lib.hid hK
      have hC2 := Lib.hid hC
      clear hd hK hC h0
      go_simp
      exact hK2.out _ _ ⟨updV xs 4 (.slice (some ⟨by_, oy, none⟩) 2 c3), by simp [updV], cond_set hC2.out (fun _ _ h => h) (CV.of rfl rfl), hW.keep (by decide) (by decide) (by decide) (by decide)⟩
    · intro listed a w' hs hI h0 hd K2 hK
      obtain ⟨xs, rfl, hC, hW⟩ := hI
      have e4 : xs 4 = .slice (some ⟨by_, oy, none⟩) 2 c3 := (hC 4 (hd ⟨4, .data⟩ (by simp) rfl)) _ rfl
      have hK2 := Lib.hid hK
      have hC2 := Lib.hid hC
      clear hd hK hC h0
      go_simp
      exact hK2.out _ _ ⟨updV xs 5 (.pointer (some ⟨by_, oy + 1, none⟩)), by simp [updV, e4], cond_set hC2.out (fun _ _ h => h) (CV.of rfl rfl), hW.keep (by decide) (by decide) (by decide) (by decide)⟩
    · intro listed a w' hs hI h0 hd K2 hK
      obtain ⟨xs, rfl, hC, hW⟩ := hI
      have e5 : xs 5 = .pointer (some ⟨by_, oy + 1, none⟩) := (hC 5 (hd ⟨5, .data⟩ (by simp) rfl)) _ rfl
      have hK2 := Lib.hid hK
      have hC2 := Lib.hid hC
      have q9 := hW.typ by_ csy _ fzy (by decide) hny9 hby9
      have c9 : w'.cell? ⟨by_, oy + 1, none⟩ = some (.int .i64 m1) := by rw [cell_of_row w' by_ (oy + 1) csy _ fzy q9]; exact hcy1
      clear hd hK hC h0
      go_simp
      exact hK2.out _ _ ⟨updV xs 6 (.int .i64 m1), by simp [updV, e5], cond_set hC2.out (fun _ _ h => h) (CV.of rfl rfl), hW.keep (by decide) (by decide) (by decide) (by decide)⟩
    · intro listed a w' hs hI h0 hd K2 hK
      obtain ⟨xs, rfl, hC, hW⟩ := hI
      have hK2 := Lib.hid hK
      have hC2 := Lib.hid hC
      clear hd hK hC h0
      go_simp
      exact hK2.out _ _ ⟨updV xs 7 (.slice (some ⟨bx, ox, none⟩) 3 3), by simp [updV], cond_set hC2.out (fun _ _ h => h) (CV.of rfl rfl), hW.keep (by decide) (by decide) (by decide) (by decide)⟩
    · intro listed a w' hs hI h0 hd K2 hK
      obtain ⟨xs, rfl, hC, hW⟩ := hI
      have e7 : xs 7 = .slice (some ⟨bx, ox, none⟩) 3 3 := (hC 7 (hd ⟨7, .data⟩ (by simp) rfl)) _ rfl
      have hK2 := Lib.hid hK
      have hC2 := Lib.hid hC
      clear hd hK hC h0
      go_simp
      exact hK2.out _ _ ⟨updV xs 8 (.pointer (some ⟨bx, ox + 2, none⟩)), by simp [updV, e7], cond_set hC2.out (fun _ _ h => h) (CV.of rfl rfl), hW.keep (by decide) (by decide) (by decide) (by decide)⟩
    · intro listed a w' hs hI h0 hd K2 hK
      obtain ⟨xs, rfl, hC, hW⟩ := hI
      have e8 : xs 8 = .pointer (some ⟨bx, ox + 2, none⟩) := (hC 8 (hd ⟨8, .data⟩ (by simp) rfl)) _ rfl
      have hK2 := Lib.hid hK
      have hC2 := Lib.hid hC
      have q9 := hW.typ bx csx _ fzx (by decide) hne9 hbk9
      have c9 : w'.cell? ⟨bx, ox + 2, none⟩ = some (.string y2) := by rw [cell_of_row w' bx (ox + 2) csx _ fzx q9]; exact hcz2
      clear hd hK hC h0
      go_simp
      exact hK2.out _ _ ⟨updV xs 9 (.string y2), by simp [updV, e8], cond_set hC2.out (fun _ _ h => h) (CV.of rfl rfl), hW.keep (by decide) (by decide) (by decide) (by decide)⟩
    · intro listed a w' hs hI h0 hd K2 hK
      obtain ⟨xs, rfl, hC, hW⟩ := hI
      have e3 : xs 3 = .int .i64 m0 := (hC 3 (hd ⟨3, .data⟩ (by simp) rfl)) _ rfl
      have e6 : xs 6 = .int .i64 m1 := (hC 6 (hd ⟨6, .data⟩ (by simp) rfl)) _ rfl
      have e9 : xs 9 = .string y2 := (hC 9 (hd ⟨9, .data⟩ (by simp) rfl)) _ rfl
      have hK2 := Lib.hid hK
      have hC2 := Lib.hid hC
      clear hd hK hC h0
      go_simp
      exact hK2.out _ _ ⟨updV xs 10 (.agg #[.string y2, .int .i64 m0, .int .i64 m1]), by simp [updV, e3, e6, e9], cond_set hC2.out (fun _ _ h => h) (CV.of rfl rfl), hW.keep (by decide) (by decide) (by decide) (by decide)⟩
    · intro listed a w' hs hI h0 hd K2 hK
      obtain ⟨xs, rfl, hC, hW⟩ := hI
      have e10 : xs 10 = .agg #[.string y2, .int .i64 m0, .int .i64 m1] := (hC 10 (hd ⟨10, .data⟩ (by simp) rfl)) _ rfl
      have hK2 := Lib.hid hK
      have hC2 := Lib.hid hC
      have hL9 := Lib.hid (hW.lay h0 (by decide) (by decide) (by decide))
      clear hd hK hC h0
      go_simp
      exact hK2.out _ _ ⟨updV xs 11 (.slice (some ⟨w'.heap.size, 0, none⟩) 1 1), by simp [updV, e10], cond_set hC2.out (fun _ _ h => h) (CV.free rfl), hL9.out⟩
    · intro listed a w' hs hI h0 hd K2 hK
      obtain ⟨xs, rfl, hC, hW⟩ := hI
      have e0 : xs 0 = u := (hC 0 (hd ⟨0, .data⟩ (by simp) rfl)) _ rfl
      have hK2 := Lib.hid hK
      have hC2 := Lib.hid hC
      obtain ⟨o9, B9, z9, q9, hz9, hnx⟩ := hW.app h0 (hd ⟨0, .data⟩ (by simp) rfl) (hd ⟨11, .data⟩ (by simp) rfl) (by decide) (by decide) (by decide)
      rw [e0] at o9 hnx
      have hnx' := Lib.hid hnx
      clear hd hK hC hnx
      refine step_append_lies _ rfl (.tmp 28) (.tmp 39) 146 (by rfl) _ 153 i0 _ 3 32 Tryz.underlying146 hi0 hz0 hz1 hz2 (by rfl) (by omega) _ _ _ (by show xs 0 = _; exact e0) o9 _ 1 1 ([.string y2, .int .i64 m0, .int .i64 m1]) (by show xs 11 = _; exact q9) rfl (World.news_of_block hz9) (by simp [Value.oneCell']) (by omega) (by unfold maxLen; omega) (by omega) (Nat.le_trans lb9 B9.size) _ rfl ?_
      intro g cap w2 ho hg hat hlt
      clear h0
      exact hK2.out _ _ ⟨updV xs 12 (.slice (some ⟨g, 0, none⟩) ((acc.length) + 1) cap), by first | rfl | simp [updV, Act.put], cond_set hC2.out (fun _ _ h => h) (CV.free rfl), hnx'.out g cap w2 ho hg hat⟩
    · intro listed a w' hs hI h0 hd K2 hK
      obtain ⟨xs, rfl, hC, hW⟩ := hI
      have hK2 := Lib.hid hK
      have hC2 := Lib.hid hC
      obtain ⟨w1, g, cap, b1, b2, b3, b4, hnx⟩ := hW.store h0 (hd ⟨12, .data⟩ (by simp) rfl) (by decide) (by decide) (by decide)
      have r9 := blk_grown (blk_below hbx9 b1) b3 (fun e => by have := own_row_lt b2 b e.symm; omega)
      have f9 := (blk_facts r9).2 0
      have c9 : w'.cell? ⟨b, 0, none⟩ = some u := (blk_facts r9).1 0
      have hnx' := Lib.hid hnx
      clear hd hK hC h0
      go_simp
      exact hK2.out _ _ ⟨updV xs 13 (undef), by simp [updV, b4], cond_set hC2.out (fun _ _ h => h) (CV.free rfl), hnx'.out _⟩
  case he =>
    intro listed a w' hs hI hr
    obtain ⟨xs, rfl, hC, hW⟩ := hI
    have hal := all_listed hs hr ⟨rfl, rfl, rfl, rfl, rfl, rfl, rfl, rfl, rfl, rfl, rfl, rfl, rfl, rfl, trivial⟩
    have e0 : xs 0 = u := (hC 0 (hal 0 (by simp))) _ rfl
    have e1 : xs 1 = .slice (some ⟨by_, oy, none⟩) 2 c3 := (hC 1 (hal 1 (by simp))) _ rfl
    have e2 : xs 2 = .pointer (some ⟨by_, oy, none⟩) := (hC 2 (hal 2 (by simp))) _ rfl
    have e3 : xs 3 = .int .i64 m0 := (hC 3 (hal 3 (by simp))) _ rfl
    have e4 : xs 4 = .slice (some ⟨by_, oy, none⟩) 2 c3 := (hC 4 (hal 4 (by simp))) _ rfl
    have e5 : xs 5 = .pointer (some ⟨by_, oy + 1, none⟩) := (hC 5 (hal 5 (by simp))) _ rfl
    have e6 : xs 6 = .int .i64 m1 := (hC 6 (hal 6 (by simp))) _ rfl
    have e7 : xs 7 = .slice (some ⟨bx, ox, none⟩) 3 3 := (hC 7 (hal 7 (by simp))) _ rfl
    have e8 : xs 8 = .pointer (some ⟨bx, ox + 2, none⟩) := (hC 8 (hal 8 (by simp))) _ rfl
    have e9 : xs 9 = .string y2 := (hC 9 (hal 9 (by simp))) _ rfl
    have e10 : xs 10 = .agg #[.string y2, .int .i64 m0, .int .i64 m1] := (hC 10 (hal 10 (by simp))) _ rfl
    obtain ⟨w1, w2, g, cap, b1, b2, b3, b4, b5, b6, b7⟩ := hW.done (hal 12 (by simp)) (hal 13 (by simp))
    clear hC hs hr hal hW
    rw [e0] at b2 b5 b6
    subst b7
    have r1 := blk_grown (blk_below hbx9 b1) b5 (fun e => by have := own_row_lt b2 b e.symm; omega)
    have r2 := blk_set r1 0 (.slice (some ⟨g, 0, none⟩) (acc.length + 1) cap)
    have hB1 := hbel9.trans (b1.mono (Nat.le_of_lt lb9))
    have hB2 := hB1.grown b5 (Nat.le_trans (Nat.le_of_lt lb9) b1.size) (fun k hk => by have := own_row_lt b2 k hk; omega)
    have hFin := Lib.hid (hGd.out _ _ acc ⟨y2, m0, m1⟩ r2 (own_setT (o := 0) b4 (Nat.lt_succ_self b) _) haL hfA'.out (fun _ => rfl) (hMxx.out _ (hB2.setCell (p := ⟨b, 0, none⟩) (Nat.le_refl _) _)) (hB2.setCell (p := ⟨b, 0, none⟩) (Nat.le_refl _) _))
    clear r1 r2 hB1 hB2 b1 b2 b3 b4 b5 b6 e0 e1 e2 e3 e4 e5 e6 e7 e8 e9 e10 hi0 hz0 hz1 hz2 hGd
    generalize w2.setCell ⟨b, 0, none⟩ (.slice (some ⟨g, 0, none⟩) (acc.length + 1) cap) = w8 at *
    go_wp2
    go_ret
    exact ⟨rfl, hFin.out⟩
set_option maxHeartbeats 6400000 in
set_option maxRecDepth 100000 in
theorem stRef_cl (w : World) (b N : Nat) (hN : N ≤ 900000) (hb : w.heap.size ≤ b) (hM : Mx w) (hTb : Tb w) (hEx : Ex w) : TakeL N 210 #[.pointer (some ⟨b, 0, none⟩)] (fun a => (stParse a).isSome) (StI w b) := by
  refine ⟨enters_of Tryz.func210 (by kernel_rfl) rfl, fun L s W hI hL hs => ?_, fun L W q h => h.below (below_drewN (Below.refl _ _) q), fun L W h => h.mx⟩
  have hIb := Lib.hid (fun W' (B : Below W.heap.size W W') => hI.below B)
  have hMxx := Lib.hid (fun W' (B : Below b w W') => hM.below (B.mono hb))
  have hBad := Lib.hid (fun W' (B : Below W.heap.size W W') (h : (stParse s.data.toList).isSome = false) => hI.bad B h)
  have hSp := Lib.hid (splitS_c 32 s W (by omega) hI.mx)
  have hE1 := Lib.hid (fun h => st_emp (a := s.data.toList) h)
  have hE2 := Lib.hid (fun h => st_len (a := s.data.toList) h)
  have hT := Lib.hid (fun x y z h => st_three (a := s.data.toList) (x := x) (y := y) (z := z) h)
  have hGd := Lib.hid (fun (W' : World) (u : Value) (acc : List Sp) (x : Sp) h1 h2 h4 h5 h6 hm hB => TkI.good (T := 146) (Te := 153) (sz := 3) (enc := spE) (parse := stParse) (w := w) (b := b) (L := L) (a := s.data.toList) (W := W') (u := u) (acc := acc) (x := x) h1 h2 h4 h5 h6 hm hB)
  show Calls Tryz.prog 210 #[.string s, .pointer (some ⟨b, 0, none⟩)] W fun e w' => e = .returned (.bool (stParse s.data.toList).isSome) ∧ StI w b (L ++ [s.data.toList]) w'
  obtain ⟨SP, hSP⟩ : ∃ SP, stParse s.data.toList = SP := ⟨_, rfl⟩
  rw [hSP] at hE1 hE2 hT hBad hGd ⊢
  generalize hps : spl 32 s.data.toList = ps at *
  have hI0 := Lib.hid hI
  clear hI hSP hps
  skip
  go_enter Tryz.func210, Tryz.ntmps210
  go_wp2_with fail
  refine hSp.out.mono ?_; rintro e w1 ⟨A, n, Lw, rfl, hR, hLw', hnz, _, B1⟩
  have hCo := Lib.hid (contS_c A n n Lw ⟨#[]⟩ w1 hR)
  rw [emp_dec hLw'] at hCo
  by_cases hem : ([] : List UInt8) ∈ ps
  · have hd : decide (([] : List UInt8) ∈ ps) = true := decide_eq_true hem
    rw [hd] at hCo
    obtain rfl : SP = none := hE1.out hem
    have hI2 := hBad.out _ B1 rfl
    clear hd hem hLw' hSp
    go_wp2_with fail
    refine hCo.out.mono ?_; rintro e w2 ⟨rfl, rfl⟩
    go_wp2
    go_ret
    exact ⟨rfl, hI2⟩
  have hd : decide (([] : List UInt8) ∈ ps) = false := decide_eq_false hem
  rw [hd] at hCo
  go_wp2_with fail
  refine hCo.out.mono ?_; rintro e w1' ⟨rfl, rfl⟩
  clear hCo
  have hLn := hR.len
  have hnp : ps.length = n := by rw [← hLw', List.length_map, hLn]
  by_cases h2 : n = 3
  rotate_left
  · have hd2 : ((n : Int) != 3) = true := by rw [bne_iff_ne]; omega
    have hd3 : ¬ (n : Int) = 3 := by omega
    obtain rfl : SP = none := hE2.out (by rw [hnp]; exact h2)
    have hI2 := hBad.out _ B1 rfl
    clear hd hem hSp hLw' h2 hE1 hE2
    go_wp2
    go_ret
    exact ⟨rfl, hI2⟩
  subst h2
  obtain ⟨bx, ox, x0, hA, hbl, hx0, c0⟩ := hR.at_ (k := 0) (by omega)
  subst hA
  obtain ⟨csx, fzx, hbk, hcz⟩ := hR.blk (by omega)
  obtain ⟨y0, y1, y2, rfl⟩ : ∃ y0 y1 y2, Lw = [y0, y1, y2] := by
    match Lw, hLn with
    | [p, q, r], _ => exact ⟨p, q, r, rfl⟩
  have hps2 : ps = [bL y0, bL y1, bL y2] := by rw [← hLw']; rfl
  have hm0 : bL y0 ≠ [] := fun e => hem (by rw [hps2, e]; simp)
  have hm1 : bL y1 ≠ [] := fun e => hem (by rw [hps2, e]; simp)
  have hm2 : bL y2 ≠ [] := fun e => hem (by rw [hps2, e]; simp)
  have hpar := Lib.hid (hT.out _ _ _ hps2 hm0 hm1 hm2)
  have hcz2 : csx[ox + 2]? = some (.string y2) := hcz 2 _ rfl
  have hI1 := hIb.out _ B1
  have hR2 : RS 9 w1 (some ⟨bx, ox, none⟩) 2 [y0, y1] := RS_takeT (k := 2) hR (by omega)
  have hNs := Lib.hid (intsW_c (some ⟨bx, ox, none⟩) 2 3 4 [y0, y1] w1 hR2 (by omega) (by omega) (hTb.below (hI1.bel.mono hb)) (hEx.below (hI1.bel.mono hb)))
  rw [show ([y0, y1] : List ByteArray).map bL = [bL y0, bL y1] from rfl] at hNs
  unfold RetNs at hNs
  obtain ⟨RS9, hRS⟩ : ∃ RS9, numsP [bL y0, bL y1] 4 = RS9 := ⟨_, rfl⟩
  rw [hRS] at hNs
  have hpar2 : Hid (SP = stOf (bL y2) RS9) := Lib.hid (by rw [hpar.out, ← hRS])
  clear hem hd hLw' hT hE1 hE2 hSp hx0 hnp hLn hm0 hm1 hm2 hps2 hpar hcz c0 hI1 hR hR2 hnz
  go_wp2_with fail
  refine hNs.out.mono ?_; rintro e w3 ⟨A3, n3, c3, rfl, ho3, hz3, B3⟩
  have B12 := below_next B1 B3
  rcases hRS9 : RS9 with _ | ns
  · subst hRS9
    obtain rfl : SP = none := hpar2.out
    have hI2 := hBad.out _ B12 rfl
    clear hNs hz3 hbk ho3 hGd hIb hRS
    go_wp2
    go_ret
    exact ⟨rfl, hI2⟩
  subst hRS9
  have hl2 : ns.length = 2 := by have h9 := congrArg List.length (numsP_iff.1 hRS).1; simp at h9; omega
  obtain ⟨m0, m1, rfl⟩ : ∃ m0 m1, ns = [m0, m1] := by
    match ns, hl2 with
    | [p, q], _ => exact ⟨p, q, rfl⟩
  obtain rfl : SP = some ⟨y2, m0, m1⟩ := hpar2.out
  obtain rfl : n3 = 2 := by have h9 := ho3.1; simp only [Option.getD_some] at h9; rw [ints_len] at h9; simp at h9; omega
  have hR3 : RI 3 w3 A3 2 [m0, m1] := R1.of_own ho3 (by omega)
  obtain ⟨by_, oy, m0', hA3, hbly, hm0, cy0⟩ := hR3.at_ (k := 0) (by omega)
  subst hA3
  obtain ⟨csy, fzy, hbky, hczy⟩ := hR3.blk (by omega)
  have hcy0 : csy[oy + 0]? = some (.int .i64 m0) := hczy 0 _ rfl
  have hcy1 : csy[oy + 1]? = some (.int .i64 m1) := hczy 1 _ rfl
  have I3 := hIb.out _ B12
  have hbk3 := blk_below hbk B3
  have hmx := I3.mx
  have hbel := I3.bel
  obtain ⟨u, acc, hbx, hoA, haL, hfA⟩ := I3.ex
  have hfA' := Lib.hid hfA
  have haN : acc.length ≤ 1000000 := by omega
  have lb9 : b < w3.drew.heap.size := lt_of_heap hbx
  have hne9 : bx ≠ b := fun e => by subst e; rw [hbk3] at hbx; injection hbx with hbx; injection hbx with _ hbx; exact absurd hbx (by decide)
  have hny9 : by_ ≠ b := fun e => by subst e; rw [hbky] at hbx; injection hbx with hbx; injection hbx with _ hbx; exact absurd hbx (by decide)
  have hbx9 : w3.drew.heap[b]? = some (.cells #[u] 146 (0, 0)) := hbx
  have hbk9 : w3.drew.heap[bx]? = some (.cells csx 9 fzx) := hbk3
  have hby9 : w3.drew.heap[by_]? = some (.cells csy 3 fzy) := hbky
  have cb9 : w3.drew.cell? ⟨b, 0, none⟩ = some u := (blk_facts hbx9).1 0
  have hoA9 : w3.drew.ownsRow (b + 1) 153 3 u acc.length (acc.flatMap spE) := hoA
  have hmx9 : Mx w3.drew := hmx
  have hbel9 : Below b w w3.drew := below_drewN hbel 1
  clear hNs I3 hbk hbk3 hbx hoA hmx hbel hfA hz3 ho3 hRS hbl hR3 hczy hbky cy0 hm0 hl2 hpar2 hbly
  obtain ⟨i0, hi0, hz0, hz1, hz2⟩ := info_parts info_start
  clear hIb hBad B1 B3 B12 hI0
  go_wp2_with fail
  refine wp_region_inv (by kernel_rfl) (fun listed a w' => ∃ xs : Nat → Value, a = { tmps := #[.string s, .pointer (some ⟨b, 0, none⟩), undef, .bool false, .slice (some ⟨bx, ox, none⟩) 3 3, .slice (some ⟨by_, oy, none⟩) 2 c3, .bool true, .string s, .slice (some ⟨bx, ox, none⟩) 3 3, .slice (some ⟨bx, ox, none⟩) 3 3, .bool false, .bool false, .slice (some ⟨bx, ox, none⟩) 3 3, .int .i64 3, .bool false, .bool false, .tuple #[.slice (some ⟨by_, oy, none⟩) 2 c3, .bool true], .slice (some ⟨bx, ox, none⟩) 3 3, .slice (some ⟨bx, ox, none⟩) 2 3, .tuple #[.slice (some ⟨by_, oy, none⟩) 2 c3, .bool true], .slice (some ⟨by_, oy, none⟩) 2 c3, .bool true, .bool true, xs 0, xs 1, xs 2, xs 3, xs 4, xs 5, xs 6, xs 7, xs 8, xs 9, xs 10, xs 11, xs 12, undef], defers := [] } ∧ (∀ j, listed.getD j false = true → CV [some (u), some (.slice (some ⟨bx, ox, none⟩) 3 3), some (.pointer (some ⟨bx, ox + 2, none⟩)), some (.string y2), some (.slice (some ⟨by_, oy, none⟩) 2 c3), some (.pointer (some ⟨by_, oy, none⟩)), some (.int .i64 m0), some (.slice (some ⟨by_, oy, none⟩) 2 c3), some (.pointer (some ⟨by_, oy + 1, none⟩)), some (.int .i64 m1), some (.agg #[.string y2, .int .i64 m0, .int .i64 m1]), none, none, none] j w' (xs j)) ∧ ApSt (b + 1) 153 3 (acc.length) (acc.flatMap spE) ([.string y2, .int .i64 m0, .int .i64 m1]) (w3.drew) 0 11 12 13 ⟨b, 0, none⟩ listed xs w') ?h0 (AllOps.of ?hs) ?he
  case h0 => exact ⟨fun j => match j with | 0 => undef | 1 => undef | 2 => undef | 3 => undef | 4 => undef | 5 => undef | 6 => undef | 7 => undef | 8 => undef | 9 => undef | 10 => undef | 11 => undef | 12 => undef | _ => undef, rfl, (fun j hj => by rw [rep_falseA] at hj; cases hj), ApSt.start⟩
  case hs =>
    refine ⟨?_, ?_, ?_, ?_, ?_, ?_, ?_, ?_, ?_, ?_, ?_, ?_, ?_, ?_, trivial⟩
    · intro listed a w' hs hI h0 hd K2 hK
      obtain ⟨xs, rfl, hC, hW⟩ := hI
      have hK2 := Lib.hid hK
      have hC2 := Lib.hid hC
      have B9 := hW.below h0
      have c9 : w'.cell? ⟨b, 0, none⟩ = some u := (B9.cell (p := ⟨b, 0, none⟩) lb9).trans cb9
      have hU9 := Lib.hid (hW.row h0 (Below.refl _ _) (v := u) (own_below hoA9 B9) (by decide) (by decide) (by decide))
      clear hd hK hC h0
      go_simp
      exact hK2.out _ _ ⟨updV xs 0 (u), by simp [updV], cond_set hC2.out (fun _ _ h => h) (CV.of rfl rfl), hU9.out⟩
    · intro listed a w' hs hI h0 hd K2 hK
      obtain ⟨xs, rfl, hC, hW⟩ := hI
      have hK2 := Lib.hid hK
      have hC2 := Lib.hid hC
      clear hd hK hC h0
      go_simp
      exact hK2.out _ _ ⟨updV xs 1 (.slice (some ⟨bx, ox, none⟩) 3 3), by simp [updV], cond_set hC2.out (fun _ _ h => h) (CV.of rfl rfl), hW.keep (by decide) (by decide) (by decide) (by decide)⟩
    · intro listed a w' hs hI h0 hd K2 hK
      obtain ⟨xs, rfl, hC, hW⟩ := hI
      have e1 : xs 1 = .slice (some ⟨bx, ox, none⟩) 3 3 := (hC 1 (hd ⟨1, .data⟩ (by simp) rfl)) _ rfl
      have hK2 := Lib.hid hK
      have hC2 := Lib.hid hC
      clear hd hK hC h0
      go_simp
      exact hK2.out _ _ ⟨updV xs 2 (.pointer (some ⟨bx, ox + 2, none⟩)), by simp [updV, e1], cond_set hC2.out (fun _ _ h => h) (CV.of rfl rfl), hW.keep (by decide) (by decide) (by decide) (by decide)⟩
    · intro listed a w' hs hI h0 hd K2 hK
      obtain ⟨xs, rfl, hC, hW⟩ := hI
      have e2 : xs 2 = .pointer (some ⟨bx, ox + 2, none⟩) := (hC 2 (hd ⟨2, .data⟩ (by simp) rfl)) _ rfl
      have hK2 := Lib.hid hK
      have hC2 := Lib.hid hC
      have q9 := hW.typ bx csx _ fzx (by decide) hne9 hbk9
      have c9 : w'.cell? ⟨bx, ox + 2, none⟩ = some (.string y2) := by rw [cell_of_row w' bx (ox + 2) csx _ fzx q9]; exact hcz2
      clear hd hK hC h0
      go_simp
      exact hK2.out _ _ ⟨updV xs 3 (.string y2), by simp [updV, e2], cond_set hC2.out (fun _ _ h => h) (CV.of rfl rfl), hW.keep (by decide) (by decide) (by decide) (by decide)⟩
    · intro listed a w' hs hI h0 hd K2 hK
      obtain ⟨xs, rfl, hC, hW⟩ := hI
      have hK2 := Lib.hid hK
      have hC2 := Lib.hid hC
      clear hd hK hC h0
      go_simp
      exact hK2.out _ _ ⟨updV xs 4 (.slice (some ⟨by_, oy, none⟩) 2 c3), by simp [updV], cond_set hC2.out (fun _ _ h => h) (CV.of rfl rfl), hW.keep (by decide) (by decide) (by decide) (by decide)⟩
    · intro listed a w' hs hI h0 hd K2 hK
      obtain ⟨xs, rfl, hC, hW⟩ := hI
      have e4 : xs 4 = .slice (some ⟨by_, oy, none⟩) 2 c3 := (hC 4 (hd ⟨4, .data⟩ (by simp) rfl)) _ rfl
      have hK2 := Lib.hid hK
      have hC2 := Lib.hid hC
      clear hd hK hC h0
      go_simp
      exact hK2.out _ _ ⟨updV xs 5 (.pointer (some ⟨by_, oy, none⟩)), by simp [updV, e4], cond_set hC2.out (fun _ _ h => h) (CV.of rfl rfl), hW.keep (by decide) (by decide) (by decide) (by decide)⟩
    · intro listed a w' hs hI h0 hd K2 hK
      obtain ⟨xs, rfl, hC, hW⟩ := hI
      have e5 : xs 5 = .pointer (some ⟨by_, oy, none⟩) := (hC 5 (hd ⟨5, .data⟩ (by simp) rfl)) _ rfl
      have hK2 := Lib.hid hK
      have hC2 := Lib.hid hC
      have q9 := hW.typ by_ csy _ fzy (by decide) hny9 hby9
      have c9 : w'.cell? ⟨by_, oy + 0, none⟩ = some (.int .i64 m0) := by rw [cell_of_row w' by_ (oy + 0) csy _ fzy q9]; exact hcy0
      have c9' : w'.cell? ⟨by_, oy, none⟩ = some (.int .i64 m0) := c9
      clear hd hK hC h0
      go_simp
      exact hK2.out _ _ ⟨updV xs 6 (.int .i64 m0), by simp [updV, e5], cond_set hC2.out (fun _ _ h => h) (CV.of rfl rfl), hW.keep (by decide) (by decide) (by decide) (by decide)⟩
    · intro listed a w' hs hI h0 hd K2 hK
      obtain ⟨xs, rfl, hC, hW⟩ := hI
      have hK2 := Lib.hid hK
      have hC2 := Lib.hid hC
      clear hd hK hC h0
      go_simp
      exact hK2.out _ _ ⟨updV xs 7 (.slice (some ⟨by_, oy, none⟩) 2 c3), by simp [updV], cond_set hC2.out (fun _ _ h => h) (CV.of rfl rfl), hW.keep (by decide) (by decide) (by decide) (by decide)⟩
    · intro listed a w' hs hI h0 hd K2 hK
      obtain ⟨xs, rfl, hC, hW⟩ := hI
      have e7 : xs 7 = .slice (some ⟨by_, oy, none⟩) 2 c3 := (hC 7 (hd ⟨7, .data⟩ (by simp) rfl)) _ rfl
      have hK2 := Lib.hid hK
      have hC2 := Lib.hid hC
      clear hd hK hC h0
      go_simp
      exact hK2.out _ _ ⟨updV xs 8 (.pointer (some ⟨by_, oy + 1, none⟩)), by simp [updV, e7], cond_set hC2.out (fun _ _ h => h) (CV.of rfl rfl), hW.keep (by decide) (by decide) (by decide) (by decide)⟩
    · intro listed a w' hs hI h0 hd K2 hK
      obtain ⟨xs, rfl, hC, hW⟩ := hI
      have e8 : xs 8 = .pointer (some ⟨by_, oy + 1, none⟩) := (hC 8 (hd ⟨8, .data⟩ (by simp) rfl)) _ rfl
      have hK2 := Lib.hid hK
      have hC2 := Lib.hid hC
      have q9 := hW.typ by_ csy _ fzy (by decide) hny9 hby9
      have c9 : w'.cell? ⟨by_, oy + 1, none⟩ = some (.int .i64 m1) := by rw [cell_of_row w' by_ (oy + 1) csy _ fzy q9]; exact hcy1
      clear hd hK hC h0
      go_simp
      exact hK2.out _ _ ⟨updV xs 9 (.int .i64 m1), by simp [updV, e8], cond_set hC2.out (fun _ _ h => h) (CV.of rfl rfl), hW.keep (by decide) (by decide) (by decide) (by decide)⟩
    · intro listed a w' hs hI h0 hd K2 hK
      obtain ⟨xs, rfl, hC, hW⟩ := hI
      have e3 : xs 3 = .string y2 := (hC 3 (hd ⟨3, .data⟩ (by simp) rfl)) _ rfl
      have e6 : xs 6 = .int .i64 m0 := (hC 6 (hd ⟨6, .data⟩ (by simp) rfl)) _ rfl
      have e9 : xs 9 = .int .i64 m1 := (hC 9 (hd ⟨9, .data⟩ (by simp) rfl)) _ rfl
      have hK2 := Lib.hid hK
      have hC2 := Lib.hid hC
      clear hd hK hC h0
      go_simp
      exact hK2.out _ _ ⟨updV xs 10 (.agg #[.string y2, .int .i64 m0, .int .i64 m1]), by simp [updV, e3, e6, e9], cond_set hC2.out (fun _ _ h => h) (CV.of rfl rfl), hW.keep (by decide) (by decide) (by decide) (by decide)⟩
    · intro listed a w' hs hI h0 hd K2 hK
      obtain ⟨xs, rfl, hC, hW⟩ := hI
      have e10 : xs 10 = .agg #[.string y2, .int .i64 m0, .int .i64 m1] := (hC 10 (hd ⟨10, .data⟩ (by simp) rfl)) _ rfl
      have hK2 := Lib.hid hK
      have hC2 := Lib.hid hC
      have hL9 := Lib.hid (hW.lay h0 (by decide) (by decide) (by decide))
      clear hd hK hC h0
      go_simp
      exact hK2.out _ _ ⟨updV xs 11 (.slice (some ⟨w'.heap.size, 0, none⟩) 1 1), by simp [updV, e10], cond_set hC2.out (fun _ _ h => h) (CV.free rfl), hL9.out⟩
    · intro listed a w' hs hI h0 hd K2 hK
      obtain ⟨xs, rfl, hC, hW⟩ := hI
      have e0 : xs 0 = u := (hC 0 (hd ⟨0, .data⟩ (by simp) rfl)) _ rfl
      have hK2 := Lib.hid hK
      have hC2 := Lib.hid hC
      obtain ⟨o9, B9, z9, q9, hz9, hnx⟩ := hW.app h0 (hd ⟨0, .data⟩ (by simp) rfl) (hd ⟨11, .data⟩ (by simp) rfl) (by decide) (by decide) (by decide)
      rw [e0] at o9 hnx
      have hnx' := Lib.hid hnx
      clear hd hK hC hnx
      refine step_append_lies _ rfl (.tmp 23) (.tmp 34) 146 (by rfl) _ 153 i0 _ 3 32 Tryz.underlying146 hi0 hz0 hz1 hz2 (by rfl) (by omega) _ _ _ (by show xs 0 = _; exact e0) o9 _ 1 1 ([.string y2, .int .i64 m0, .int .i64 m1]) (by show xs 11 = _; exact q9) rfl (World.news_of_block hz9) (by simp [Value.oneCell']) (by omega) (by unfold maxLen; omega) (by omega) (Nat.le_trans lb9 B9.size) _ rfl ?_
      intro g cap w2 ho hg hat hlt
      clear h0
      exact hK2.out _ _ ⟨updV xs 12 (.slice (some ⟨g, 0, none⟩) ((acc.length) + 1) cap), by first | rfl | simp [updV, Act.put], cond_set hC2.out (fun _ _ h => h) (CV.free rfl), hnx'.out g cap w2 ho hg hat⟩
    · intro listed a w' hs hI h0 hd K2 hK
      obtain ⟨xs, rfl, hC, hW⟩ := hI
      have hK2 := Lib.hid hK
      have hC2 := Lib.hid hC
      obtain ⟨w1, g, cap, b1, b2, b3, b4, hnx⟩ := hW.store h0 (hd ⟨12, .data⟩ (by simp) rfl) (by decide) (by decide) (by decide)
      have r9 := blk_grown (blk_below hbx9 b1) b3 (fun e => by have := own_row_lt b2 b e.symm; omega)
      have f9 := (blk_facts r9).2 0
      have c9 : w'.cell? ⟨b, 0, none⟩ = some u := (blk_facts r9).1 0
      have hnx' := Lib.hid hnx
      clear hd hK hC h0
      go_simp
      exact hK2.out _ _ ⟨updV xs 13 (undef), by simp [updV, b4], cond_set hC2.out (fun _ _ h => h) (CV.free rfl), hnx'.out _⟩
  case he =>
    intro listed a w' hs hI hr
    obtain ⟨xs, rfl, hC, hW⟩ := hI
    have hal := all_listed hs hr ⟨rfl, rfl, rfl, rfl, rfl, rfl, rfl, rfl, rfl, rfl, rfl, rfl, rfl, rfl, trivial⟩
    have e0 : xs 0 = u := (hC 0 (hal 0 (by simp))) _ rfl
    have e1 : xs 1 = .slice (some ⟨bx, ox, none⟩) 3 3 := (hC 1 (hal 1 (by simp))) _ rfl
    have e2 : xs 2 = .pointer (some ⟨bx, ox + 2, none⟩) := (hC 2 (hal 2 (by simp))) _ rfl
    have e3 : xs 3 = .string y2 := (hC 3 (hal 3 (by simp))) _ rfl
    have e4 : xs 4 = .slice (some ⟨by_, oy, none⟩) 2 c3 := (hC 4 (hal 4 (by simp))) _ rfl
    have e5 : xs 5 = .pointer (some ⟨by_, oy, none⟩) := (hC 5 (hal 5 (by simp))) _ rfl
    have e6 : xs 6 = .int .i64 m0 := (hC 6 (hal 6 (by simp))) _ rfl
    have e7 : xs 7 = .slice (some ⟨by_, oy, none⟩) 2 c3 := (hC 7 (hal 7 (by simp))) _ rfl
    have e8 : xs 8 = .pointer (some ⟨by_, oy + 1, none⟩) := (hC 8 (hal 8 (by simp))) _ rfl
    have e9 : xs 9 = .int .i64 m1 := (hC 9 (hal 9 (by simp))) _ rfl
    have e10 : xs 10 = .agg #[.string y2, .int .i64 m0, .int .i64 m1] := (hC 10 (hal 10 (by simp))) _ rfl
    obtain ⟨w1, w2, g, cap, b1, b2, b3, b4, b5, b6, b7⟩ := hW.done (hal 12 (by simp)) (hal 13 (by simp))
    clear hC hs hr hal hW
    rw [e0] at b2 b5 b6
    subst b7
    have r1 := blk_grown (blk_below hbx9 b1) b5 (fun e => by have := own_row_lt b2 b e.symm; omega)
    have r2 := blk_set r1 0 (.slice (some ⟨g, 0, none⟩) (acc.length + 1) cap)
    have hB1 := hbel9.trans (b1.mono (Nat.le_of_lt lb9))
    have hB2 := hB1.grown b5 (Nat.le_trans (Nat.le_of_lt lb9) b1.size) (fun k hk => by have := own_row_lt b2 k hk; omega)
    have hFin := Lib.hid (hGd.out _ _ acc ⟨y2, m0, m1⟩ r2 (own_setT (o := 0) b4 (Nat.lt_succ_self b) _) haL hfA'.out (fun _ => rfl) (hMxx.out _ (hB2.setCell (p := ⟨b, 0, none⟩) (Nat.le_refl _) _)) (hB2.setCell (p := ⟨b, 0, none⟩) (Nat.le_refl _) _))
    clear r1 r2 hB1 hB2 b1 b2 b3 b4 b5 b6 e0 e1 e2 e3 e4 e5 e6 e7 e8 e9 e10 hi0 hz0 hz1 hz2 hGd
    generalize w2.setCell ⟨b, 0, none⟩ (.slice (some ⟨g, 0, none⟩) (acc.length + 1) cap) = w8 at *
    go_wp2
    go_ret
    exact ⟨rfl, hFin.out⟩
set_option maxHeartbeats 6400000 in
set_option maxRecDepth 100000 in
theorem readSt_c (p : Pl) (s : ByteArray) (w : World) (hp0 : poolErr p = 0) (hpb : PlBd p) (hs : s.size ≤ 200000) (hM : Mx w) : Calls Tryz.prog 92 #[p.val, .string s] w (RetRf RSp (startsErr p) stParse s.data.toList w) := by
  have hCR := Lib.hid (fun W => checkPool_c p hpb W)
  have hCF := Lib.hid (fun A n c l W h => checkStarts_c p hpb A n c l W h)
  have hLi := Lib.hid (fun (W : World) (hM : Mx W) => wordsLines_c (stRead_cl W W.heap.size 900000 (by omega) (Nat.le_refl _) hM) s (W.alloc (.cells #[.slice none 0 0] 146)) (TkI.start hM) (by omega) (by omega))
  have hAll := Lib.hid (lnR_all (fun a => (stParse a).isSome) s.data.toList.length s.data.toList (Nat.le_refl _))
  have hIx := Lib.hid (lnR_idx (fun a => (stParse a).isSome) s.data.toList.length s.data.toList (Nat.le_refl _)).2
  have hzs := Lib.hid (Lib.size_eq s)
  have hR2 := Lib.hid (fun e w' (B : Below w.heap.size w w') (h2 : (lnR (fun a => (stParse a).isSome) s.data.toList).2.2 = false) (he : e = .returned (.tuple #[.slice none 0 0, .int .i64 (lnR (fun a => (stParse a).isSome) s.data.toList).2.1, .int .i64 9])) => show RetRf RSp (startsErr p) stParse s.data.toList w e w' from ⟨B, .inl ⟨h2, he⟩⟩)
  have hR3 := Lib.hid (fun e w' (B : Below w.heap.size w w') (h2 : (lnR (fun a => (stParse a).isSome) s.data.toList).2.2 = true) (h4 : startsErr p ((lnR (fun a => (stParse a).isSome) s.data.toList).1.filterMap stParse) ≠ 0) (he : e = .returned (.tuple #[.slice none 0 0, .int .i64 0, .int .i64 (startsErr p ((lnR (fun a => (stParse a).isSome) s.data.toList).1.filterMap stParse))])) => show RetRf RSp (startsErr p) stParse s.data.toList w e w' from ⟨B, .inr ⟨h2, .inl ⟨h4, he⟩⟩⟩)
  have hR4 := Lib.hid (fun e w' (A : Option Addr) (n c : Nat) (B : Below w.heap.size w w') (h2 : (lnR (fun a => (stParse a).isSome) s.data.toList).2.2 = true) (h4 : startsErr p ((lnR (fun a => (stParse a).isSome) s.data.toList).1.filterMap stParse) = 0) (he : e = .returned (.tuple #[.slice A n c, .int .i64 0, .int .i64 0])) (h5 : RSp w' A n ((lnR (fun a => (stParse a).isSome) s.data.toList).1.filterMap stParse)) => show RetRf RSp (startsErr p) stParse s.data.toList w e w' from ⟨B, .inr ⟨h2, .inr ⟨h4, A, n, c, he, h5⟩⟩⟩)
  generalize RetRf RSp (startsErr p) stParse s.data.toList w = RD at *
  unfold RetLn at hLi
  generalize lnR (fun a => (stParse a).isSome) s.data.toList = LN at *
  generalize hFE : startsErr p = FE at *
  rw [hp0] at hCR
  have hs3 : ¬ (200000 : Int) < s.size := by omega
  have hP0 : PoolB w.heap.size p (w.alloc (.cells p.cells 131)) := heap_alloc_new w _
  have hB0 := below_new w (.cells p.cells 131)
  have hPk := Lib.hid (fun a v (h : PoolB w.heap.size p a) B => PoolB.keep a v h B)
  have hPa := Lib.hid (fun v (h : PoolB w.heap.size p v) => h.at_)
  clear hFE hp0
  obtain ⟨lo, hi, le, ci⟩ := p
  dsimp only [Pl.val, Pl.cells] at *
  obtain ⟨z0, z1, z2, z3⟩ := hPa.out _ hP0
  go_enter Tryz.func92, Tryz.ntmps92
  go_wp2_with fail
  refine (hCR.out _).mono ?_; rintro e w1 ⟨rfl, B1⟩
  have hB1 := below_next hB0 B1
  have hP1 := hPk.out _ _ hP0 B1
  clear hCR B1 hB0 hP0 z0 z1 z2 z3
  have hL1 := Lib.hid (hLi.out w1 (hM.below hB1))
  clear hLi hM
  go_wp2_with fail
  refine hL1.out.mono ?_; rintro e w3 ⟨rfl, hI⟩
  have hB3' := below_next hB1 hI.bel
  have hP3 := hPk.out _ _ hP1 hI.bel
  clear hL1
  cases hok : LN.2.2
  · have hR2' := Lib.hid (fun e he => hR2.out e w3 hB3' hok he)
    clear hok hR2 hR3 hR4 hI hPa hPk hP3 hP1
    generalize LN.2.1 = IX at *
    go_wp2
    go_ret3
    exact hR2'.out _ rfl
  · have hcnt : LN.1.length ≤ 1000000 := by have := hIx.out; have := hzs.out; omega
    obtain ⟨A, n, c, acc, hbx, hrs, hdat⟩ := hI.out spE_len hcnt
    obtain rfl := hdat (fun a ha => ((hAll.out hok).2 a ha).1)
    have hR3' := Lib.hid (fun e w' B h4 he => hR3.out e w' B hok h4 he)
    have hR4' := Lib.hid (fun e w' B h4 he h5 => hR4.out e w' A n c B hok h4 he h5)
    obtain ⟨z0, z1, z2, z3⟩ := hPa.out _ hP3
    have y0 := (blk_facts hbx).1 0
    have hCf := Lib.hid (hCF.out A n c _ w3 hrs)
    have hbx' := Lib.hid (fun W (B : Below w3.heap.size w3 W) => show W.cell? ⟨w1.heap.size, 0, none⟩ = some (.slice A n c) from (blk_facts (blk_below hbx B)).1 0)
    have hrs' := Lib.hid (fun W (B : Below w3.heap.size w3 W) => hrs.below B)
    generalize LN.1.filterMap stParse = acc at *
    obtain ⟨E, hE⟩ : ∃ E, FE acc = E := ⟨_, rfl⟩
    rw [hE] at hCf hR3' hR4'
    clear hok hR2 hR3 hR4 hI hAll hIx hcnt hdat hbx hrs hE hCF hPa hPk
    go_wp2_with fail
    refine hCf.out.mono ?_; rintro e w4 ⟨rfl, B4⟩
    have hB4 := below_next hB3' B4
    have y0' := hbx'.out _ B4
    have hrs4 := hrs'.out _ B4
    clear hCf z0 z1 z2 z3 y0 hbx' hrs' B4 hP1 hP3
    by_cases h4 : E = 0
    · subst h4
      have hFin := Lib.hid (fun e he => hR4'.out e w4 hB4 (by first | rfl | trivial) he hrs4)
      clear hR3' hR4' hrs4
      go_wp2
      go_ret3
      exact hFin.out _ rfl
    · have hd : (E != 0) = true := by simpa using h4
      have hFin := Lib.hid (fun e he => hR3'.out e w4 hB4 h4 he)
      clear hR3' hR4' h4 hrs4
      go_wp2
      go_ret3
      exact hFin.out _ rfl
set_option maxHeartbeats 6400000 in
set_option maxRecDepth 100000 in
theorem refReadSt_c (p : Pl) (s : ByteArray) (w : World) (hp0 : poolErr p = 0) (hs : s.size ≤ 200000) (hM : Mx w) (hTb : Tb w) (hEx : Ex w) : Calls Tryz.prog 94 #[p.val, .string s] w (RetRf RSp (startsErr p) stParse s.data.toList w) := by
  have hCR := Lib.hid (rfl : (0 : Int) = 0)
  have hCF := Lib.hid (fun A n c l W h => startsFault_c p hp0 A n c l W h)
  have hLi := Lib.hid (fun (W : World) (hM : Mx W) (hTb : Tb W) (hEx : Ex W) => refLines_c (stRef_cl W W.heap.size 900000 (by omega) (Nat.le_refl _) hM hTb hEx) s (W.alloc (.cells #[.slice none 0 0] 146)) (TkI.start hM) (by omega) (by omega))
  have hAll := Lib.hid (lnR_all (fun a => (stParse a).isSome) s.data.toList.length s.data.toList (Nat.le_refl _))
  have hIx := Lib.hid (lnR_idx (fun a => (stParse a).isSome) s.data.toList.length s.data.toList (Nat.le_refl _)).2
  have hzs := Lib.hid (Lib.size_eq s)
  have hR2 := Lib.hid (fun e w' (B : Below w.heap.size w w') (h2 : (lnR (fun a => (stParse a).isSome) s.data.toList).2.2 = false) (he : e = .returned (.tuple #[.slice none 0 0, .int .i64 (lnR (fun a => (stParse a).isSome) s.data.toList).2.1, .int .i64 9])) => show RetRf RSp (startsErr p) stParse s.data.toList w e w' from ⟨B, .inl ⟨h2, he⟩⟩)
  have hR3 := Lib.hid (fun e w' (B : Below w.heap.size w w') (h2 : (lnR (fun a => (stParse a).isSome) s.data.toList).2.2 = true) (h4 : startsErr p ((lnR (fun a => (stParse a).isSome) s.data.toList).1.filterMap stParse) ≠ 0) (he : e = .returned (.tuple #[.slice none 0 0, .int .i64 0, .int .i64 (startsErr p ((lnR (fun a => (stParse a).isSome) s.data.toList).1.filterMap stParse))])) => show RetRf RSp (startsErr p) stParse s.data.toList w e w' from ⟨B, .inr ⟨h2, .inl ⟨h4, he⟩⟩⟩)
  have hR4 := Lib.hid (fun e w' (A : Option Addr) (n c : Nat) (B : Below w.heap.size w w') (h2 : (lnR (fun a => (stParse a).isSome) s.data.toList).2.2 = true) (h4 : startsErr p ((lnR (fun a => (stParse a).isSome) s.data.toList).1.filterMap stParse) = 0) (he : e = .returned (.tuple #[.slice A n c, .int .i64 0, .int .i64 0])) (h5 : RSp w' A n ((lnR (fun a => (stParse a).isSome) s.data.toList).1.filterMap stParse)) => show RetRf RSp (startsErr p) stParse s.data.toList w e w' from ⟨B, .inr ⟨h2, .inr ⟨h4, A, n, c, he, h5⟩⟩⟩)
  generalize RetRf RSp (startsErr p) stParse s.data.toList w = RD at *
  unfold RetLn at hLi
  generalize lnR (fun a => (stParse a).isSome) s.data.toList = LN at *
  generalize hFE : startsErr p = FE at *
  skip
  have hs3 : ¬ (200000 : Int) < s.size := by omega
  have hP0 : PoolB w.heap.size p (w.alloc (.cells p.cells 131)) := heap_alloc_new w _
  have hB0 := below_new w (.cells p.cells 131)
  have hPk := Lib.hid (fun a v (h : PoolB w.heap.size p a) B => PoolB.keep a v h B)
  have hPa := Lib.hid (fun v (h : PoolB w.heap.size p v) => h.at_)
  clear hFE hp0
  obtain ⟨lo, hi, le, ci⟩ := p
  dsimp only [Pl.val, Pl.cells] at *
  obtain ⟨z0, z1, z2, z3⟩ := hPa.out _ hP0
  go_enter Tryz.func94, Tryz.ntmps94
  go_wp2_with fail
  have hB1 := hB0
  have hP1 := hP0
  have he1 : (w.alloc (.cells #[.int .i64 lo, .int .i64 hi, .int .i64 le, .int .i64 ci] 131)).heap.size = w.heap.size + 1 := by simp
  have hTb1 := hTb.below hB0
  have hEx1 := hEx.below hB0
  clear hCR hB0 hP0 z0 z1 z2 z3 hTb hEx
  generalize w.alloc (.cells #[.int .i64 lo, .int .i64 hi, .int .i64 le, .int .i64 ci] 131) = w1 at *
  rw [← he1]
  clear he1
  have hL1 := Lib.hid (hLi.out w1 (hM.below hB1) hTb1 hEx1)
  clear hLi hM
  refine hL1.out.mono ?_; rintro e w3 ⟨rfl, hI⟩
  have hB3' := below_next hB1 hI.bel
  have hP3 := hPk.out _ _ hP1 hI.bel
  clear hL1
  cases hok : LN.2.2
  · have hR2' := Lib.hid (fun e he => hR2.out e w3 hB3' hok he)
    clear hok hR2 hR3 hR4 hI hPa hPk hP3 hP1
    generalize LN.2.1 = IX at *
    go_wp2
    go_ret3
    exact hR2'.out _ rfl
  · have hcnt : LN.1.length ≤ 1000000 := by have := hIx.out; have := hzs.out; omega
    obtain ⟨A, n, c, acc, hbx, hrs, hdat⟩ := hI.out spE_len hcnt
    obtain rfl := hdat (fun a ha => ((hAll.out hok).2 a ha).1)
    have hR3' := Lib.hid (fun e w' B h4 he => hR3.out e w' B hok h4 he)
    have hR4' := Lib.hid (fun e w' B h4 he h5 => hR4.out e w' A n c B hok h4 he h5)
    obtain ⟨z0, z1, z2, z3⟩ := hPa.out _ hP3
    have y0 := (blk_facts hbx).1 0
    have hCf := Lib.hid (hCF.out A n c _ w3 hrs)
    have hbx' := Lib.hid (fun W (B : Below w3.heap.size w3 W) => show W.cell? ⟨w1.heap.size, 0, none⟩ = some (.slice A n c) from (blk_facts (blk_below hbx B)).1 0)
    have hrs' := Lib.hid (fun W (B : Below w3.heap.size w3 W) => hrs.below B)
    generalize LN.1.filterMap stParse = acc at *
    obtain ⟨E, hE⟩ : ∃ E, FE acc = E := ⟨_, rfl⟩
    rw [hE] at hCf hR3' hR4'
    clear hok hR2 hR3 hR4 hI hAll hIx hcnt hdat hbx hrs hE hCF hPa hPk
    go_wp2_with fail
    refine hCf.out.mono ?_; rintro e w4 ⟨rfl, B4⟩
    have hB4 := below_next hB3' B4
    have y0' := hbx'.out _ B4
    have hrs4 := hrs'.out _ B4
    clear hCf z0 z1 z2 z3 y0 hbx' hrs' B4 hP1 hP3
    by_cases h4 : E = 0
    · subst h4
      have hFin := Lib.hid (fun e he => hR4'.out e w4 hB4 (by first | rfl | trivial) he hrs4)
      clear hR3' hR4' hrs4
      go_wp2
      go_ret3
      exact hFin.out _ rfl
    · have hd : (E != 0) = true := by simpa using h4
      have hFin := Lib.hid (fun e he => hR3'.out e w4 hB4 h4 he)
      clear hR3' hR4' h4 hrs4
      go_wp2
      go_ret3
      exact hFin.out _ rfl
end Go.Proofs.YtklggnglaeagpaaGreatDoor
