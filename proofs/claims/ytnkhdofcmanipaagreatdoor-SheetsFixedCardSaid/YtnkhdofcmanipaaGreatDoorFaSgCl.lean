/- The closure of tumbref1.SignalsRead; SignalsRead of any text. -/
import Derived.Test.YtnkhdofcmanipaaGreatDoorFaSgRR
import Derived.Test.YtnkhdofcmanipaaGreatDoorFaIdxS
import Derived.Deep.AppendLies
import Derived.Deep.DeepCutAuto
import Derived.Deep.RegionHeld3
namespace Go.Proofs.YtnkhdofcmanipaaGreatDoor
open Go.RowKit Go.Lib Go.Shelf
set_option linter.unusedVariables false

theorem info_strG : (Tryz.prog.info? 9).map (fun i => (i.zero, i.size, i.bytes)) = some (some (.string ⟨#[]⟩), 1, 16) := by kernel_rfl
theorem info_sigG : (Tryz.prog.info? 89).map (fun i => (i.zero, i.size, i.bytes)) = some (some (.agg #[.string ⟨#[]⟩, .int .i64 0, .int .i64 0, .int .i64 0, .int .i64 0, .int .i64 0]), 6, 56) := by kernel_rfl
def sgWl : List ByteArray := [⟨#[]⟩, ⟨#[115, 116, 97, 114, 116]⟩, ⟨#[112, 97, 100]⟩, ⟨#[98, 117, 116, 116, 111, 110]⟩, ⟨#[119, 97, 116, 99, 104]⟩]
theorem sgWl_row {W : World} {g : Nat} (h : W.heap[g]? = some (.cells sgWds 9 (0, 0))) : RS 9 W (some ⟨g, 0, none⟩) 5 sgWl :=
  ⟨rfl, by decide, fun _ => ⟨g, 0, sgWds, (0, 0), rfl, h, fun k x hx => by
    have hk := lt_of_at hx
    have hk4 : k < 5 := hk
    have hc : k = 0 ∨ k = 1 ∨ k = 2 ∨ k = 3 ∨ k = 4 := by omega
    rcases hc with rfl | rfl | rfl | rfl | rfl <;> (obtain rfl := Option.some.inj hx; rfl)⟩⟩
theorem sgWl_at {k : Nat} {x : ByteArray} (h : sgWl[k]? = some x) (h1 : 1 ≤ k) : k ≤ 4 ∧ bL x = sgWord (k : Int) := by
  have hk := lt_of_at h
  have hk4 : k < 5 := hk
  have hc : k = 1 ∨ k = 2 ∨ k = 3 ∨ k = 4 := by omega
  rcases hc with rfl | rfl | rfl | rfl <;> (obtain rfl := Option.some.inj h; exact ⟨by omega, rfl⟩)
theorem sgWl_word {k : Int} (h1 : 1 ≤ k) (h2 : k ≤ 4) : ∀ x : ByteArray, bL x = sgWord k → x ∈ sgWl := fun x hx => by
  have hc : k = 1 ∨ k = 2 ∨ k = 3 ∨ k = 4 := by omega
  have hb : ∀ l : List UInt8, bL x = l → x = ⟨l.toArray⟩ := fun l h => by rw [← h]; rfl
  rcases hc with rfl | rfl | rfl | rfl <;> (rw [hb _ hx]; simp [sgWl, sgWord])
/-- the index of the kind's word -/
theorem sg_index {x : ByteArray} {i : Int} (hx : bL x ≠ []) (h : (i = -1 ∧ x ∉ sgWl) ∨ ∃ k : Nat, i = k ∧ sgWl[k]? = some x ∧ ∀ j, j < k → sgWl[j]? ≠ some x) : (i = -1 ∧ sgKind (bL x) = 0) ∨ (1 ≤ i ∧ i ≤ 4 ∧ sgKind (bL x) = i) := by
  rcases h with ⟨rfl, h⟩ | ⟨k, rfl, h, _⟩
  · refine .inl ⟨rfl, ?_⟩
    have hb := sgKind_bd (bL x)
    by_cases h0 : sgKind (bL x) = 0
    · exact h0
    · exact absurd (sgWl_word (by omega) hb.2 x ((sgKind_iff (by omega) hb.2).2 rfl).symm) h
  · have hk0 : k ≠ 0 := fun e => by
      subst e
      obtain rfl := Option.some.inj h
      exact hx rfl
    obtain ⟨h4, hw⟩ := sgWl_at h (by omega)
    exact .inr ⟨by omega, by omega, (sgKind_iff (by omega) (by omega)).1 hw.symm⟩
theorem sg_long {d : List UInt8} {k : Int} {l : List (List UInt8)} (h : (l.length : Int) ≠ if k = 4 then 4 else 3) : sgFin d k (numsP l 12) = none := by
  cases h9 : numsP l 12 with
  | none => exact sgFin_no
  | some ns =>
    have h8 := congrArg List.length (numsP_iff.1 h9).1
    rw [List.length_map] at h8
    exact sgFin_len (by rw [← h8]; exact h)
set_option maxHeartbeats 6400000 in
set_option maxRecDepth 100000 in
theorem sgRef_cl (w : World) (b N : Nat) (hN : N ≤ 900000) (hb : w.heap.size ≤ b) (hM : Mx w) (hTb : Tb w) (hEx : Ex w) : TakeL N 90 #[.pointer (some ⟨b, 0, none⟩)] (fun a => (sgParse a).isSome) (SgI w b) := by
  refine ⟨enters_of Tryz.func90 (by kernel_rfl) rfl, fun L s W hI hL hs => ?_, fun L W q h => h.below (below_drewN (Below.refl _ _) q), fun L W h => h.mx⟩
  have hIb := Lib.hid (fun W' (B : Below W.heap.size W W') => hI.below B)
  have hMxx := Lib.hid (fun W' (B : Below b w W') => hM.below (B.mono hb))
  have hBad := Lib.hid (fun W' (B : Below W.heap.size W W') (h : (sgParse s.data.toList).isSome = false) => hI.bad B h)
  have hSp := Lib.hid (splitS_c 32 s W (by omega) hI.mx)
  have hE1 := Lib.hid (fun h => sg_emp (a := s.data.toList) h)
  have hE2 := Lib.hid (fun h => sg_len (a := s.data.toList) h)
  have hT := Lib.hid (fun d n k p q r h he => sg_five (a := s.data.toList) (d := d) (n := n) (k := k) (p := p) (q := q) (r := r) h he)
  have hGd := Lib.hid (fun (W' : World) (u : Value) (acc : List Sg) (x : Sg) h1 h2 h4 h5 h6 hm hB => TkI.good (T := 78) (Te := 89) (sz := 6) (enc := sgE) (parse := sgParse) (w := w) (b := b) (L := L) (a := s.data.toList) (W := W') (u := u) (acc := acc) (x := x) h1 h2 h4 h5 h6 hm hB)
  show Calls Tryz.prog 90 #[.string s, .pointer (some ⟨b, 0, none⟩)] W fun e w' => e = .returned (.bool (sgParse s.data.toList).isSome) ∧ SgI w b (L ++ [s.data.toList]) w'
  have hSn := Lib.hid (show (spl 32 s.data.toList).length ≤ 900001 by have h9 := Lib.size_eq s; have := splT_len 32 s.data.toList; omega)
  obtain ⟨SP, hSP⟩ : ∃ SP, sgParse s.data.toList = SP := ⟨_, rfl⟩
  rw [hSP] at hE1 hE2 hT hBad hGd ⊢
  generalize hps : spl 32 s.data.toList = ps at *
  have hI0 := Lib.hid hI
  clear hI hSP hps
  go_enter Tryz.func90, Tryz.ntmps90
  go_wp2_with fail
  refine hSp.out.mono ?_; rintro e w1 ⟨A, n, Lw, rfl, hR, hLw', hnz, _, B1⟩
  have hCo := Lib.hid (contS_c A n n Lw ⟨#[]⟩ w1 hR)
  rw [emp_dec hLw'] at hCo
  by_cases hem : ([] : List UInt8) ∈ ps
  · have hd : decide (([] : List UInt8) ∈ ps) = true := decide_eq_true hem
    rw [hd] at hCo
    obtain rfl : SP = none := hE1.out hem
    have hI2 := hBad.out _ B1 rfl
    clear hd hem hLw' hSp
    go_wp2_with fail
    refine hCo.out.mono ?_; rintro e w2 ⟨rfl, rfl⟩
    go_wp2
    go_ret
    exact ⟨rfl, hI2⟩
  have hd : decide (([] : List UInt8) ∈ ps) = false := decide_eq_false hem
  rw [hd] at hCo
  go_wp2_with fail
  refine hCo.out.mono ?_; rintro e w1' ⟨rfl, rfl⟩
  clear hCo
  have hLn := hR.len
  have hnp : ps.length = n := by rw [← hLw', List.length_map, hLn]
  by_cases h5 : n < 5
  · have hi5 : (n : Int) < 5 := by omega
    obtain rfl : SP = none := hE2.out (by omega)
    have hI2 := hBad.out _ B1 rfl
    clear hd hem hSp hLw' h5 hE1 hE2
    go_wp2
    go_ret
    exact ⟨rfl, hI2⟩
  have hi5 : ¬ (n : Int) < 5 := by omega
  obtain ⟨bx, ox, x0, hA, hbl, hx0, c0⟩ := hR.at_ (k := 0) (by omega)
  subst hA
  obtain ⟨csx, fzx, hbk, hcz⟩ := hR.blk (by omega)
  obtain ⟨y0, y1, y2, y3, y4, yr, rfl⟩ : ∃ y0 y1 y2 y3 y4 yr, Lw = y0 :: y1 :: y2 :: y3 :: y4 :: yr := by
    match Lw, hLn with
    | a :: b :: c :: d :: e :: r, _ => exact ⟨a, b, c, d, e, r, rfl⟩
    | [], h => simp at h; omega
    | [_], h => simp at h; omega
    | [_, _], h => simp at h; omega
    | [_, _, _], h => simp at h; omega
    | [_, _, _, _], h => simp at h; omega
  have hps2 : ps = bL y0 :: bL y1 :: bL y2 :: bL y3 :: bL y4 :: yr.map bL := by rw [← hLw']; rfl
  have hm2 : bL y2 ≠ [] := fun e => hem (by rw [hps2, e]; simp)
  have hpar := Lib.hid (hT.out _ _ _ _ _ _ hps2 hem)
  have hcz0 : csx[ox + 0]? = some (.string y0) := hcz 0 _ rfl
  have hcz1 : csx[ox + 1]? = some (.string y1) := hcz 1 _ rfl
  have hcz2 : csx[ox + 2]? = some (.string y2) := hcz 2 _ rfl
  have hn9 : n ≤ 900001 := by have := hSn.out; omega
  have hix := Lib.hid (fun i h => sg_index (x := y2) (i := i) hm2 h)
  have hIw := Lib.hid (fun (g : Nat) W (h : W.heap[g]? = some (.cells sgWds 9 (0, 0))) => indexS_c (some ⟨g, 0, none⟩) 5 5 sgWl y2 W (sgWl_row h))
  have e2 : w1.cell? ⟨bx, ox + 2, none⟩ = some (.string y2) := by rw [cell_of_row w1 bx (ox + 2) csx _ fzx hbk]; exact hcz2
  have hi2 : (2 : Int) < (n : Int) := by omega
  clear hem hLw' hT hE1 hE2 hx0 hnp hps2 hSn hd hSp hnz hm2
  go_wp2_with fail
  go_region_held3 (fun w' => w'.cell? ⟨bx, ox + 2, none⟩ = some (.string y2)) (first | go_keep | exact e2 | exact (B4.cell (p := ⟨bx, ox + 2, none⟩) hbl).trans e2)
    (first
      | (go_at_call 84; with_reducible refine (signalWords_c _).mono ?_; rintro e w4 ⟨g4, rfl, hg4, B4⟩)
      | (go_at_call 93; with_reducible refine (hIw.out g4 _ (by exact hg4)).mono ?_; rintro e w5 ⟨i5, rfl, hi5', rfl⟩))
  have hcs := hix.out _ hi5'
  have hB4 := below_next (below_drewN B1 1) B4
  have hbk4 : w4.heap[bx]? = some (.cells csx 9 fzx) := blk_below (w := World.drew _) hbk B4
  have hI4 := hIb.out _ hB4
  have hbw4 := hI4.bel
  have hbz4 : b ≤ w4.heap.size := Nat.le_of_lt (by obtain ⟨_, _, h9, _⟩ := hI4.ex; exact lt_of_heap h9)
  clear hIw hix hi5' hg4 e2 c0 hI4 B4 hbk
  rcases hcs with ⟨rfl, hK0⟩ | ⟨hk1, hk4, hKi⟩
  · obtain rfl : SP = none := by rw [hpar.out, hK0]; exact sgFin_zero (by omega)
    have hI2 := hBad.out w4 hB4 rfl
    clear hpar hGd
    go_wp2
    go_ret
    exact ⟨rfl, hI2⟩
  rw [hKi] at hpar
  have hlt1 : ¬ i5 < 1 := by omega
  by_cases hk : i5 = 4
  · subst hk
    by_cases hn6 : n = 6
    rotate_left
    · have hnn : ((n : Int) != 6) = true := by rw [bne_iff_ne]; omega
      obtain rfl : SP = none := by rw [hpar.out]; exact sg_long (by rw [if_pos rfl]; simp only [List.length_cons, List.length_map] at hLn ⊢; omega)
      have hI2 := hBad.out w4 hB4 rfl
      clear hpar hGd
      go_wp2
      go_ret
      exact ⟨rfl, hI2⟩
    subst hn6
    obtain ⟨y5, rfl⟩ : ∃ y5, yr = [y5] := by
      match yr, hLn with
      | [y5], _ => exact ⟨y5, rfl⟩
    have hNu := Lib.hid (fun (g cap : Nat) (W6 : World) (ho : W6.ownsRow w4.heap.size 9 1 (.slice (some ⟨g, 0, none⟩) (1 + 3) cap) (1 + 3) ([Value.string y1] ++ ([y3, y4, y5] : List ByteArray).map Value.string)) (hB6 : Below w4.heap.size w4 W6) => intsW_c (some ⟨g, 0, none⟩) (1 + 3) cap 12 (y1 :: [y3, y4, y5]) W6 (R1.of_own ho (by omega)) (by omega) (by omega) (hTb.below ((hbw4.trans (hB6.mono hbz4)).mono hb)) (hEx.below ((hbw4.trans (hB6.mono hbz4)).mono hb)))
    have hb4 := hbk4
    have c1 : w4.drew.cell? ⟨bx, ox + 1, none⟩ = some (.string y1) := by rw [cell_of_row w4.drew bx (ox + 1) csx _ fzx hbk4]; exact hcz1
    clear hcz1
    have hown1 : (w4.alloc (.cells #[.string y1] 9)).ownsRow w4.heap.size 9 1 (.slice (some ⟨w4.heap.size, 0, none⟩) 1 1) 1 [Value.string y1] := ⟨rfl, .inr ⟨w4.heap.size, 1, _, rfl, Nat.le_refl _, heap_alloc_new w4 _, Nat.le_refl _, by decide, rfl, rfl⟩⟩
    have hb4a := blk_alloc (w := w4) hb4 (.cells #[.string y1] 9)
    have hnw : ∀ (j : Nat) (u : Value), (([y3, y4, y5] : List ByteArray).map Value.string)[j]? = some u → (w4.alloc (.cells #[.string y1] 9)).cell? ((⟨bx, ox + 3, none⟩ : Addr).add j) = some u := fun j u hu => by
      have hadd : (⟨bx, ox + 3, none⟩ : Addr).add j = ⟨bx, ox + 3 + j, none⟩ := by unfold Addr.add; split <;> simp_all
      rw [hadd, cell_of_row _ bx (ox + 3 + j) csx _ fzx hb4a]
      rw [List.getElem?_map] at hu
      obtain ⟨y, hy, rfl⟩ := Option.map_eq_some_iff.1 hu
      have h9 := hcz (3 + j) y (by rw [show 3 + j = j + 3 by omega]; exact hy)
      rw [show ox + 3 + j = ox + (3 + j) by omega]
      exact h9
    obtain ⟨i0, hi0, hz0, hz1, hz2⟩ := info_parts info_strG
    have hba : w4.heap.size ≤ (w4.alloc (.cells #[.string y1] 9)).heap.size := by simp
    have hB6 := Lib.hid (fun (W6 : World) (hg : (w4.alloc (.cells #[.string y1] 9)).drew.grownBy W6 (Value.slice (some ⟨w4.heap.size, 0, none⟩) 1 1).ownBlock) => below_own (B := w4.heap.size) (w := (w4.alloc (.cells #[.string y1] 9)).drew) (below_drewN (below_new w4 _) 1) hown1 hg hba (Nat.le_refl _))
    unfold RetNs at hNu
    rw [show ((12 : Nat) : Int) = 12 from rfl] at hNu
    obtain ⟨RS9, hRS⟩ : ∃ RS9, numsP ((y1 :: [y3, y4, y5] : List ByteArray).map bL) 12 = RS9 := ⟨_, rfl⟩
    rw [hRS] at hNu
    have hpar2 := hpar.out
    rw [show (bL y1 :: bL y3 :: bL y4 :: List.map bL [y5]) = (y1 :: [y3, y4, y5] : List ByteArray).map bL from rfl, hRS] at hpar2
    have hpar3 := Lib.hid hpar2
    clear hpar hpar2
    go_wp2_with fail
    have hbl4 := lt_of_heap hb4
    have hc6 := Lib.hid (fun (W6 : World) (hg : (w4.alloc (.cells #[.string y1] 9)).drew.grownBy W6 (Value.slice (some ⟨w4.heap.size, 0, none⟩) 1 1).ownBlock) => show W6.cell? ⟨bx, ox + 1, none⟩ = some (.string y1) from ((hB6.out W6 hg).cell (p := ⟨bx, ox + 1, none⟩) hbl4).trans c1)
    have hc7 := Lib.hid (fun (W6 W7 : World) (hg : (w4.alloc (.cells #[.string y1] 9)).drew.grownBy W6 (Value.slice (some ⟨w4.heap.size, 0, none⟩) 1 1).ownBlock) (B : Below W6.heap.size W6 W7) => show W7.cell? ⟨bx, ox + 1, none⟩ = some (.string y1) from (B.cell (p := ⟨bx, ox + 1, none⟩) (Nat.lt_of_lt_of_le hbl4 (hB6.out W6 hg).size)).trans (hc6.out W6 hg))
    have c2 : (w4.alloc (.cells #[.string y1] 9)).drew.cell? ⟨bx, ox + 1, none⟩ = some (.string y1) := ((below_new w4 (.cells #[.string y1] 9)).cell (p := ⟨bx, ox + 1, none⟩) hbl4).trans c1
    go_region_held3 (fun w' => w'.cell? ⟨bx, ox + 1, none⟩ = some (.string y1)) (first | go_keep | exact c1 | exact c2 | exact hc6.out w6 (by exact hg6) | exact hc7.out w6 w7 (by exact hg6) (by exact B7))
      (first
        | (refine step_append_lies _ rfl (.tmp 38) (.tmp 40) 96 (by rfl) w4.heap.size 9 i0 _ 1 16 Tryz.underlying96 hi0 hz0 hz1 hz2 (by rfl) (by omega) _ 1 [Value.string y1] (by rfl) hown1 ⟨bx, ox + 3, none⟩ 3 3 (([y3, y4, y5] : List ByteArray).map Value.string) (by rfl) (by rfl) hnw (by simp [Value.oneCell']) (by omega) (by unfold maxLen; omega) (by omega) hba _ rfl ?_; intro g6 cap6 w6 ho6 hg6 hat6 hlt6)
        | (go_at_call 94; with_reducible refine (hNu.out g6 cap6 w6 (by exact ho6) (hB6.out w6 (by exact hg6))).mono ?_; rintro e w7 ⟨A7, n7, c7, rfl, ho7, hz7, B7⟩))
    have hB6' := hB6.out w6 hg6
    have hb7 : w7.heap[bx]? = some (.cells csx 9 fzx) := blk_below (blk_below hb4 hB6') B7
    have hB47 := below_next hB6' B7
    have hB17 := below_next hB4 hB47
    clear c2 hc6 hc7 hNu hB6 hown1 hb4a hnw hg6 hat6 hlt6 ho6 hba hb4 c1 hi0 hz0 hz1 hz2 B7 hB6' hbk4 hbl4
    rcases hRS9 : RS9 with _ | ns
    · subst hRS9
      obtain rfl : SP = none := hpar3.out.trans sgFin_no
      have hI2 := hBad.out w7 hB17 rfl
      clear hpar3 hGd ho7 hz7 hRS
      go_wp2
      go_ret
      exact ⟨rfl, hI2⟩
    subst hRS9
    have hl2 : ns.length = 4 := by have h9 := congrArg List.length (numsP_iff.1 hRS).1; simp at h9; omega
    obtain ⟨m0, m1, m2, m3, rfl⟩ : ∃ m0 m1 m2 m3, ns = [m0, m1, m2, m3] := by
      match ns, hl2 with
      | [p0, p1, p2, p3], _ => exact ⟨p0, p1, p2, p3, rfl⟩
    obtain rfl : SP = some ⟨y0, m0, 4, m1, m2, m3⟩ := hpar3.out.trans (sgFin_four)
    obtain rfl : n7 = 4 := by have h9 := ho7.1; simp only [Option.getD_some] at h9; rw [ints_len] at h9; simp at h9; omega
    have hI7 : RI 3 w7 A7 4 [m0, m1, m2, m3] := R1.of_own ho7 (by omega)
    obtain ⟨by_, oy, m0', hA3, hbly, hm0', cy0⟩ := hI7.at_ (k := 0) (by omega)
    subst hA3
    obtain ⟨csy, fzy, hbky, hczy⟩ := hI7.blk (by omega)
    have x0' : w7.cell? ⟨bx, ox, none⟩ = some (.string y0) := by have h8 := cell_of_row w7 bx (ox + 0) csx _ fzx hb7; rw [hcz0] at h8; exact h8
    have u0 : w7.cell? ⟨by_, oy, none⟩ = some (.int .i64 m0) := by have h9 := hczy 0 _ rfl; have h8 := cell_of_row w7 by_ (oy + 0) csy _ fzy hbky; rw [h9] at h8; exact h8
    have u1 : w7.cell? ⟨by_, oy + 1, none⟩ = some (.int .i64 m1) := by have h9 := hczy 1 _ rfl; have h8 := cell_of_row w7 by_ (oy + 1) csy _ fzy hbky; rw [h9] at h8; exact h8
    have u2 : w7.cell? ⟨by_, oy + 2, none⟩ = some (.int .i64 m2) := by have h9 := hczy 2 _ rfl; have h8 := cell_of_row w7 by_ (oy + 2) csy _ fzy hbky; rw [h9] at h8; exact h8
    have u3 : w7.cell? ⟨by_, oy + 3, none⟩ = some (.int .i64 m3) := by have h9 := hczy 3 _ rfl; have h8 := cell_of_row w7 by_ (oy + 3) csy _ fzy hbky; rw [h9] at h8; exact h8
    clear hpar3 ho7 hz7 hI7 hczy hm0' cy0 hl2 hRS hcz hcz0 hcz2
    go_wp2_with fail
    go_region_held3 (fun w' => w'.cell? ⟨bx, ox, none⟩ = some (.string y0) ∧ w'.cell? ⟨by_, oy, none⟩ = some (.int .i64 m0) ∧ w'.cell? ⟨by_, oy + 1, none⟩ = some (.int .i64 m1) ∧ w'.cell? ⟨by_, oy + 2, none⟩ = some (.int .i64 m2)) (first | go_keep | exact ⟨x0', u0, u1, u2⟩) (fail)
    have hI7 := hIb.out w7 hB17
    obtain ⟨u, acc, hbx7, hoA7, haL, hfA⟩ := hI7.ex
    have hfA' := Lib.hid hfA
    have haN : acc.length ≤ 1000000 := by omega
    have hbel7 := hI7.bel
    have y7 : w7.cell? ⟨b, 0, none⟩ = some u := (blk_facts hbx7).1 0
    have hn7 : (w7.alloc (.cells #[.string y0, .int .i64 m0, .int .i64 4, .int .i64 m1, .int .i64 m2, .int .i64 0] 89)).drew.heap[w7.heap.size]? = some (.cells #[.string y0, .int .i64 m0, .int .i64 4, .int .i64 m1, .int .i64 m2, .int .i64 0] 89 (0, 0)) := heap_alloc_new w7 _
    have hB78 : Below w7.heap.size w7 (w7.alloc (.cells #[.string y0, .int .i64 m0, .int .i64 4, .int .i64 m1, .int .i64 m2, .int .i64 0] 89)).drew := below_drewN (below_new w7 _) 1
    have hb7' := lt_of_heap hbx7
    have u3' : (w7.alloc (.cells #[.string y0, .int .i64 m0, .int .i64 4, .int .i64 m1, .int .i64 m2, .int .i64 0] 89)).drew.cell? ⟨by_, oy + 3, none⟩ = some (.int .i64 m3) := (hB78.cell (p := ⟨by_, oy + 3, none⟩) hbly).trans u3
    have zz5 : (w7.alloc (.cells #[.string y0, .int .i64 m0, .int .i64 4, .int .i64 m1, .int .i64 m2, .int .i64 0] 89)).drew.cell? ⟨w7.heap.size, 5, none⟩ = some (.int .i64 0) := (blk_facts hn7).1 5
    have ff5 : (w7.alloc (.cells #[.string y0, .int .i64 m0, .int .i64 4, .int .i64 m1, .int .i64 m2, .int .i64 0] 89)).drew.frozen? ⟨w7.heap.size, 5, none⟩ = false := (blk_facts hn7).2 5
    have hn8 : (w7.alloc (.cells #[.string y0, .int .i64 m0, .int .i64 4, .int .i64 m1, .int .i64 m2, .int .i64 m3] 89)).drew.heap[w7.heap.size]? = some (.cells #[.string y0, .int .i64 m0, .int .i64 4, .int .i64 m1, .int .i64 m2, .int .i64 m3] 89 (0, 0)) := heap_alloc_new w7 _
    have hB8 : Below w7.heap.size w7 (w7.alloc (.cells #[.string y0, .int .i64 m0, .int .i64 4, .int .i64 m1, .int .i64 m2, .int .i64 m3] 89)).drew := below_drewN (below_new w7 _) 1
    have hbx8 : (w7.alloc (.cells #[.string y0, .int .i64 m0, .int .i64 4, .int .i64 m1, .int .i64 m2, .int .i64 m3] 89)).drew.heap[b]? = some (.cells #[u] 78 (0, 0)) := blk_below hbx7 hB8
    have ho8 : (w7.alloc (.cells #[.string y0, .int .i64 m0, .int .i64 4, .int .i64 m1, .int .i64 m2, .int .i64 m3] 89)).drew.ownsRow (b + 1) 89 6 u acc.length (acc.flatMap sgE) := own_below hoA7 hB8
    have hbel8 := hbel7.trans (hB8.mono (Nat.le_of_lt hb7'))
    have y8 : (w7.alloc (.cells #[.string y0, .int .i64 m0, .int .i64 4, .int .i64 m1, .int .i64 m2, .int .i64 m3] 89)).drew.cell? ⟨b, 0, none⟩ = some u := (blk_facts hbx8).1 0
    have z80 := (blk_facts hn8).1 0
    have z81 := (blk_facts hn8).1 1
    have z82 := (blk_facts hn8).1 2
    have z83 := (blk_facts hn8).1 3
    have z84 := (blk_facts hn8).1 4
    have z85 := (blk_facts hn8).1 5
    have hz8 : b + 1 ≤ (w7.alloc (.cells #[.string y0, .int .i64 m0, .int .i64 4, .int .i64 m1, .int .i64 m2, .int .i64 m3] 89)).drew.heap.size := lt_of_heap hbx8
    have hFx := Lib.hid (fun (v9 : Value) (w9 : World) (ho9 : w9.ownsRow (b + 1) 89 6 v9 (acc.length + 1) (acc.flatMap sgE ++ sgE ⟨y0, m0, 4, m1, m2, m3⟩)) (hg9 : World.grownBy (w7.alloc (.cells #[.string y0, .int .i64 m0, .int .i64 4, .int .i64 m1, .int .i64 m2, .int .i64 m3] 89)).drew w9 u.ownBlock) => show w9.heap[b]? = some (.cells #[u] 78 (0, 0)) ∧ SgI w b (L ++ [s.data.toList]) (w9.setCell ⟨b, 0, none⟩ v9) from by
      have r9 := blk_grown hbx8 hg9 (fun e => by have := own_row_lt ho8 b e.symm; omega)
      have b9 := below_own hbel8 ho8 hg9 (by omega) (Nat.le_succ b)
      have hB9 := b9.setCell (p := ⟨b, 0, none⟩) (Nat.le_refl _) v9
      exact ⟨r9, hGd.out _ v9 acc ⟨y0, m0, 4, m1, m2, m3⟩ (blk_set r9 0 v9) (own_setT (o := 0) ho9 (Nat.lt_succ_self b) _) haL hfA'.out (fun _ => rfl) (hMxx.out _ hB9) hB9⟩)
    clear hI7 hbx7 hoA7 hfA hn7 hB78 hB8 hbx8 hbel8 hbel7 hn8 hGd hBad hIb hI0 hMxx hb7 hB47 hB17
    go_wp2_with (at_builtin; refine wpList_app (w := (w7.alloc (.cells #[.string y0, .int .i64 m0, .int .i64 4, .int .i64 m1, .int .i64 m2, .int .i64 m3] 89)).drew) rfl (.tmp 67) (.tmp 69) 78 rfl Tryz.underlying78 info_sigG rfl (by omega) (by omega) ho8 rfl rfl (by first | rfl | (simp; done)) rfl (by simp [Value.oneCell']) (by omega) hz8 ?_; intro v9 w9 hown9 hg9; obtain ⟨A9, k9, rfl⟩ := own_shape hown9; obtain ⟨r9, hF9⟩ := hFx.out _ w9 hown9 hg9; have c9 : w9.cell? ⟨b, 0, none⟩ = some u := (blk_facts r9).1 0; have f9 := (blk_facts r9).2 0)
    go_wp2
    go_ret
    exact ⟨rfl, hF9⟩
  · have hke : (i5 == 4) = false := beq_eq_false_iff_ne.2 hk
    by_cases hn6 : n = 5
    rotate_left
    · have hnn : ((n : Int) != 5) = true := by rw [bne_iff_ne]; omega
      obtain rfl : SP = none := by rw [hpar.out]; exact sg_long (by rw [if_neg hk]; simp only [List.length_cons, List.length_map] at hLn ⊢; omega)
      have hI2 := hBad.out w4 hB4 rfl
      clear hpar hGd
      go_wp2
      go_ret
      exact ⟨rfl, hI2⟩
    subst hn6
    obtain rfl : yr = [] := by
      match yr, hLn with
      | [], _ => rfl
    have hNu := Lib.hid (fun (g cap : Nat) (W6 : World) (ho : W6.ownsRow w4.heap.size 9 1 (.slice (some ⟨g, 0, none⟩) (1 + 2) cap) (1 + 2) ([Value.string y1] ++ ([y3, y4] : List ByteArray).map Value.string)) (hB6 : Below w4.heap.size w4 W6) => intsW_c (some ⟨g, 0, none⟩) (1 + 2) cap 12 (y1 :: [y3, y4]) W6 (R1.of_own ho (by omega)) (by omega) (by omega) (hTb.below ((hbw4.trans (hB6.mono hbz4)).mono hb)) (hEx.below ((hbw4.trans (hB6.mono hbz4)).mono hb)))
    have hb4 := hbk4
    have c1 : w4.drew.cell? ⟨bx, ox + 1, none⟩ = some (.string y1) := by rw [cell_of_row w4.drew bx (ox + 1) csx _ fzx hbk4]; exact hcz1
    clear hcz1
    have hown1 : (w4.alloc (.cells #[.string y1] 9)).ownsRow w4.heap.size 9 1 (.slice (some ⟨w4.heap.size, 0, none⟩) 1 1) 1 [Value.string y1] := ⟨rfl, .inr ⟨w4.heap.size, 1, _, rfl, Nat.le_refl _, heap_alloc_new w4 _, Nat.le_refl _, by decide, rfl, rfl⟩⟩
    have hb4a := blk_alloc (w := w4) hb4 (.cells #[.string y1] 9)
    have hnw : ∀ (j : Nat) (u : Value), (([y3, y4] : List ByteArray).map Value.string)[j]? = some u → (w4.alloc (.cells #[.string y1] 9)).cell? ((⟨bx, ox + 3, none⟩ : Addr).add j) = some u := fun j u hu => by
      have hadd : (⟨bx, ox + 3, none⟩ : Addr).add j = ⟨bx, ox + 3 + j, none⟩ := by unfold Addr.add; split <;> simp_all
      rw [hadd, cell_of_row _ bx (ox + 3 + j) csx _ fzx hb4a]
      rw [List.getElem?_map] at hu
      obtain ⟨y, hy, rfl⟩ := Option.map_eq_some_iff.1 hu
      have h9 := hcz (3 + j) y (by rw [show 3 + j = j + 3 by omega]; exact hy)
      rw [show ox + 3 + j = ox + (3 + j) by omega]
      exact h9
    obtain ⟨i0, hi0, hz0, hz1, hz2⟩ := info_parts info_strG
    have hba : w4.heap.size ≤ (w4.alloc (.cells #[.string y1] 9)).heap.size := by simp
    have hB6 := Lib.hid (fun (W6 : World) (hg : (w4.alloc (.cells #[.string y1] 9)).drew.grownBy W6 (Value.slice (some ⟨w4.heap.size, 0, none⟩) 1 1).ownBlock) => below_own (B := w4.heap.size) (w := (w4.alloc (.cells #[.string y1] 9)).drew) (below_drewN (below_new w4 _) 1) hown1 hg hba (Nat.le_refl _))
    unfold RetNs at hNu
    rw [show ((12 : Nat) : Int) = 12 from rfl] at hNu
    obtain ⟨RS9, hRS⟩ : ∃ RS9, numsP ((y1 :: [y3, y4] : List ByteArray).map bL) 12 = RS9 := ⟨_, rfl⟩
    rw [hRS] at hNu
    have hpar2 := hpar.out
    rw [show (bL y1 :: bL y3 :: bL y4 :: List.map bL []) = (y1 :: [y3, y4] : List ByteArray).map bL from rfl, hRS] at hpar2
    have hpar3 := Lib.hid hpar2
    clear hpar hpar2
    go_wp2_with fail
    have hbl4 := lt_of_heap hb4
    have hc6 := Lib.hid (fun (W6 : World) (hg : (w4.alloc (.cells #[.string y1] 9)).drew.grownBy W6 (Value.slice (some ⟨w4.heap.size, 0, none⟩) 1 1).ownBlock) => show W6.cell? ⟨bx, ox + 1, none⟩ = some (.string y1) from ((hB6.out W6 hg).cell (p := ⟨bx, ox + 1, none⟩) hbl4).trans c1)
    have hc7 := Lib.hid (fun (W6 W7 : World) (hg : (w4.alloc (.cells #[.string y1] 9)).drew.grownBy W6 (Value.slice (some ⟨w4.heap.size, 0, none⟩) 1 1).ownBlock) (B : Below W6.heap.size W6 W7) => show W7.cell? ⟨bx, ox + 1, none⟩ = some (.string y1) from (B.cell (p := ⟨bx, ox + 1, none⟩) (Nat.lt_of_lt_of_le hbl4 (hB6.out W6 hg).size)).trans (hc6.out W6 hg))
    have c2 : (w4.alloc (.cells #[.string y1] 9)).drew.cell? ⟨bx, ox + 1, none⟩ = some (.string y1) := ((below_new w4 (.cells #[.string y1] 9)).cell (p := ⟨bx, ox + 1, none⟩) hbl4).trans c1
    go_region_held3 (fun w' => w'.cell? ⟨bx, ox + 1, none⟩ = some (.string y1)) (first | go_keep | exact c1 | exact c2 | exact hc6.out w6 (by exact hg6) | exact hc7.out w6 w7 (by exact hg6) (by exact B7))
      (first
        | (refine step_append_lies _ rfl (.tmp 38) (.tmp 40) 96 (by rfl) w4.heap.size 9 i0 _ 1 16 Tryz.underlying96 hi0 hz0 hz1 hz2 (by rfl) (by omega) _ 1 [Value.string y1] (by rfl) hown1 ⟨bx, ox + 3, none⟩ 2 2 (([y3, y4] : List ByteArray).map Value.string) (by rfl) (by rfl) hnw (by simp [Value.oneCell']) (by omega) (by unfold maxLen; omega) (by omega) hba _ rfl ?_; intro g6 cap6 w6 ho6 hg6 hat6 hlt6)
        | (go_at_call 94; with_reducible refine (hNu.out g6 cap6 w6 (by exact ho6) (hB6.out w6 (by exact hg6))).mono ?_; rintro e w7 ⟨A7, n7, c7, rfl, ho7, hz7, B7⟩))
    have hB6' := hB6.out w6 hg6
    have hb7 : w7.heap[bx]? = some (.cells csx 9 fzx) := blk_below (blk_below hb4 hB6') B7
    have hB47 := below_next hB6' B7
    have hB17 := below_next hB4 hB47
    clear c2 hc6 hc7 hNu hB6 hown1 hb4a hnw hg6 hat6 hlt6 ho6 hba hb4 c1 hi0 hz0 hz1 hz2 B7 hB6' hbk4 hbl4
    rcases hRS9 : RS9 with _ | ns
    · subst hRS9
      obtain rfl : SP = none := hpar3.out.trans sgFin_no
      have hI2 := hBad.out w7 hB17 rfl
      clear hpar3 hGd ho7 hz7 hRS
      go_wp2
      go_ret
      exact ⟨rfl, hI2⟩
    subst hRS9
    have hl2 : ns.length = 3 := by have h9 := congrArg List.length (numsP_iff.1 hRS).1; simp at h9; omega
    obtain ⟨m0, m1, m2, rfl⟩ : ∃ m0 m1 m2, ns = [m0, m1, m2] := by
      match ns, hl2 with
      | [p0, p1, p2], _ => exact ⟨p0, p1, p2, rfl⟩
    obtain rfl : SP = some ⟨y0, m0, i5, m1, m2, 0⟩ := hpar3.out.trans (sgFin_three hk1 hk)
    obtain rfl : n7 = 3 := by have h9 := ho7.1; simp only [Option.getD_some] at h9; rw [ints_len] at h9; simp at h9; omega
    have hI7 : RI 3 w7 A7 3 [m0, m1, m2] := R1.of_own ho7 (by omega)
    obtain ⟨by_, oy, m0', hA3, hbly, hm0', cy0⟩ := hI7.at_ (k := 0) (by omega)
    subst hA3
    obtain ⟨csy, fzy, hbky, hczy⟩ := hI7.blk (by omega)
    have x0' : w7.cell? ⟨bx, ox, none⟩ = some (.string y0) := by have h8 := cell_of_row w7 bx (ox + 0) csx _ fzx hb7; rw [hcz0] at h8; exact h8
    have u0 : w7.cell? ⟨by_, oy, none⟩ = some (.int .i64 m0) := by have h9 := hczy 0 _ rfl; have h8 := cell_of_row w7 by_ (oy + 0) csy _ fzy hbky; rw [h9] at h8; exact h8
    have u1 : w7.cell? ⟨by_, oy + 1, none⟩ = some (.int .i64 m1) := by have h9 := hczy 1 _ rfl; have h8 := cell_of_row w7 by_ (oy + 1) csy _ fzy hbky; rw [h9] at h8; exact h8
    have u2 : w7.cell? ⟨by_, oy + 2, none⟩ = some (.int .i64 m2) := by have h9 := hczy 2 _ rfl; have h8 := cell_of_row w7 by_ (oy + 2) csy _ fzy hbky; rw [h9] at h8; exact h8
    clear hpar3 ho7 hz7 hI7 hczy hm0' cy0 hl2 hRS hcz hcz0 hcz2
    go_wp2_with fail
    go_region_held3 (fun w' => w'.cell? ⟨bx, ox, none⟩ = some (.string y0) ∧ w'.cell? ⟨by_, oy, none⟩ = some (.int .i64 m0) ∧ w'.cell? ⟨by_, oy + 1, none⟩ = some (.int .i64 m1) ∧ w'.cell? ⟨by_, oy + 2, none⟩ = some (.int .i64 m2)) (first | go_keep | exact ⟨x0', u0, u1, u2⟩) (fail)
    have hI7 := hIb.out w7 hB17
    obtain ⟨u, acc, hbx7, hoA7, haL, hfA⟩ := hI7.ex
    have hfA' := Lib.hid hfA
    have haN : acc.length ≤ 1000000 := by omega
    have hbel7 := hI7.bel
    have y7 : w7.cell? ⟨b, 0, none⟩ = some u := (blk_facts hbx7).1 0
    have hn7 : (w7.alloc (.cells #[.string y0, .int .i64 m0, .int .i64 i5, .int .i64 m1, .int .i64 m2, .int .i64 0] 89)).drew.heap[w7.heap.size]? = some (.cells #[.string y0, .int .i64 m0, .int .i64 i5, .int .i64 m1, .int .i64 m2, .int .i64 0] 89 (0, 0)) := heap_alloc_new w7 _
    have hB78 : Below w7.heap.size w7 (w7.alloc (.cells #[.string y0, .int .i64 m0, .int .i64 i5, .int .i64 m1, .int .i64 m2, .int .i64 0] 89)).drew := below_drewN (below_new w7 _) 1
    have hb7' := lt_of_heap hbx7
    have hn8 := hn7
    have hB8 := hB78
    have hbx8 : (w7.alloc (.cells #[.string y0, .int .i64 m0, .int .i64 i5, .int .i64 m1, .int .i64 m2, .int .i64 0] 89)).drew.heap[b]? = some (.cells #[u] 78 (0, 0)) := blk_below hbx7 hB8
    have ho8 : (w7.alloc (.cells #[.string y0, .int .i64 m0, .int .i64 i5, .int .i64 m1, .int .i64 m2, .int .i64 0] 89)).drew.ownsRow (b + 1) 89 6 u acc.length (acc.flatMap sgE) := own_below hoA7 hB8
    have hbel8 := hbel7.trans (hB8.mono (Nat.le_of_lt hb7'))
    have y8 : (w7.alloc (.cells #[.string y0, .int .i64 m0, .int .i64 i5, .int .i64 m1, .int .i64 m2, .int .i64 0] 89)).drew.cell? ⟨b, 0, none⟩ = some u := (blk_facts hbx8).1 0
    have z80 := (blk_facts hn8).1 0
    have z81 := (blk_facts hn8).1 1
    have z82 := (blk_facts hn8).1 2
    have z83 := (blk_facts hn8).1 3
    have z84 := (blk_facts hn8).1 4
    have z85 := (blk_facts hn8).1 5
    have hz8 : b + 1 ≤ (w7.alloc (.cells #[.string y0, .int .i64 m0, .int .i64 i5, .int .i64 m1, .int .i64 m2, .int .i64 0] 89)).drew.heap.size := lt_of_heap hbx8
    have hFx := Lib.hid (fun (v9 : Value) (w9 : World) (ho9 : w9.ownsRow (b + 1) 89 6 v9 (acc.length + 1) (acc.flatMap sgE ++ sgE ⟨y0, m0, i5, m1, m2, 0⟩)) (hg9 : World.grownBy (w7.alloc (.cells #[.string y0, .int .i64 m0, .int .i64 i5, .int .i64 m1, .int .i64 m2, .int .i64 0] 89)).drew w9 u.ownBlock) => show w9.heap[b]? = some (.cells #[u] 78 (0, 0)) ∧ SgI w b (L ++ [s.data.toList]) (w9.setCell ⟨b, 0, none⟩ v9) from by
      have r9 := blk_grown hbx8 hg9 (fun e => by have := own_row_lt ho8 b e.symm; omega)
      have b9 := below_own hbel8 ho8 hg9 (by omega) (Nat.le_succ b)
      have hB9 := b9.setCell (p := ⟨b, 0, none⟩) (Nat.le_refl _) v9
      exact ⟨r9, hGd.out _ v9 acc ⟨y0, m0, i5, m1, m2, 0⟩ (blk_set r9 0 v9) (own_setT (o := 0) ho9 (Nat.lt_succ_self b) _) haL hfA'.out (fun _ => rfl) (hMxx.out _ hB9) hB9⟩)
    clear hI7 hbx7 hoA7 hfA hn7 hB78 hB8 hbx8 hbel8 hbel7 hn8 hGd hBad hIb hI0 hMxx hb7 hB47 hB17
    go_wp2_with (at_builtin; refine wpList_app (w := (w7.alloc (.cells #[.string y0, .int .i64 m0, .int .i64 i5, .int .i64 m1, .int .i64 m2, .int .i64 0] 89)).drew) rfl (.tmp 67) (.tmp 69) 78 rfl Tryz.underlying78 info_sigG rfl (by omega) (by omega) ho8 rfl rfl (by first | rfl | (simp; done)) rfl (by simp [Value.oneCell']) (by omega) hz8 ?_; intro v9 w9 hown9 hg9; obtain ⟨A9, k9, rfl⟩ := own_shape hown9; obtain ⟨r9, hF9⟩ := hFx.out _ w9 hown9 hg9; have c9 : w9.cell? ⟨b, 0, none⟩ = some u := (blk_facts r9).1 0; have f9 := (blk_facts r9).2 0)
    go_wp2
    go_ret
    exact ⟨rfl, hF9⟩
theorem readSgRef_c (s : ByteArray) (w : World) (hs : s.size ≤ 200000) (hM : Mx w) (hTb : Tb w) (hEx : Ex w) : Calls Tryz.prog 40 #[.string s] w (RetRf RSg sigErr sgParse s.data.toList w) :=
  refReadSg0_c s w hs hM (sgRef_cl w w.heap.size 900000 (by omega) (Nat.le_refl _) hM hTb hEx)
end Go.Proofs.YtnkhdofcmanipaaGreatDoor
