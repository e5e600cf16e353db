/- race.Read and the reference's SwimsRead of any text. Printed by wip/mkty.py. -/
import Derived.Test.YtamcmehmcbjgjaaGreatDoorTxtX
namespace Go.Proofs.YtamcmehmcbjgjaaGreatDoor
open Go.RowKit Go.Lib
set_option linter.unusedVariables false

theorem fieldGo_dat (r : Race) : ∀ (p : Option ByteArray) (l l' : List Sw), l.map swD = l'.map swD → fieldGo r p l = fieldGo r p l'
  | p, [], [], _ => rfl
  | p, [], y :: l', h => by simp at h
  | p, x :: l, [], h => by simp at h
  | p, x :: l, y :: l', h => by
    simp only [List.map_cons, List.cons.injEq] at h
    have h1 : x.who = y.who := congrArg Prod.fst h.1
    have h2 : x.sp = y.sp := congrArg Prod.snd h.1
    have ih := fieldGo_dat r (some y.who) l l' h.2
    unfold fieldGo
    rw [h1, h2, ih]
theorem fieldErr_dat (r : Race) {l l' : List Sw} (h : l.map swD = l'.map swD) : fieldErr r l = fieldErr r l' := by
  have hl : l.length = l'.length := by have := congrArg List.length h; simpa using this
  unfold fieldErr
  rw [hl, fieldGo_dat r none l l' h]
/-- what the readers of a field hand back -/
def RetRd (r : Race) (t : List UInt8) (w : World) (e : Ending) (w' : World) : Prop := Below w.heap.size w w' ∧
  ((raceErr r ≠ 0 ∧ e = .returned (.tuple #[.slice none 0 0, .int .i64 0, .int .i64 (raceErr r)])) ∨
   (raceErr r = 0 ∧ (fdRd t).2.2 = false ∧ e = .returned (.tuple #[.slice none 0 0, .int .i64 (fdRd t).2.1, .int .i64 9])) ∨
   (raceErr r = 0 ∧ (fdRd t).2.2 = true ∧ ∃ acc : List Sw, acc.map swD = fdRecs t ∧
     ((fieldErr r acc ≠ 0 ∧ e = .returned (.tuple #[.slice none 0 0, .int .i64 0, .int .i64 (fieldErr r acc)])) ∨
      (fieldErr r acc = 0 ∧ ∃ A n c, e = .returned (.tuple #[.slice A n c, .int .i64 0, .int .i64 0]) ∧ RSw w' A n acc))))
theorem FdI.start {w : World} (hM : Mx w) : FdI w w.heap.size [] (w.alloc (.cells #[.slice none 0 0] 28)) :=
  ⟨⟨.slice none 0 0, [], heap_alloc_new w _, World.ownsRow_nil _ _ _ _, (fun x hx => by cases hx), Nat.le_refl _, fun _ => rfl⟩, hM.below (below_new w _), below_new w _⟩
theorem FdI.out {w W : World} {b : Nat} {L : List (List UInt8)} (h : FdI w b L W) (hL : L.length ≤ 1000000) : ∃ A n c acc, W.heap[b]? = some (.cells #[.slice A n c] 28 (0, 0)) ∧ RSw W A n acc ∧ ((∀ a ∈ L, fdOk a = true) → acc.map swD = L.filterMap fdParse) := by
  obtain ⟨u, acc, h1, h2, h3, h4, h5⟩ := h.ex
  obtain ⟨A, c, rfl⟩ := own_shape h2
  exact ⟨A, acc.length, c, acc, h1, ⟨RN.of_own swE_len h2 rfl (by omega), fun x hx => R1.of_own (h3 x hx).1 (by have := (h3 x hx).2; omega)⟩, h5⟩
set_option maxHeartbeats 6400000 in
set_option maxRecDepth 100000 in
theorem read_c (r : Race) (s : ByteArray) (w : World) (hs : s.size ≤ 200000) (hM : Mx w) : Calls Tryz.prog 12 #[r.val, .string s] w (RetRd r s.data.toList w) := by
  have hOut := Lib.hid (fun e w' => show RetRd r s.data.toList w e w' ↔ RetRd r s.data.toList w e w' from Iff.rfl)
  have hCR := Lib.hid (fun W => checkRace_c r W)
  have hCF := Lib.hid (fun A n c l W h => checkField_c r A n c l W h)
  have hLi := Lib.hid (fun (W : World) (hM : Mx W) => wordsLines_c (readCl_c W W.heap.size 900000 (by omega) (Nat.le_refl _) hM ) s (W.alloc (.cells #[.slice none 0 0] 28)) (FdI.start hM) (by omega) (by omega))
  have hAll := Lib.hid (lnR_all fdOk s.data.toList.length s.data.toList (Nat.le_refl _))
  have hIx := Lib.hid (lnR_idx fdOk s.data.toList.length s.data.toList (Nat.le_refl _)).2
  have hzs := Lib.hid (Lib.size_eq s)
  have hR1 := Lib.hid (fun e w' (B : Below w.heap.size w w') (h : raceErr r ≠ 0) (he : e = .returned (.tuple #[.slice none 0 0, .int .i64 0, .int .i64 (raceErr r)])) => show RetRd r s.data.toList w e w' from ⟨B, .inl ⟨h, he⟩⟩)
  have hR2 := Lib.hid (fun e w' (B : Below w.heap.size w w') (h : raceErr r = 0) (h2 : (lnR fdOk s.data.toList).2.2 = false) (he : e = .returned (.tuple #[.slice none 0 0, .int .i64 (lnR fdOk s.data.toList).2.1, .int .i64 9])) => show RetRd r s.data.toList w e w' from ⟨B, .inr (.inl ⟨h, h2, he⟩)⟩)
  have hR3 := Lib.hid (fun e w' (acc : List Sw) (B : Below w.heap.size w w') (h : raceErr r = 0) (h2 : (lnR fdOk s.data.toList).2.2 = true) (h3 : acc.map swD = (lnR fdOk s.data.toList).1.filterMap fdParse) (h4 : fieldErr r acc ≠ 0) (he : e = .returned (.tuple #[.slice none 0 0, .int .i64 0, .int .i64 (fieldErr r acc)])) => show RetRd r s.data.toList w e w' from ⟨B, .inr (.inr ⟨h, h2, acc, h3, .inl ⟨h4, he⟩⟩)⟩)
  have hR4 := Lib.hid (fun e w' (acc : List Sw) (A : Option Addr) (n c : Nat) (B : Below w.heap.size w w') (h : raceErr r = 0) (h2 : (lnR fdOk s.data.toList).2.2 = true) (h3 : acc.map swD = (lnR fdOk s.data.toList).1.filterMap fdParse) (h4 : fieldErr r acc = 0) (he : e = .returned (.tuple #[.slice A n c, .int .i64 0, .int .i64 0])) (h5 : RSw w' A n acc) => show RetRd r s.data.toList w e w' from ⟨B, .inr (.inr ⟨h, h2, acc, h3, .inr ⟨h4, A, n, c, he, h5⟩⟩)⟩)
  generalize RetRd r s.data.toList w = RD at *
  generalize lnR fdOk s.data.toList = LN at *
  generalize hRE : raceErr r = RE at *
  have hRE' := Lib.hid hRE
  generalize hFE : fieldErr r = FE at *
  clear hOut hRE hFE
  have hb0 := heap_alloc_new w (.cells r.cells 27)
  have hB0 := below_new w (.cells r.cells 27)
  obtain ⟨key, metres, stroke, course, legs, sex, young, old⟩ := r
  dsimp only [Race.val, Race.cells] at *
  have z := (blk_facts hb0).1
  have z0 := z 0
  have z1 := z 1
  have z2 := z 2
  have z3 := z 3
  have z4 := z 4
  have z5 := z 5
  have z6 := z 6
  have z7 := z 7
  clear z
  go_enter Tryz.func12, Tryz.ntmps12
  go_wp2_with fail
  refine (hCR.out _).mono ?_; rintro e w1 ⟨rfl, B1⟩
  have hB1 := below_next hB0 B1
  have hb1 := blk_below hb0 B1
  clear hCR B1 hB0 hb0 z0 z1 z2 z3 z4 z5 z6 z7
  by_cases h0 : RE = 0
  rotate_left
  · have hd : (RE != 0) = true := by simpa using h0
    have hR1' := Lib.hid (fun e he => hR1.out e w1 hB1 h0 he)
    clear h0 hR1 hR2 hR3 hR4 hLi
    go_wp2
    go_ret3
    exact hR1'.out _ rfl
  subst h0
  have hE0 := Lib.hid (rfl : (0 : Int) = 0)
  have hs3 : ¬ (200000 : Int) < s.size := by omega
  have hMx1 := hM.below hB1
  have hL1 := Lib.hid (hLi.out w1 hMx1 )
  have hbx1 := Nat.lt_of_lt_of_le (lt_of_heap hb1) (Nat.le_refl _)
  have hb1' := Lib.hid (fun W (B : Below w1.heap.size w1 W) => blk_below hb1 B)
  have hB1' := Lib.hid (fun W (B : Below w1.heap.size w1 W) => below_next hB1 B)
  clear hLi hb1 hB1 hMx1 hM
  go_wp2_with fail
  refine hL1.out.mono ?_; rintro e w3 ⟨rfl, hI⟩
  have hB3 := hI.bel
  have hb3 := hb1'.out _ hB3
  have hB3' := hB1'.out _ hB3
  clear hL1
  cases hok : LN.2.2
  · have hR2' := Lib.hid (fun e he => hR2.out e w3 hB3' (by first | rfl | exact hE0.out) hok he)
    clear hok hR2 hR3 hR4 hI
    generalize LN.2.1 = IX at *
    go_wp2
    go_ret3
    exact hR2'.out _ rfl
  · have hcnt : LN.1.length ≤ 1000000 := by have := hIx.out; have := hzs.out; omega
    obtain ⟨A, n, c, acc, hbx, hrs, hdat⟩ := hI.out hcnt
    have hD := hdat (fun a ha => ((hAll.out hok).2 a ha).1)
    have hR3' := Lib.hid (fun e w' B h4 he => hR3.out e w' acc B (by first | rfl | exact hE0.out) hok hD h4 he)
    have hR4' := Lib.hid (fun e w' B h4 he h5 => hR4.out e w' acc A n c B (by first | rfl | exact hE0.out) hok hD h4 he h5)
    have z0 := (blk_facts hb3).1 0
    have z1 := (blk_facts hb3).1 1
    have z2 := (blk_facts hb3).1 2
    have z3 := (blk_facts hb3).1 3
    have z4 := (blk_facts hb3).1 4
    have z5 := (blk_facts hb3).1 5
    have z6 := (blk_facts hb3).1 6
    have z7 := (blk_facts hb3).1 7
    have y0 := (blk_facts hbx).1 0
    have hCf := Lib.hid (hCF.out A n c acc w3 hrs)
    have hbx' := Lib.hid (fun W (B : Below w3.heap.size w3 W) => show W.cell? ⟨w1.heap.size, 0, none⟩ = some (.slice A n c) from (blk_facts (blk_below hbx B)).1 0)
    have hrs' := Lib.hid (fun W (B : Below w3.heap.size w3 W) => hrs.below B)
    obtain ⟨E, hE⟩ : ∃ E, FE acc = E := ⟨_, rfl⟩
    rw [hE] at hCf hR3' hR4'
    clear hok hR1 hR2 hR3 hR4 hI hAll hIx hcnt hD hdat hbx hrs hb3 hb1' hB1' hE hCF
    go_wp2_with fail
    refine hCf.out.mono ?_; rintro e w4 ⟨rfl, B4⟩
    have hB4 := below_next hB3' B4
    have y0' := hbx'.out _ B4
    have hrs4 := hrs'.out _ B4
    clear hCf z0 z1 z2 z3 z4 z5 z6 z7 y0 hbx' hrs' B4
    by_cases h4 : E = 0
    · subst h4
      have hFin := Lib.hid (fun e he => hR4'.out e w4 hB4 (by first | rfl | trivial) he hrs4)
      clear hR3' hR4' hrs4
      go_wp2
      go_ret3
      exact hFin.out _ rfl
    · have hd : (E != 0) = true := by simpa using h4
      have hFin := Lib.hid (fun e he => hR3'.out e w4 hB4 h4 he)
      clear hR3' hR4' h4 hrs4
      go_wp2
      go_ret3
      exact hFin.out _ rfl
set_option maxHeartbeats 6400000 in
set_option maxRecDepth 100000 in
theorem swimsRead_c (r : Race) (s : ByteArray) (w : World) (hs : s.size ≤ 200000) (hM : Mx w) (hTb : Tb w) (hEx : Ex w) (h00 : raceErr r = 0) : Calls Tryz.prog 15 #[r.val, .string s] w (RetRd r s.data.toList w) := by
  have hOut := Lib.hid (fun e w' => show RetRd r s.data.toList w e w' ↔ RetRd r s.data.toList w e w' from Iff.rfl)
  have hCR := Lib.hid (fun W => checkRace_c r W)
  have hCF := Lib.hid (fun A n c l W h => fieldFault_c r A n c l W h h00)
  have hLi := Lib.hid (fun (W : World) (hM : Mx W) (hTb : Tb W) (hEx : Ex W) => refLines_c (refCl_c W W.heap.size 900000 (by omega) (Nat.le_refl _) hM hTb hEx) s (W.alloc (.cells #[.slice none 0 0] 28)) (FdI.start hM) (by omega) (by omega))
  have hAll := Lib.hid (lnR_all fdOk s.data.toList.length s.data.toList (Nat.le_refl _))
  have hIx := Lib.hid (lnR_idx fdOk s.data.toList.length s.data.toList (Nat.le_refl _)).2
  have hzs := Lib.hid (Lib.size_eq s)
  have hR1 := Lib.hid (fun e w' (B : Below w.heap.size w w') (h : raceErr r ≠ 0) (he : e = .returned (.tuple #[.slice none 0 0, .int .i64 0, .int .i64 (raceErr r)])) => show RetRd r s.data.toList w e w' from ⟨B, .inl ⟨h, he⟩⟩)
  have hR2 := Lib.hid (fun e w' (B : Below w.heap.size w w') (h : raceErr r = 0) (h2 : (lnR fdOk s.data.toList).2.2 = false) (he : e = .returned (.tuple #[.slice none 0 0, .int .i64 (lnR fdOk s.data.toList).2.1, .int .i64 9])) => show RetRd r s.data.toList w e w' from ⟨B, .inr (.inl ⟨h, h2, he⟩)⟩)
  have hR3 := Lib.hid (fun e w' (acc : List Sw) (B : Below w.heap.size w w') (h : raceErr r = 0) (h2 : (lnR fdOk s.data.toList).2.2 = true) (h3 : acc.map swD = (lnR fdOk s.data.toList).1.filterMap fdParse) (h4 : fieldErr r acc ≠ 0) (he : e = .returned (.tuple #[.slice none 0 0, .int .i64 0, .int .i64 (fieldErr r acc)])) => show RetRd r s.data.toList w e w' from ⟨B, .inr (.inr ⟨h, h2, acc, h3, .inl ⟨h4, he⟩⟩)⟩)
  have hR4 := Lib.hid (fun e w' (acc : List Sw) (A : Option Addr) (n c : Nat) (B : Below w.heap.size w w') (h : raceErr r = 0) (h2 : (lnR fdOk s.data.toList).2.2 = true) (h3 : acc.map swD = (lnR fdOk s.data.toList).1.filterMap fdParse) (h4 : fieldErr r acc = 0) (he : e = .returned (.tuple #[.slice A n c, .int .i64 0, .int .i64 0])) (h5 : RSw w' A n acc) => show RetRd r s.data.toList w e w' from ⟨B, .inr (.inr ⟨h, h2, acc, h3, .inr ⟨h4, A, n, c, he, h5⟩⟩)⟩)
  generalize RetRd r s.data.toList w = RD at *
  generalize lnR fdOk s.data.toList = LN at *
  generalize hRE : raceErr r = RE at *
  have hRE' := Lib.hid hRE
  generalize hFE : fieldErr r = FE at *
  clear hOut hRE hFE
  have hs3 : ¬ (200000 : Int) < s.size := by omega
  have hb0 := heap_alloc_new w (.cells r.cells 27)
  have hB0 := below_new w (.cells r.cells 27)
  obtain ⟨key, metres, stroke, course, legs, sex, young, old⟩ := r
  dsimp only [Race.val, Race.cells] at *
  have z := (blk_facts hb0).1
  have z0 := z 0
  have z1 := z 1
  have z2 := z 2
  have z3 := z 3
  have z4 := z 4
  have z5 := z 5
  have z6 := z 6
  have z7 := z 7
  clear z
  go_enter Tryz.func15, Tryz.ntmps15
  go_wp2_with fail
  have he1 : (w.alloc (.cells #[.string key, .int .i64 metres, .int .i64 stroke, .int .i64 course, .int .i64 legs, .int .i64 sex, .int .i64 young, .int .i64 old] 27)).heap.size = w.heap.size + 1 := by simp
  have hTb1 := hTb.below hB0
  have hEx1 := hEx.below hB0
  have hB1 := hB0
  have hb1 := hb0
  clear hCR hB0 hb0 z0 z1 z2 z3 z4 z5 z6 z7 hTb hEx
  generalize w.alloc (.cells #[.string key, .int .i64 metres, .int .i64 stroke, .int .i64 course, .int .i64 legs, .int .i64 sex, .int .i64 young, .int .i64 old] 27) = w1 at *
  rw [← he1]
  clear he1
  subst h00
  have hE0 := Lib.hid (rfl : (0 : Int) = 0)
  have hMx1 := hM.below hB1
  have hL1 := Lib.hid (hLi.out w1 hMx1 hTb1 hEx1)
  have hbx1 := Nat.lt_of_lt_of_le (lt_of_heap hb1) (Nat.le_refl _)
  have hb1' := Lib.hid (fun W (B : Below w1.heap.size w1 W) => blk_below hb1 B)
  have hB1' := Lib.hid (fun W (B : Below w1.heap.size w1 W) => below_next hB1 B)
  clear hLi hb1 hB1 hMx1 hM
  refine hL1.out.mono ?_; rintro e w3 ⟨rfl, hI⟩
  have hB3 := hI.bel
  have hb3 := hb1'.out _ hB3
  have hB3' := hB1'.out _ hB3
  clear hL1
  cases hok : LN.2.2
  · have hR2' := Lib.hid (fun e he => hR2.out e w3 hB3' (by first | rfl | exact hE0.out) hok he)
    clear hok hR2 hR3 hR4 hI
    generalize LN.2.1 = IX at *
    go_wp2
    go_ret3
    exact hR2'.out _ rfl
  · have hcnt : LN.1.length ≤ 1000000 := by have := hIx.out; have := hzs.out; omega
    obtain ⟨A, n, c, acc, hbx, hrs, hdat⟩ := hI.out hcnt
    have hD := hdat (fun a ha => ((hAll.out hok).2 a ha).1)
    have hR3' := Lib.hid (fun e w' B h4 he => hR3.out e w' acc B (by first | rfl | exact hE0.out) hok hD h4 he)
    have hR4' := Lib.hid (fun e w' B h4 he h5 => hR4.out e w' acc A n c B (by first | rfl | exact hE0.out) hok hD h4 he h5)
    have z0 := (blk_facts hb3).1 0
    have z1 := (blk_facts hb3).1 1
    have z2 := (blk_facts hb3).1 2
    have z3 := (blk_facts hb3).1 3
    have z4 := (blk_facts hb3).1 4
    have z5 := (blk_facts hb3).1 5
    have z6 := (blk_facts hb3).1 6
    have z7 := (blk_facts hb3).1 7
    have y0 := (blk_facts hbx).1 0
    have hCf := Lib.hid (hCF.out A n c acc w3 hrs)
    have hbx' := Lib.hid (fun W (B : Below w3.heap.size w3 W) => show W.cell? ⟨w1.heap.size, 0, none⟩ = some (.slice A n c) from (blk_facts (blk_below hbx B)).1 0)
    have hrs' := Lib.hid (fun W (B : Below w3.heap.size w3 W) => hrs.below B)
    obtain ⟨E, hE⟩ : ∃ E, FE acc = E := ⟨_, rfl⟩
    rw [hE] at hCf hR3' hR4'
    clear hok hR1 hR2 hR3 hR4 hI hAll hIx hcnt hD hdat hbx hrs hb3 hb1' hB1' hE hCF
    go_wp2_with fail
    refine hCf.out.mono ?_; rintro e w4 ⟨rfl, B4⟩
    have hB4 := below_next hB3' B4
    have y0' := hbx'.out _ B4
    have hrs4 := hrs'.out _ B4
    clear hCf z0 z1 z2 z3 z4 z5 z6 z7 y0 hbx' hrs' B4
    by_cases h4 : E = 0
    · subst h4
      have hFin := Lib.hid (fun e he => hR4'.out e w4 hB4 (by first | rfl | trivial) he hrs4)
      clear hR3' hR4' hrs4
      go_wp2
      go_ret3
      exact hFin.out _ rfl
    · have hd : (E != 0) = true := by simpa using h4
      have hFin := Lib.hid (fun e he => hR3'.out e w4 hB4 h4 he)
      clear hR3' hR4' h4 hrs4
      go_wp2
      go_ret3
      exact hFin.out _ rfl
end Go.Proofs.YtamcmehmcbjgjaaGreatDoor
