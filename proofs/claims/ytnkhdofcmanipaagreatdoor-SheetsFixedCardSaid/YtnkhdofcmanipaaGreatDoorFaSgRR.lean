/- tumbref1.SignalsRead, its closure as a hypothesis. Printed by wip/mksgrr.py out of TxtK. -/
import Derived.Test.YtnkhdofcmanipaaGreatDoorFaTxtK
namespace Go.Proofs.YtnkhdofcmanipaaGreatDoor
open Go.RowKit Go.Lib Go.Shelf
set_option linter.unusedVariables false

set_option maxHeartbeats 6400000 in
set_option maxRecDepth 100000 in
theorem refReadSg0_c (s : ByteArray) (w : World) (hs : s.size ≤ 200000) (hM : Mx w) (hcl : TakeL 900000 90 #[.pointer (some ⟨w.heap.size, 0, none⟩)] (fun a => (sgParse a).isSome) (SgI w w.heap.size)) : Calls Tryz.prog 40 #[.string s] w (RetRf RSg sigErr sgParse s.data.toList w) := by
  have hCF := Lib.hid (fun A n c l W h => signalsFault_c A n c l W h)
  have hL1 := Lib.hid (refLines_c hcl s (w.alloc (.cells #[.slice none 0 0] 78)) (TkI.start hM) (by omega) (by omega))
  have hAll := Lib.hid (lnR_all (fun a => (sgParse a).isSome) s.data.toList.length s.data.toList (Nat.le_refl _))
  have hIx := Lib.hid (lnR_idx (fun a => (sgParse a).isSome) s.data.toList.length s.data.toList (Nat.le_refl _)).2
  have hzs := Lib.hid (Lib.size_eq s)
  have hR2 := Lib.hid (fun e w' (B : Below w.heap.size w w') (h2 : (lnR (fun a => (sgParse a).isSome) s.data.toList).2.2 = false) (he : e = .returned (.tuple #[.slice none 0 0, .int .i64 (lnR (fun a => (sgParse a).isSome) s.data.toList).2.1, .int .i64 9])) => show RetRf RSg sigErr sgParse s.data.toList w e w' from ⟨B, .inl ⟨h2, he⟩⟩)
  have hR3 := Lib.hid (fun e w' (B : Below w.heap.size w w') (h2 : (lnR (fun a => (sgParse a).isSome) s.data.toList).2.2 = true) (h4 : sigErr ((lnR (fun a => (sgParse a).isSome) s.data.toList).1.filterMap sgParse) ≠ 0) (he : e = .returned (.tuple #[.slice none 0 0, .int .i64 0, .int .i64 (sigErr ((lnR (fun a => (sgParse a).isSome) s.data.toList).1.filterMap sgParse))])) => show RetRf RSg sigErr sgParse s.data.toList w e w' from ⟨B, .inr ⟨h2, .inl ⟨h4, he⟩⟩⟩)
  have hR4 := Lib.hid (fun e w' (A : Option Addr) (n c : Nat) (B : Below w.heap.size w w') (h2 : (lnR (fun a => (sgParse a).isSome) s.data.toList).2.2 = true) (h4 : sigErr ((lnR (fun a => (sgParse a).isSome) s.data.toList).1.filterMap sgParse) = 0) (he : e = .returned (.tuple #[.slice A n c, .int .i64 0, .int .i64 0])) (h5 : RSg w' A n ((lnR (fun a => (sgParse a).isSome) s.data.toList).1.filterMap sgParse)) => show RetRf RSg sigErr sgParse s.data.toList w e w' from ⟨B, .inr ⟨h2, .inr ⟨h4, A, n, c, he, h5⟩⟩⟩)
  clear hcl
  generalize RetRf RSg sigErr sgParse s.data.toList w = RD at *
  unfold RetLn at hL1
  generalize lnR (fun a => (sgParse a).isSome) s.data.toList = LN at *
  generalize sigErr = FE at *
  have hs3 : ¬ (200000 : Int) < s.size := by omega
  go_enter Tryz.func40, Tryz.ntmps40
  go_wp2_with fail
  refine hL1.out.mono ?_; rintro e w3 ⟨rfl, hI⟩
  have hB3' := hI.bel
  clear hL1
  cases hok : LN.2.2
  · have hR2' := Lib.hid (fun e he => hR2.out e w3 hB3' hok he)
    clear hok hR2 hR3 hR4 hI
    generalize LN.2.1 = IX at *
    go_wp2
    go_ret3
    exact hR2'.out _ rfl
  · have hcnt : LN.1.length ≤ 1000000 := by have := hIx.out; have := hzs.out; omega
    obtain ⟨A, n, c, acc, hbx, hrs, hdat⟩ := hI.out sgE_len hcnt
    obtain rfl := hdat (fun a ha => ((hAll.out hok).2 a ha).1)
    have hR3' := Lib.hid (fun e w' B h4 he => hR3.out e w' B hok h4 he)
    have hR4' := Lib.hid (fun e w' B h4 he h5 => hR4.out e w' A n c B hok h4 he h5)
    have y0 := (blk_facts hbx).1 0
    have hCf := Lib.hid (hCF.out A n c _ w3 hrs)
    have hbx' := Lib.hid (fun W (B : Below w3.heap.size w3 W) => show W.cell? ⟨w.heap.size, 0, none⟩ = some (.slice A n c) from (blk_facts (blk_below hbx B)).1 0)
    have hrs' := Lib.hid (fun W (B : Below w3.heap.size w3 W) => hrs.below B)
    generalize LN.1.filterMap sgParse = acc at *
    obtain ⟨E, hE⟩ : ∃ E, FE acc = E := ⟨_, rfl⟩
    rw [hE] at hCf hR3' hR4'
    clear hok hR2 hR3 hR4 hI hAll hIx hcnt hdat hbx hrs hE hCF
    go_wp2_with fail
    refine hCf.out.mono ?_; rintro e w4 ⟨rfl, B4⟩
    have hB4 := below_next hB3' B4
    have y0' := hbx'.out _ B4
    have hrs4 := hrs'.out _ B4
    clear hCf y0 hbx' hrs' B4
    by_cases h4 : E = 0
    · subst h4
      have hFin := Lib.hid (fun e he => hR4'.out e w4 hB4 (by first | rfl | trivial) he hrs4)
      clear hR3' hR4' hrs4
      go_wp2
      go_ret3
      exact hFin.out _ rfl
    · have hd : (E != 0) = true := by simpa using h4
      have hFin := Lib.hid (fun e he => hR3'.out e w4 hB4 h4 he)
      clear hR3' hR4' h4 hrs4
      go_wp2
      go_ret3
      exact hFin.out _ rfl
end Go.Proofs.YtnkhdofcmanipaaGreatDoor
