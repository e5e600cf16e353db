/- slices.Concat of any rows of seeds. Printed by wip/mkcons.py out of TxtC. -/
import Derived.Test.YtnkhdofcmanipaaGreatDoorTaOrdC
namespace Go.Proofs.YtnkhdofcmanipaaGreatDoor
open Go.RowKit
set_option linter.unusedVariables false

structure NxS where
  A : Option Addr
  c : Nat
  ids : List Sd
def nxsE (x : NxS) : List Value := [.slice x.A x.ids.length x.c]
theorem nxsE_len : ∀ x, (nxsE x).length = 1 := fun _ => rfl
def RNxS (w : World) (A : Option Addr) (n : Nat) (L : List NxS) : Prop := RN 1 nxsE 26 w A n L ∧ ∀ x ∈ L, RSd w x.A x.ids.length x.ids ∧ (x.A = none → x.c = 0)
theorem RNxS.below {w w' : World} {A : Option Addr} {n : Nat} {L : List NxS} (h : RNxS w A n L) (B : Below w.heap.size w w') : RNxS w' A n L := ⟨h.1.below B, fun x hx => ⟨(h.2 x hx).1.below B, (h.2 x hx).2⟩⟩
theorem RNxS_at {w : World} {A : Option Addr} {n : Nat} {L : List NxS} (h : RNxS w A n L) {k : Nat} (hk : k < n) : ∃ b off x, A = some ⟨b, off, none⟩ ∧ b < w.heap.size ∧ L[k]? = some x ∧ w.cell? ⟨b, off + k, none⟩ = some (.slice x.A x.ids.length x.c) ∧ RSd w x.A x.ids.length x.ids ∧ (x.A = none → x.c = 0) := by
  obtain ⟨b, off, x, hA, hb, hx, hc⟩ := h.1.at_ hk
  exact ⟨b, off, x, hA, hb, hx, by simpa using hc 0 _ rfl, h.2 x (List.mem_of_getElem? hx)⟩
def lenS (L : List NxS) (k : Nat) : Nat := ((L.take k).flatMap NxS.ids).length
theorem lenS_step {L : List NxS} {k : Nat} {x : NxS} (h : L[k]? = some x) : lenS L (k + 1) = lenS L k + x.ids.length := by
  unfold lenS
  rw [List.take_add_one, h, List.flatMap_append, List.length_append]
  simp
theorem lenS_bd {L : List NxS} (h : (L.flatMap NxS.ids).length ≤ 900000) (k : Nat) : lenS L k ≤ 900000 := by
  unfold lenS
  have e : L.flatMap NxS.ids = (L.take k).flatMap NxS.ids ++ (L.drop k).flatMap NxS.ids := by rw [← List.flatMap_append, List.take_append_drop]
  rw [e, List.length_append] at h
  omega
set_option maxHeartbeats 3200000 in
set_option maxRecDepth 100000 in
/-- names joined -/
theorem concatSA_c (A : Option Addr) (n c : Nat) (L : List NxS) (w : World) (h : RNxS w A n L) (hn : n ≤ 300) (hM : (L.flatMap NxS.ids).length ≤ 900000) :
    Calls Tryz.prog 53 #[.slice A n c] w fun e w' => ∃ A' c', e = .returned (.slice A' (L.flatMap NxS.ids).length c') ∧ w'.ownsRow w.heap.size 40 2 (.slice A' (L.flatMap NxS.ids).length c') (L.flatMap NxS.ids).length ((L.flatMap NxS.ids).flatMap sdE) ∧ Below w.heap.size w w' := by
  have hR := Lib.hid (fun W B => h.below (w' := W) B)
  have hl := Lib.hid h.1.len
  have hLt := Lib.hid (lenS_bd hM)
  have hTot := Lib.hid (show lenS L n = (L.flatMap NxS.ids).length by unfold lenS; rw [List.take_of_length_le (by rw [h.1.len]; exact Nat.le_refl _)])
  have hS := Lib.hid (fun k x (hx : L[k]? = some x) => lenS_step hx)
  clear h hM
  go_enter Tryz.func53, Tryz.ntmps53
  go_wp2_with fail
  go_loopw [3, 5, 11] (fun sv _ iv wr => ∃ k : Nat, k ≤ n ∧ iv = .int .i64 k ∧ sv = .int .i64 (lenS L k) ∧ Below w.heap.size w wr) (fun _ _ iv _ => n - (intOf iv).toNat)
  case atStart => exact ⟨0, Nat.zero_le _, rfl, rfl, Below.refl _ _⟩
  case round =>
    rename World => wr
    obtain ⟨k, hk, rfl, rfl, hB⟩ := hrel
    by_cases hlt : k < n
    · obtain ⟨b, off, x, rfl, hbl, hx, c0, _, _⟩ := RNxS_at (hR.out _ hB) hlt
      have hb2 := hLt.out (k + 1)
      rw [hS.out k x hx] at hb2
      have hst' := Lib.hid (hS.out k x hx)
      clear hx
      obtain ⟨A9, c9, ids⟩ := x
      dsimp only at *
      generalize ids.length = q at *
      generalize lenS L k = p at *
      have hq1 : ¬ ((p : Int) + (q : Int) < 0) := by omega
      have e1 : IntKind.i64.wrap ((p : Int) + (q : Int)) = (p : Int) + (q : Int) := IntWalk.i64_in _ (by omega)
      go_wp2
      go_roundw
      case rel => exact ⟨k + 1, by omega, by go_num, by rw [hst'.out, Int.natCast_add], hB⟩
      case measure => simp [intOf]; omega
    · obtain rfl : k = n := by omega
      have hT := hLt.out k
      have hG := Lib.hid (growNilSA_c (lenS L k) wr (Nat.le_trans hT (by decide)))
      go_wp2_with fail
      refine hG.out.mono ?_; rintro e w3 ⟨GA, gc, rfl, hown, B3⟩
      have hown0 := own_mono hown hB.size
      have hB3 := below_next hB B3
      clear hown B3 hB hG
      go_wp2_with fail
      go_loopw [6, 8, 27] (fun u _ iv wr => ∃ j : Nat, j ≤ k ∧ iv = .int .i64 j ∧ wr.ownsRow w.heap.size 40 2 u (lenS L j) (((L.take j).flatMap NxS.ids).flatMap sdE) ∧ Below w.heap.size w wr) (fun _ _ iv _ => k - (intOf iv).toNat)
      case atStart => exact ⟨0, Nat.zero_le _, rfl, hown0, hB3⟩
      case round =>
        clear hown0 hB3
        rename World => wx
        obtain ⟨j, hj, rfl, hown, hB⟩ := hrel
        by_cases hlj : j < k
        · obtain ⟨b, off, x, rfl, hbl, hx, c0, rx, hcx⟩ := RNxS_at (hR.out _ hB) hlj
          have hst' := Lib.hid (hS.out j x hx)
          have hb1 := hLt.out j
          have hb3 := hLt.out (j + 1)
          rw [hst'.out] at hb3
          have hb4 : lenS L j + x.ids.length ≤ 1000000 := Nat.le_trans hb3 (by decide)
          clear hb3 hb1
          have hfl := Lib.hid (show ((L.take (j + 1)).flatMap NxS.ids).flatMap sdE = ((L.take j).flatMap NxS.ids).flatMap sdE ++ x.ids.flatMap sdE by
            rw [List.take_add_one, hx, List.flatMap_append, List.flatMap_append]; simp)
          clear hx
          obtain ⟨A9, c9, ids⟩ := x
          dsimp only at *
          have hz := hB.size
          go_wp2_with (at_builtin; refine wpList_appR rfl (.tmp 31) (.tmp 32) 26 rfl Tryz.underlying26 info_seed rfl (by omega) (by omega) hown rfl hcx (seed_src rx) rfl (by rw [flat_len sdE_len]) (seeds_one ids) hb4 hz ?_; intro v4 w4 hown4 hg4)
          have hB4 := below_own hB hown hg4 hz (Nat.le_refl _)
          go_wp2
          go_roundw
          case rel => exact ⟨j + 1, by omega, by go_num, by rw [hst'.out, hfl.out]; exact hown4, hB4⟩
          case measure => simp [intOf]; omega
        · obtain rfl : j = k := by omega
          obtain ⟨A9, c9, rfl⟩ := own_shape hown
          have hfin : wx.ownsRow w.heap.size 40 2 (.slice A9 (L.flatMap NxS.ids).length c9) (L.flatMap NxS.ids).length ((L.flatMap NxS.ids).flatMap sdE) := by
            rw [List.take_of_length_le (by rw [hl.out]; exact Nat.le_refl _), hTot.out] at hown
            exact hown
          rw [hTot.out]
          clear hown
          go_wp2
          go_ret
          exact ⟨A9, c9, rfl, hfin, hB⟩
end Go.Proofs.YtnkhdofcmanipaaGreatDoor
