/- Words joined to one row, however many: slices.Concat. -/
import Derived.Test.YtnkhdofcmanipaaGreatDoorFaApp2
import Derived.Test.YtnkhdofcmanipaaGreatDoorFaTxtI
import Derived.Laws.AppendOwnNone
import Derived.Lib.AppendZeros
namespace Go.Proofs.YtnkhdofcmanipaaGreatDoor
open Go.RowKit Go.Shelf Go.Lib Go.Sort
set_option linter.unusedVariables false

section
variable {P : Program} {w : World}
theorem wpList_zerosT {ops : Array Oper} {rest : List Oper} {o : Oper} {a : Act} {Q : Exit → Act → World → Prop} (hgd : o.guard = none) (s x : Operand) (t tn : TypeId)
    (ho : o.op = .call { callee := .builtin .append, args := #[s, x], argTypes := #[t, tn] })
    {e : TypeId} {z : Value} {size bytes : Nat} (ht : P.underlying t = some (.slice e)) (htn : P.underlying tn = some (.int .i64)) (hinfo : (P.info? e).map (fun i => (i.zero, i.size, i.bytes)) = some (some z, size, bytes))
    (n : Nat) (h0 : 0 < n) (hsz : 0 < size) (hn : n ≤ 1000000) (hby : bytes ≤ 1024) (hs : a.eval s = .slice none 0 0) (hx : a.eval x = .int .i64 n)
    (h : ∀ cap, n ≤ cap → cap ≤ maxLen → wpList P ops Q rest (a.put o.dst (.slice (some ⟨w.heap.size, 0, none⟩) n cap)) (w.drew.alloc (.cells (Builtin.zeroCells z.cells n ++ Builtin.zeroCells z.cells (cap - n)) e))) :
    wpList P ops Q (o :: rest) a w := by
  obtain ⟨i, hi, hz0, hz1, hz2⟩ := info_parts hinfo
  have hm : n * bytes ≤ 1000000 * 1024 := Nat.mul_le_mul hn hby
  refine wpList_plain hgd fun K hK => ?_
  have hr := Lib.run_append_nil_zeros (P := P) w t tn o.type e i z .i64 .i64 ht htn hi hz0 n h0 (by rw [hz1]; exact hsz) (by omega) (by rw [hz2]; omega)
  unfold Oper.wp execOp
  simp only [ho, resolve, invoke, builtin, Sem.run_bind, Sem.run_pure, Result.andThen_ok, List.map_toArray, List.map_cons, List.map_nil, hs, hx, hr]
  exact hK _ _ (h _ (grownCap_ge _ _ _ _) (grownCap_le_maxLen _ _ _ _ (by unfold maxLen; omega)))
end
/-- names that lie in a row of slices -/
structure NxT where
  A : Option Addr
  c : Nat
  ids : List ByteArray
def nxtE (x : NxT) : List Value := [.slice x.A x.ids.length x.c]
theorem nxtE_len : ∀ x, (nxtE x).length = 1 := fun _ => rfl
def RNxT (w : World) (A : Option Addr) (n : Nat) (L : List NxT) : Prop := RN 1 nxtE 96 w A n L ∧ ∀ x ∈ L, RS 9 w x.A x.ids.length x.ids ∧ (x.A = none → x.c = 0)
theorem RNxT.below {w w' : World} {A : Option Addr} {n : Nat} {L : List NxT} (h : RNxT w A n L) (B : Below w.heap.size w w') : RNxT w' A n L := ⟨h.1.below B, fun x hx => ⟨(h.2 x hx).1.below B, (h.2 x hx).2⟩⟩
theorem RNxT_at {w : World} {A : Option Addr} {n : Nat} {L : List NxT} (h : RNxT w A n L) {k : Nat} (hk : k < n) : ∃ b off x, A = some ⟨b, off, none⟩ ∧ b < w.heap.size ∧ L[k]? = some x ∧ w.cell? ⟨b, off + k, none⟩ = some (.slice x.A x.ids.length x.c) ∧ RS 9 w x.A x.ids.length x.ids ∧ (x.A = none → x.c = 0) := by
  obtain ⟨b, off, x, hA, hb, hx, hc⟩ := h.1.at_ hk
  exact ⟨b, off, x, hA, hb, hx, by simpa using hc 0 _ rfl, h.2 x (List.mem_of_getElem? hx)⟩
theorem growT_c (n : Nat) (w : World) (h0 : 0 < n) (hn : n ≤ 1000000) :
    Calls Tryz.prog 156 #[.slice none 0 0, .int .i64 n] w fun e w' => ∃ A c, e = .returned (.slice A 0 c) ∧ w'.ownsRow w.heap.size 9 1 (.slice A 0 c) 0 [] ∧ Below w.heap.size w w' := by
  have h1 : ¬ ((n : Int) < 0) := by omega
  have h2 : (0 : Int) < (n : Int) := by omega
  have h3 : IntKind.i64.wrap ((n : Int)) = (n : Int) := IntWalk.i64_in _ (by omega)
  go_enter Tryz.func156, Tryz.ntmps156
  go_wp2_with (at_builtin; refine wpList_zerosT rfl (.tmp 20) (.tmp 21) 96 3 rfl Tryz.underlying96 Tryz.underlying3 info_strT n h0 (by omega) hn (by omega) (by rfl) (by rfl) ?_; intro cap hc1 hc2)
  go_ret
  refine ⟨_, cap, rfl, ⟨rfl, .inr ⟨w.heap.size, cap, _, rfl, Nat.le_refl _, heap_alloc_new w.drew _, Nat.zero_le _, hc2, ?_, by simp⟩⟩, below_drewN (below_new w _) 1⟩
  rw [Array.size_append, size_zeroCells, size_zeroCells]
  show n * 1 + (cap - n) * 1 = cap * 1
  omega
theorem growT0_c (w : World) :
    Calls Tryz.prog 156 #[.slice none 0 0, .int .i64 0] w fun e w' => ∃ A c, e = .returned (.slice A 0 c) ∧ w'.ownsRow w.heap.size 9 1 (.slice A 0 c) 0 [] ∧ Below w.heap.size w w' := by
  go_enter Tryz.func156, Tryz.ntmps156
  go_wp2
  go_ret
  exact ⟨none, 0, rfl, World.ownsRow_nil _ _ _ _, Below.refl _ _⟩
theorem growTA_c (n : Nat) (w : World) (hn : n ≤ 1000000) :
    Calls Tryz.prog 156 #[.slice none 0 0, .int .i64 n] w fun e w' => ∃ A c, e = .returned (.slice A 0 c) ∧ w'.ownsRow w.heap.size 9 1 (.slice A 0 c) 0 [] ∧ Below w.heap.size w w' := by
  rcases Nat.eq_zero_or_pos n with h | h
  · subst h; exact growT0_c w
  · exact growT_c n w h hn
theorem srcT {w : World} {A : Option Addr} {n : Nat} {l : List ByteArray} (h : RS 9 w A n l) (hp : 0 < n) : ∃ b off, A = some ⟨b, off, none⟩ ∧ ∀ j u, (l.map Value.string)[j]? = some u → w.cell? ⟨b, off + j, none⟩ = some u := by
  obtain ⟨b, off, cs, fz, hA, hbk, hc⟩ := h.2.2 hp
  refine ⟨b, off, hA, fun j u hu => ?_⟩
  rw [List.getElem?_map] at hu
  cases hx : l[j]? with
  | none => rw [hx] at hu; cases hu
  | some x =>
    rw [hx] at hu
    obtain rfl := Option.some.inj hu
    rw [cell_of_row w b _ cs _ fz hbk]
    exact hc j x hx
theorem oneT (l : List ByteArray) : ∀ u ∈ l.map Value.string, u.oneCell' = true := by
  intro u hu
  obtain ⟨x, _, rfl⟩ := List.mem_map.1 hu
  rfl
def lenT (L : List NxT) (k : Nat) : Nat := ((L.take k).flatMap NxT.ids).length
theorem lenT_step {L : List NxT} {k : Nat} {x : NxT} (h : L[k]? = some x) : lenT L (k + 1) = lenT L k + x.ids.length := by
  unfold lenT
  rw [List.take_add_one, h, List.flatMap_append, List.length_append]
  simp
theorem lenT_bd {L : List NxT} (h : (L.flatMap NxT.ids).length ≤ 900000) (k : Nat) : lenT L k ≤ 900000 := by
  unfold lenT
  have e : L.flatMap NxT.ids = (L.take k).flatMap NxT.ids ++ (L.drop k).flatMap NxT.ids := by rw [← List.flatMap_append, List.take_append_drop]
  rw [e, List.length_append] at h
  omega
set_option maxHeartbeats 3200000 in
set_option maxRecDepth 100000 in
/-- names joined -/
theorem concatT_c (A : Option Addr) (n c : Nat) (L : List NxT) (w : World) (h : RNxT w A n L) (hn : n ≤ 300) (hM : (L.flatMap NxT.ids).length ≤ 900000) :
    Calls Tryz.prog 119 #[.slice A n c] w fun e w' => ∃ A' c', e = .returned (.slice A' (L.flatMap NxT.ids).length c') ∧ RS 9 w' A' (L.flatMap NxT.ids).length (L.flatMap NxT.ids) ∧ Below w.heap.size w w' := by
  have hR := Lib.hid (fun W B => h.below (w' := W) B)
  have hl := Lib.hid h.1.len
  have hLt := Lib.hid (lenT_bd hM)
  have hTot := Lib.hid (show lenT L n = (L.flatMap NxT.ids).length by unfold lenT; rw [List.take_of_length_le (by rw [h.1.len]; exact Nat.le_refl _)])
  have hS := Lib.hid (fun k x (hx : L[k]? = some x) => lenT_step hx)
  clear h hM
  go_enter Tryz.func119, Tryz.ntmps119
  go_wp2_with fail
  go_loopw [3, 5, 11] (fun sv _ iv wr => ∃ k : Nat, k ≤ n ∧ iv = .int .i64 k ∧ sv = .int .i64 (lenT L k) ∧ Below w.heap.size w wr) (fun _ _ iv _ => n - (intOf iv).toNat)
  case atStart => exact ⟨0, Nat.zero_le _, rfl, rfl, Below.refl _ _⟩
  case round =>
    rename World => wr
    obtain ⟨k, hk, rfl, rfl, hB⟩ := hrel
    by_cases hlt : k < n
    · obtain ⟨b, off, x, rfl, hbl, hx, c0, _, _⟩ := RNxT_at (hR.out _ hB) hlt
      have hb2 := hLt.out (k + 1)
      rw [hS.out k x hx] at hb2
      have hst' := Lib.hid (hS.out k x hx)
      clear hx
      obtain ⟨A9, c9, ids⟩ := x
      dsimp only at *
      generalize ids.length = q at *
      generalize lenT L k = p at *
      have hq1 : ¬ ((p : Int) + (q : Int) < 0) := by omega
      have e1 : IntKind.i64.wrap ((p : Int) + (q : Int)) = (p : Int) + (q : Int) := IntWalk.i64_in _ (by omega)
      go_wp2
      go_roundw
      case rel => exact ⟨k + 1, by omega, by go_num, by rw [hst'.out, Int.natCast_add], hB⟩
      case measure => simp [intOf]; omega
    · obtain rfl : k = n := by omega
      have hT := hLt.out k
      have hG := Lib.hid (growTA_c (lenT L k) wr (Nat.le_trans hT (by decide)))
      go_wp2_with fail
      refine hG.out.mono ?_; rintro e w3 ⟨GA, gc, rfl, hown, B3⟩
      have hown0 := own_mono hown hB.size
      have hB3 := below_next hB B3
      clear hown B3 hB hG
      go_wp2_with fail
      go_loopw [6, 8, 27] (fun u _ iv wr => ∃ j : Nat, j ≤ k ∧ iv = .int .i64 j ∧ wr.ownsRow w.heap.size 9 1 u (lenT L j) (((L.take j).flatMap NxT.ids).map Value.string) ∧ Below w.heap.size w wr) (fun _ _ iv _ => k - (intOf iv).toNat)
      case atStart => exact ⟨0, Nat.zero_le _, rfl, hown0, hB3⟩
      case round =>
        clear hown0 hB3
        rename World => wx
        obtain ⟨j, hj, rfl, hown, hB⟩ := hrel
        by_cases hlj : j < k
        · obtain ⟨b, off, x, rfl, hbl, hx, c0, rx, hcx⟩ := RNxT_at (hR.out _ hB) hlj
          have hst' := Lib.hid (hS.out j x hx)
          have hb1 := hLt.out j
          have hb3 := hLt.out (j + 1)
          rw [hst'.out] at hb3
          have hb4 : lenT L j + x.ids.length ≤ 1000000 := Nat.le_trans hb3 (by decide)
          clear hb3 hb1
          have hfl := Lib.hid (show ((L.take (j + 1)).flatMap NxT.ids).map Value.string = ((L.take j).flatMap NxT.ids).map Value.string ++ x.ids.map Value.string by
            rw [List.take_add_one, hx, List.flatMap_append, List.map_append]; simp)
          clear hx
          obtain ⟨A9, c9, ids⟩ := x
          dsimp only at *
          have hz := hB.size
          go_wp2_with (at_builtin; refine wpList_appR rfl (.tmp 31) (.tmp 32) 96 rfl Tryz.underlying96 info_strT rfl (by omega) (by omega) hown rfl hcx (srcT rx) rfl (by rw [List.length_map, Nat.mul_one]) (oneT ids) hb4 hz ?_; intro v4 w4 hown4 hg4)
          have hB4 := below_own hB hown hg4 hz (Nat.le_refl _)
          go_wp2
          go_roundw
          case rel => exact ⟨j + 1, by omega, by go_num, by rw [hst'.out, hfl.out]; exact hown4, hB4⟩
          case measure => simp [intOf]; omega
        · obtain rfl : j = k := by omega
          obtain ⟨A9, c9, rfl⟩ := own_shape hown
          have hfin : RS 9 wx A9 (L.flatMap NxT.ids).length (L.flatMap NxT.ids) := by
            rw [List.take_of_length_le (by rw [hl.out]; exact Nat.le_refl _), hTot.out] at hown
            rw [hTot.out] at hT
            exact R1.of_own hown (Nat.le_trans hT (by decide))
          rw [hTot.out]
          clear hown
          go_wp2
          go_ret
          exact ⟨A9, c9, rfl, hfin, hB⟩
end Go.Proofs.YtnkhdofcmanipaaGreatDoor
