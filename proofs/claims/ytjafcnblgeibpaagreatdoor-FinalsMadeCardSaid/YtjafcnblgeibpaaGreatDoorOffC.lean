/- Equality of rows of names; the seeds of a swim-off; names joined. -/
import Derived.Test.YtjafcnblgeibpaaGreatDoorSwimR
import Derived.Test.YtjafcnblgeibpaaGreatDoorSeedM
import Derived.Test.YtjafcnblgeibpaaGreatDoorDraws
import Derived.Laws.AppendOwnNone
namespace Go.Proofs.YtjafcnblgeibpaaGreatDoor
open Go.RowKit Go.Shelf Go.Lib Go.Sort
set_option linter.unusedVariables false

theorem equalS3_c (A1 A2 : Option Addr) (n c m d : Nat) (l : List ByteArray) (w : World) (h1 : RS 9 w A1 n l) (h2 : RS 9 w A2 m l) :
    Calls Tryz.prog 25 #[.slice A1 n c, .slice A2 m d] w fun e w' => e = .returned (.bool true) ∧ Below w.heap.size w w' := by
  have hn := h1.len
  have hm := h2.len
  have b1 := h1.bd
  obtain rfl : n = m := hn.symm.trans hm
  rcases Nat.eq_zero_or_pos n with h0 | hp
  · subst h0
    exact (Tryz.slices_Equal_string_empty A1 A2 c 0 d w (by omega)).mono fun _ _ ⟨he, hw⟩ => ⟨he, by rw [hw]; exact Below.refl _ _⟩
  · obtain ⟨b1', o1, rfl, hc1⟩ := shelfS h1 hp
    obtain ⟨b2', o2, rfl, hc2⟩ := shelfS h2 hp
    refine (Tryz.slices_Equal_string b1' o1 n c b2' o2 n d l l w (by omega) (by omega) (by omega) (by omega) hc1 hc2).mono fun _ _ ⟨he, q, hw⟩ => ⟨?_, by rw [hw]; exact below_drewN (Below.refl _ _) q⟩
    rw [he]; simp
theorem equalNx_c (A1 A2 : Option Addr) (n c m d : Nat) (L1 L2 : List Nx) (w : World) (h1 : RNx w A1 n L1) (h2 : RNx w A2 m L2) (he : L1.map Nx.ids = L2.map Nx.ids) :
    Calls Tryz.prog 23 #[.slice A1 n c, .slice A2 m d, .func (.func 25) #[] #[]] w fun e w' => e = .returned (.bool true) ∧ Below w.heap.size w w' := by
  have hnm : n = m := by
    have e1 := h1.1.len
    have e2 := h2.1.len
    have e3 := congrArg List.length he
    rw [List.length_map, List.length_map] at e3
    omega
  subst hnm
  have b1 := h1.1.bd
  have hR1 := Lib.hid (fun W B => h1.below (w' := W) B)
  have hR2 := Lib.hid (fun W B => h2.below (w' := W) B)
  have he' := Lib.hid he
  clear h1 h2 he
  go_enter Tryz.func23, Tryz.ntmps23
  go_wp2_with fail
  go_loopw [7, 8, 9, 17] (fun _ _ _ i wr => ∃ k : Nat, k ≤ n ∧ i = .int .i64 k ∧ Below w.heap.size w wr) (fun _ _ _ i _ => n - (intOf i).toNat)
  case atStart => exact ⟨0, Nat.zero_le _, rfl, Below.refl _ _⟩
  case round =>
    rename World => wr
    obtain ⟨k, hk, rfl, hB⟩ := hrel
    by_cases hlt : k < n
    · have hlti : (k : Int) < n := by omega
      obtain ⟨b, off, x, rfl, hbl, hx, c0, rx, _⟩ := RNx_at (hR1.out _ hB) hlt
      obtain ⟨b', off', y, rfl, hbl', hy, d0, ry, _⟩ := RNx_at (hR2.out _ hB) hlt
      have hxy : x.ids = y.ids := by
        have h9 := congrArg (fun l => l[k]?) he'.out
        simp only [List.getElem?_map, hx, hy, Option.map_some, Option.some.injEq] at h9
        exact h9
      obtain ⟨A, cc, ids⟩ := x
      obtain ⟨A', cc', ids'⟩ := y
      dsimp only at *
      subst hxy
      have hs := Lib.hid (equalS3_c A A' ids.length cc ids.length cc' ids wr rx ry)
      clear hx hy rx ry
      generalize ids.length = q at *
      go_wp2_with fail
      refine hs.out.mono ?_; rintro e w5 ⟨rfl, B5⟩
      have hB5 := below_next hB B5
      go_wp2
      go_roundw
      case rel => exact ⟨k + 1, by omega, by go_num, hB5⟩
      case measure => simp [intOf]; omega
    · obtain rfl : k = n := by omega
      go_wp2
      go_ret
      exact ⟨rfl, hB⟩
theorem growStr_c (n : Nat) (w : World) (h0 : 0 < n) (hn : n ≤ 1000000) :
    Calls Tryz.prog 109 #[.slice none 0 0, .int .i64 n] w fun e w' => ∃ A c, e = .returned (.slice A 0 c) ∧ w'.ownsRow w.heap.size 9 1 (.slice A 0 c) 0 [] ∧ Below w.heap.size w w' := by
  have h1 : ¬ ((n : Int) < 0) := by omega
  have h2 : (0 : Int) < (n : Int) := by omega
  have h3 : IntKind.i64.wrap ((n : Int)) = (n : Int) := IntWalk.i64_in _ (by omega)
  go_enter Tryz.func109, Tryz.ntmps109
  go_wp2_with (at_builtin; refine wpList_zerosS rfl (.tmp 20) (.tmp 21) 49 3 rfl Tryz.underlying49 Tryz.underlying3 info_str n h0 (by omega) hn (by omega) (by rfl) (by rfl) ?_; intro cap hc1 hc2)
  go_ret
  refine ⟨_, cap, rfl, ⟨rfl, .inr ⟨w.heap.size, cap, _, rfl, Nat.le_refl _, heap_alloc_new w.drew _, Nat.zero_le _, hc2, ?_, by simp⟩⟩, below_drewN (below_new w _) 1⟩
  rw [Array.size_append, size_zeroCells, size_zeroCells]
  show n * 1 + (cap - n) * 1 = cap * 1
  omega
theorem growStr0_c (w : World) :
    Calls Tryz.prog 109 #[.slice none 0 0, .int .i64 0] w fun e w' => ∃ A c, e = .returned (.slice A 0 c) ∧ w'.ownsRow w.heap.size 9 1 (.slice A 0 c) 0 [] ∧ Below w.heap.size w w' := by
  go_enter Tryz.func109, Tryz.ntmps109
  go_wp2
  go_ret
  exact ⟨none, 0, rfl, World.ownsRow_nil _ _ _ _, Below.refl _ _⟩
theorem growStrA_c (n : Nat) (w : World) (hn : n ≤ 1000000) :
    Calls Tryz.prog 109 #[.slice none 0 0, .int .i64 n] w fun e w' => ∃ A c, e = .returned (.slice A 0 c) ∧ w'.ownsRow w.heap.size 9 1 (.slice A 0 c) 0 [] ∧ Below w.heap.size w w' := by
  rcases Nat.eq_zero_or_pos n with h | h
  · subst h; exact growStr0_c w
  · exact growStr_c n w h hn
theorem str_src {w : World} {A : Option Addr} {n : Nat} {l : List ByteArray} (h : RS 9 w A n l) (hp : 0 < n) : ∃ b off, A = some ⟨b, off, none⟩ ∧ ∀ j u, (l.map Value.string)[j]? = some u → w.cell? ⟨b, off + j, none⟩ = some u := by
  obtain ⟨b, off, hA, hc⟩ := shelfS h hp
  refine ⟨b, off, hA, fun j u hu => ?_⟩
  rw [List.getElem?_map] at hu
  cases hx : l[j]? with
  | none => rw [hx] at hu; cases hu
  | some x =>
    rw [hx] at hu
    obtain rfl := Option.some.inj hu
    rw [hc j (lt_of_at hx), List.getD_eq_getElem?_getD, hx]
    rfl
theorem strs_one (l : List ByteArray) : ∀ u ∈ l.map Value.string, u.oneCell' = true := by
  intro u hu
  obtain ⟨x, _, rfl⟩ := List.mem_map.1 hu
  rfl
def lenTo (L : List Nx) (k : Nat) : Nat := ((L.take k).flatMap Nx.ids).length
theorem lenTo_step {L : List Nx} {k : Nat} {x : Nx} (h : L[k]? = some x) : lenTo L (k + 1) = lenTo L k + x.ids.length := by
  unfold lenTo
  rw [List.take_add_one, h, List.flatMap_append, List.length_append]
  simp
theorem lenTo_le (L : List Nx) (M : Nat) (h : ∀ x ∈ L, x.ids.length ≤ M) : ∀ k, lenTo L k ≤ k * M
  | 0 => by simp [lenTo]
  | k + 1 => by
    have h1 := lenTo_le L M h k
    rw [Nat.succ_mul]
    cases hx : L[k]? with
    | none =>
      unfold lenTo at *
      rw [List.take_add_one, hx]
      simpa using Nat.le_trans h1 (Nat.le_add_right _ _)
    | some x =>
      rw [lenTo_step hx]
      have := h x (List.mem_of_getElem? hx)
      omega
theorem lenTo_bd {L : List Nx} {n : Nat} (h : ∀ x ∈ L, x.ids.length ≤ 300) (hn : n ≤ 300) (k : Nat) (hk : k ≤ n) : lenTo L k ≤ 90000 := by
  have h1 := lenTo_le L 300 h k
  generalize lenTo L k = p at *
  omega
set_option maxHeartbeats 3200000 in
set_option maxRecDepth 100000 in
/-- names joined -/
theorem concatN_c (A : Option Addr) (n c : Nat) (L : List Nx) (w : World) (h : RNx w A n L) (hn : n ≤ 300) (hM : ∀ x ∈ L, x.ids.length ≤ 300) :
    Calls Tryz.prog 30 #[.slice A n c] w fun e w' => ∃ A' c', e = .returned (.slice A' (L.flatMap Nx.ids).length c') ∧ RS 9 w' A' (L.flatMap Nx.ids).length (L.flatMap Nx.ids) ∧ Below w.heap.size w w' := by
  have hR := Lib.hid (fun W B => h.below (w' := W) B)
  have hl := Lib.hid h.1.len
  have hMx := Lib.hid hM
  have hLt := Lib.hid (lenTo_bd hM hn)
  have hTot := Lib.hid (show lenTo L n = (L.flatMap Nx.ids).length by unfold lenTo; rw [List.take_of_length_le (by rw [h.1.len]; exact Nat.le_refl _)])
  have hS := Lib.hid (fun k x (hx : L[k]? = some x) => lenTo_step hx)
  clear h hM
  go_enter Tryz.func30, Tryz.ntmps30
  go_wp2_with fail
  go_loopw [3, 5, 11] (fun sv _ iv wr => ∃ k : Nat, k ≤ n ∧ iv = .int .i64 k ∧ sv = .int .i64 (lenTo L k) ∧ Below w.heap.size w wr) (fun _ _ iv _ => n - (intOf iv).toNat)
  case atStart => exact ⟨0, Nat.zero_le _, rfl, rfl, Below.refl _ _⟩
  case round =>
    rename World => wr
    obtain ⟨k, hk, rfl, rfl, hB⟩ := hrel
    by_cases hlt : k < n
    · obtain ⟨b, off, x, rfl, hbl, hx, c0, _, _⟩ := RNx_at (hR.out _ hB) hlt
      have hb2 := hLt.out (k + 1) hlt
      rw [hS.out k x hx] at hb2
      have hst' := Lib.hid (hS.out k x hx)
      clear hx
      obtain ⟨A9, c9, ids⟩ := x
      dsimp only at *
      generalize ids.length = q at *
      generalize lenTo L k = p at *
      have hq1 : ¬ ((p : Int) + (q : Int) < 0) := by omega
      have e1 : IntKind.i64.wrap ((p : Int) + (q : Int)) = (p : Int) + (q : Int) := IntWalk.i64_in _ (by omega)
      go_wp2
      go_roundw
      case rel => exact ⟨k + 1, by omega, by go_num, by rw [hst'.out, Int.natCast_add], hB⟩
      case measure => simp [intOf]; omega
    · obtain rfl : k = n := by omega
      have hT := hLt.out k (Nat.le_refl _)
      have hG := Lib.hid (growStrA_c (lenTo L k) wr (Nat.le_trans hT (by decide)))
      go_wp2_with fail
      refine hG.out.mono ?_; rintro e w3 ⟨GA, gc, rfl, hown, B3⟩
      have hown0 := own_mono hown hB.size
      have hB3 := below_next hB B3
      clear hown B3 hB hG
      go_wp2_with fail
      go_loopw [6, 8, 27] (fun u _ iv wr => ∃ j : Nat, j ≤ k ∧ iv = .int .i64 j ∧ wr.ownsRow w.heap.size 9 1 u (lenTo L j) (((L.take j).flatMap Nx.ids).map Value.string) ∧ Below w.heap.size w wr) (fun _ _ iv _ => k - (intOf iv).toNat)
      case atStart => exact ⟨0, Nat.zero_le _, rfl, hown0, hB3⟩
      case round =>
        clear hown0 hB3
        rename World => wx
        obtain ⟨j, hj, rfl, hown, hB⟩ := hrel
        by_cases hlj : j < k
        · obtain ⟨b, off, x, rfl, hbl, hx, c0, rx, hcx⟩ := RNx_at (hR.out _ hB) hlj
          have hst' := Lib.hid (hS.out j x hx)
          have hb1 := hLt.out j hj
          have hb3 := hLt.out (j + 1) hlj
          rw [hst'.out] at hb3
          have hb4 : lenTo L j + x.ids.length ≤ 1000000 := Nat.le_trans hb3 (by decide)
          clear hb3 hb1
          have hfl := Lib.hid (show ((L.take (j + 1)).flatMap Nx.ids).map Value.string = ((L.take j).flatMap Nx.ids).map Value.string ++ x.ids.map Value.string by
            rw [List.take_add_one, hx, List.flatMap_append, List.map_append]; simp)
          clear hx
          obtain ⟨A9, c9, ids⟩ := x
          dsimp only at *
          have hz := hB.size
          go_wp2_with (at_builtin; refine wpList_appR rfl (.tmp 31) (.tmp 32) 49 rfl Tryz.underlying49 info_str rfl (by omega) (by omega) hown rfl hcx (str_src rx) rfl (by rw [List.length_map, Nat.mul_one]) (strs_one ids) hb4 hz ?_; intro v4 w4 hown4 hg4)
          have hB4 := below_own hB hown hg4 hz (Nat.le_refl _)
          go_wp2
          go_roundw
          case rel => exact ⟨j + 1, by omega, by go_num, by rw [hst'.out, hfl.out]; exact hown4, hB4⟩
          case measure => simp [intOf]; omega
        · obtain rfl : j = k := by omega
          obtain ⟨A9, c9, rfl⟩ := own_shape hown
          have hfin : RS 9 wx A9 (L.flatMap Nx.ids).length (L.flatMap Nx.ids) := by
            rw [List.take_of_length_le (by rw [hl.out]; exact Nat.le_refl _), hTot.out] at hown
            rw [hTot.out] at hT
            exact R1.of_own hown (Nat.le_trans hT (by decide))
          rw [hTot.out]
          clear hown
          go_wp2
          go_ret
          exact ⟨A9, c9, rfl, hfin, hB⟩
end Go.Proofs.YtjafcnblgeibpaaGreatDoor
