import Derived.Test.YtklggnglaeagpaaGreatDoorTxtW
import Derived.Test.YtklggnglaeagpaaGreatDoorTxtI
import Derived.Test.YtklggnglaeagpaaGreatDoorTxtR
import Derived.Test.YtklggnglaeagpaaGreatDoorVerdM
import Derived.Deep.DeepCutAuto
import Derived.Deep.RegionHeld3
import Derived.BigRegion
/- timing.Parse of any string. Printed by wip/mktt.py. -/
namespace Go.Proofs.YtklggnglaeagpaaGreatDoor
open Go.RowKit Go.Lib
set_option linter.unusedVariables false
set_option linter.unusedSimpArgs false

theorem pairL_c (s : ByteArray) (w : World) : Calls Tryz.prog 371 #[.string s] w fun e w' => e = .returned (.tuple #[.int .i64 ((pairP s.data.toList).getD 0), .bool (pairP s.data.toList).isSome]) ∧ Below w.heap.size w w' := by
  by_cases h2 : s.size = 2
  · exact pair_c s w (by omega)
  · have e1 : pairP s.data.toList = none := by
      unfold pairP
      split
      · rename_i a b h3
        exfalso; apply h2
        have : s.data.toList.length = 2 := by rw [h3]; rfl
        rw [← this]; exact (Lib.size_eq s)
      · rfl
    rw [e1]
    have h3 : ((s.size : Int) != 2) = true := by simpa using (by omega : ¬ (s.size : Int) = 2)
    clear e1
    go_enter Tryz.func371, Tryz.ntmps371
    go_wp2
    go_ret2
    exact ⟨rfl, Below.refl _ _⟩
theorem cutM_c (s : ByteArray) (c : UInt8) (w : World) (hM : Mx w) (hs : s.size ≤ 900000) : Calls Tryz.prog 265 #[.string s, .string ⟨#[c]⟩] w fun e w' => e = .returned (.tuple #[.string ⟨(Lib.cut s.data.toList [c]).1.toArray⟩, .string ⟨(Lib.cut s.data.toList [c]).2.1.toArray⟩, .bool (Lib.cut s.data.toList [c]).2.2]) ∧ Below w.heap.size w w' := by
  obtain ⟨m, hm⟩ := hM
  refine (cutL_c s c m w hm (by omega)).mono ?_
  rintro e w' ⟨he, n, rfl⟩
  exact ⟨he, below_drewN (Below.refl _ _) n⟩
set_option maxHeartbeats 1600000 in
set_option maxRecDepth 100000 in
theorem parseL_c (s : ByteArray) (w : World) (hs : s.size ≤ 900000) (hM : Mx w) : Calls Tryz.prog 286 #[.string s] w fun e w' => e = .returned (.tuple #[.int .i64 (parseP s.data.toList).1, .int .i64 (parseP s.data.toList).2]) ∧ Below w.heap.size w w' := by
  have hC1 := Lib.hid (cutM_c s 46 w hM hs)
  have l1 := cut_len 46 s.data.toList
  rw [parse_parts]
  have hsz := Lib.size_eq s
  generalize Lib.cut s.data.toList [46] = C1 at *
  obtain ⟨lf, rt, ok⟩ := C1
  dsimp only at *
  have l2 := cut_len 58 lf
  have hC2 := Lib.hid (fun W h => cutM_c ⟨lf.toArray⟩ 58 W h (by show lf.toArray.size ≤ 900000; rw [List.size_toArray]; omega))
  have e1 : ∀ l : List UInt8, (⟨l.toArray⟩ : ByteArray).data.toList = l := fun l => by simp
  generalize Lib.cut lf [58] = C2 at *
  obtain ⟨mi, se, long⟩ := C2
  dsimp only at *
  have hP1 := Lib.hid (fun W => pairL_c ⟨rt.toArray⟩ W)
  have hP2 := Lib.hid (fun W => pairL_c ⟨se.toArray⟩ W)
  have hN3 := Lib.hid (fun W => numberL_c ⟨mi.toArray⟩ 3 W (by omega))
  have hN2 := Lib.hid (fun W => numberL_c ⟨lf.toArray⟩ 2 W (by omega))
  have b1 := fun h e => pair_two (l := rt) (h := h) e
  have b2 := fun h e => pair_two (l := se) (h := h) e
  have b3 := fun n e => num_bd (l := mi) (most := 3) (n := n) e (by omega)
  have b4 := fun n e => num_bd (l := lf) (most := 2) (n := n) e (by omega)
  have hlf : lf ≠ [] → lf.isEmpty = false := fun h => by simpa using h
  unfold parseQ longP shortP
  generalize pairP rt = P1 at *
  generalize pairP se = P2 at *
  generalize numP mi 3 = N3 at *
  generalize numP lf 2 = N2 at *
  clear e1 l1 l2 hsz
  go_enter Tryz.func286, Tryz.ntmps286
  go_wp2_with fail
  refine hC1.out.mono ?_; rintro e w1 ⟨rfl, B1⟩
  have hM1 := hM.below B1
  clear hM hC1
  go_wp2_with fail
  refine (hP1.out _).mono ?_; rintro e w2 ⟨rfl, B2⟩
  have hM2 := hM1.below B2
  replace B2 := below_next B1 B2
  clear hM1 B1 hP1
  cases ok
  · go_wp2
    go_ret2
    exact ⟨rfl, B2⟩
  rcases P1 with _ | h
  · go_wp2
    go_ret2
    exact ⟨rfl, B2⟩
  obtain ⟨h0, h1, _⟩ := b1 h rfl
  go_wp2_with fail
  refine (hC2.out _ hM2).mono ?_; rintro e w3 ⟨rfl, B3⟩
  replace B3 := below_next B2 B3
  clear hM2 B2 hC2 b1
  cases long
  · go_wp2_with fail
    refine (hN2.out _).mono ?_; rintro e w4 ⟨rfl, B4⟩
    replace B4 := below_next B3 B4
    clear B3 hN2 hN3 hP2 b2 b3
    rcases N2 with _ | n
    · go_wp2
      all_goals (go_ret2; exact ⟨rfl, B4⟩)
    · obtain ⟨n0, n1, n2⟩ := b4 n rfl
      have hlf' := hlf n2
      clear hlf b4
      by_cases hn : 0 ≤ n ∧ n < 60
      · obtain ⟨n3, n4⟩ := hn
        have hn5 : ¬ (60 ≤ n) := by omega
        have k1 : IntKind.i64.wrap (100 * n) = 100 * n := IntWalk.i64_in _ (by omega)
        have k2 : IntKind.i64.wrap (100 * n + h) = 100 * n + h := IntWalk.i64_in _ (by omega)
        go_wp2_with fail
        refine (isTime_c _ _).mono ?_; rintro e w5 ⟨rfl, rfl⟩
        have hv : 0 ≤ n ∧ n < 60 := ⟨n3, n4⟩
        by_cases hT : 1 ≤ 100 * n + h ∧ 100 * n + h ≤ 360000
        · have hT' : (decide (1 ≤ 100 * n + h ∧ 100 * n + h ≤ 360000)) = true := decide_eq_true hT
          rw [hT']
          have hF : finT 0 n h = (100 * n + h, 0) := by
            unfold finT
            rw [if_pos (by omega)]
            congr 1; omega
          clear hT hT'
          go_wp2
          go_ret2
          refine ⟨?_, B4⟩
          show Ending.returned (.tuple #[.int .i64 (100 * n + h), .int .i64 0]) = _
          simp [hv, hF]
        · have hT' : (decide (1 ≤ 100 * n + h ∧ 100 * n + h ≤ 360000)) = false := decide_eq_false hT
          rw [hT']
          have hF : finT 0 n h = (0, 1) := by
            unfold finT
            rw [if_neg (by omega)]
          clear hT hT'
          go_wp2
          go_ret2
          refine ⟨?_, B4⟩
          show Ending.returned (.tuple #[.int .i64 0, .int .i64 1]) = _
          simp [hv, hF]
      · have hn' : ¬ (0 ≤ n ∧ n < 60) := hn
        have hn2 := Lib.hid hn
        clear hn hn'
        go_wp2
        all_goals first | (exfalso; apply hn2.out; omega) | (go_ret2; exact ⟨rfl, B4⟩) | (go_ret2; refine ⟨?_, B4⟩; show Ending.returned (.tuple #[.int .i64 0, .int .i64 9]) = _; simp [hn2.out])
  · go_wp2_with fail
    refine (hN3.out _).mono ?_; rintro e w4 ⟨rfl, B4⟩
    replace B4 := below_next B3 B4
    clear B3 hN2 hN3 b4 hlf
    go_wp2_with fail
    refine (hP2.out _).mono ?_; rintro e w5 ⟨rfl, B5⟩
    replace B5 := below_next B4 B5
    clear B4 hP2
    rcases N3 with _ | m
    · go_wp2
      all_goals (go_ret2; exact ⟨rfl, B5⟩)
    obtain ⟨m0, m1, _⟩ := b3 m rfl
    rcases P2 with _ | n
    · go_wp2
      all_goals (go_ret2; exact ⟨rfl, B5⟩)
    obtain ⟨n0, n1, _⟩ := b2 n rfl
    clear b2 b3
    by_cases hn : 1 ≤ m ∧ n < 60
    · obtain ⟨n3, n4⟩ := hn
      have hn5 : ¬ (60 ≤ n) := by omega
      have k0 : IntKind.i64.wrap (6000 * m) = 6000 * m := IntWalk.i64_in _ (by omega)
      have k1 : IntKind.i64.wrap (100 * n) = 100 * n := IntWalk.i64_in _ (by omega)
      have k2 : IntKind.i64.wrap (6000 * m + 100 * n) = 6000 * m + 100 * n := IntWalk.i64_in _ (by omega)
      have k3 : IntKind.i64.wrap (6000 * m + 100 * n + h) = 6000 * m + 100 * n + h := IntWalk.i64_in _ (by omega)
      go_wp2_with fail
      refine (isTime_c _ _).mono ?_; rintro e w6 ⟨rfl, rfl⟩
      have hv : 1 ≤ m ∧ n < 60 := ⟨n3, n4⟩
      by_cases hT : 1 ≤ 6000 * m + 100 * n + h ∧ 6000 * m + 100 * n + h ≤ 360000
      · have hT' : (decide (1 ≤ 6000 * m + 100 * n + h ∧ 6000 * m + 100 * n + h ≤ 360000)) = true := decide_eq_true hT
        rw [hT']
        have hF : finT m n h = (6000 * m + 100 * n + h, 0) := by
          unfold finT
          rw [if_pos hT]
        clear hT hT'
        go_wp2
        go_ret2
        refine ⟨?_, B5⟩
        show Ending.returned (.tuple #[.int .i64 (6000 * m + 100 * n + h), .int .i64 0]) = _
        simp [hv, hF]
      · have hT' : (decide (1 ≤ 6000 * m + 100 * n + h ∧ 6000 * m + 100 * n + h ≤ 360000)) = false := decide_eq_false hT
        rw [hT']
        have hF : finT m n h = (0, 1) := by
          unfold finT
          rw [if_neg hT]
        clear hT hT'
        go_wp2
        go_ret2
        refine ⟨?_, B5⟩
        show Ending.returned (.tuple #[.int .i64 0, .int .i64 1]) = _
        simp [hv, hF]
    · have hn2 := Lib.hid hn
      clear hn
      go_wp2
      all_goals first | (exfalso; apply hn2.out; omega) | (go_ret2; exact ⟨rfl, B5⟩) | (go_ret2; refine ⟨?_, B5⟩; show Ending.returned (.tuple #[.int .i64 0, .int .i64 9]) = _; simp [hn2.out])
end Go.Proofs.YtklggnglaeagpaaGreatDoor

/- Readers of ranks: judge.readRanked, judge.Read. Printed by wip/mkrk.py. -/
namespace Go.Proofs.YtklggnglaeagpaaGreatDoor
open Go.RowKit Go.Lib
set_option linter.unusedVariables false
set_option linter.unusedSimpArgs false

abbrev RkI (w : World) (b : Nat) : List (List UInt8) → World → Prop := TkI 34 48 4 rkE rkParse w b
def rkFin (z : List UInt8) (R : Option (List Int)) (T : Option Int) : Option Rk := match R, T with
  | some [m, n], some v => some ⟨⟨z.toArray⟩, m, v, n⟩
  | _, _ => none
theorem rk_emp {a : List UInt8} (h : ([] : List UInt8) ∈ spl 32 a) : rkParse a = none := by
  unfold rkParse
  split
  · rename_i r w t f e
    rw [e] at h
    rw [if_pos (by
      simp only [List.mem_cons, List.not_mem_nil, or_false] at h
      rcases h with h | h | h | h
      · exact .inl h.symm
      · exact .inr (.inl h.symm)
      · exact .inr (.inr (.inl h.symm))
      · exact .inr (.inr (.inr h.symm)))]
  · rfl
theorem rk_len {a : List UInt8} (h : (spl 32 a).length ≠ 4) : rkParse a = none := by
  unfold rkParse
  split
  · rename_i r w t f e
    rw [e] at h
    exact absurd rfl h
  · rfl
theorem rk_four {a r z t f : List UInt8} (h : spl 32 a = [r, z, t, f]) (h1 : r ≠ []) (h2 : z ≠ []) (h3 : t ≠ []) (h4 : f ≠ []) : rkParse a = rkFin z (numsP [r, f] 4) (rkTm t) := by
  unfold rkParse
  rw [h]
  exact if_neg (by rintro (h | h | h | h); exact h1 h; exact h2 h; exact h3 h; exact h4 h)
theorem rkFin_no {z : List UInt8} {T : Option Int} : rkFin z none T = none := rfl
theorem bytes45 {y : ByteArray} : (y.toList == [45]) = decide (bL y = [45]) := by
  rw [ByteArray.toList_eq]
  rw [Bool.eq_iff_iff, beq_iff_eq, decide_eq_true_eq]
  exact Iff.rfl
theorem splN_le (c : UInt8) : ∀ l : List UInt8, ∀ p ∈ spl c l, p.length ≤ l.length
  | [], p, h => by simp [spl] at h; subst h; simp
  | b :: r, p, h => by
    have ih := splN_le c r
    unfold spl at h
    split at h
    · rcases List.mem_cons.1 h with rfl | h
      · simp
      · have := ih p h; simp only [List.length_cons]; omega
    · split at h
      · rename_i e; exact absurd e (spl_ne c r)
      · rename_i x xs e
        rcases List.mem_cons.1 h with rfl | h
        · have := ih x (by rw [e]; simp); simp only [List.length_cons]; omega
        · have := ih p (by rw [e]; exact List.mem_cons_of_mem _ h); simp only [List.length_cons]; omega
set_option maxHeartbeats 6400000 in
set_option maxRecDepth 100000 in
theorem readRk_c (s : ByteArray) (w : World) (hs : s.size ≤ 900000) (hM : Mx w) : Calls Tryz.prog 219 #[.string s] w fun e w' => ∃ x : Rk, e = .returned (.tuple #[.agg (rkE x).toArray, .bool (rkParse s.data.toList).isSome]) ∧ ((rkParse s.data.toList).isSome = true → rkParse s.data.toList = some x) ∧ Below w.heap.size w w' := by
  have hSp := Lib.hid (fun W hM => wordsSplit_c s W (by omega) hM)
  have hE1 := Lib.hid (fun h => rk_emp (a := s.data.toList) h)
  have hE2 := Lib.hid (fun h => rk_len (a := s.data.toList) h)
  have hT := Lib.hid (fun r z t f h h1 h2 h3 h4 => rk_four (a := s.data.toList) (r := r) (z := z) (t := t) (f := f) h h1 h2 h3 h4)
  have hSz := Lib.hid (show ∀ p ∈ spl 32 s.data.toList, p.length ≤ 900000 from fun p hp => by
    have h9 := Lib.size_eq s
    have := splN_le 32 _ p hp
    omega)
  obtain ⟨SP, hSP⟩ : ∃ SP, rkParse s.data.toList = SP := ⟨_, rfl⟩
  rw [hSP] at hE1 hE2 hT ⊢
  generalize hps : spl 32 s.data.toList = ps at *
  have hB0 := below_new w (.cells #[.string ⟨#[]⟩, .int .i64 0, .int .i64 0, .int .i64 0] 48)
  have hK0 := heap_alloc_new w (.cells #[.string ⟨#[]⟩, .int .i64 0, .int .i64 0, .int .i64 0] 48)
  have hM1 := hM.below hB0
  have hMB := Lib.hid (fun W (B : Below w.heap.size w W) => hM.below B)
  clear hSP hps hM
  unfold RetWs at hSp
  go_enter Tryz.func219, Tryz.ntmps219
  go_wp2_with fail
  generalize hw0 : w.alloc (.cells #[.string ⟨#[]⟩, .int .i64 0, .int .i64 0, .int .i64 0] 48) = w0 at *
  clear hw0
  refine (hSp.out _ hM1).mono ?_; rintro e w1 ⟨A, n, Lw, rfl, hR, hLw, B1⟩
  have hB1 := below_next hB0 B1
  have hK1 := blk_below hK0 B1
  clear hB0 hK0 B1 hSp hM1
  by_cases hem : ([] : List UInt8) ∈ ps
  · have hd : decide (([] : List UInt8) ∉ ps) = false := decide_eq_false (not_not_intro hem)
    obtain rfl : SP = none := hE1.out hem
    rw [hd]
    clear hd hem hLw hE1 hE2 hT
    obtain ⟨zK, yK⟩ := blk_facts hK1
    have zK0 := zK 0
    have zK1 := zK 1
    have zK2 := zK 2
    have zK3 := zK 3
    have yK0 := yK 0
    have yK1 := yK 1
    have yK2 := yK 2
    have yK3 := yK 3
    go_wp2
    refine bodyPost_ret (v := .tuple #[.agg #[.string ⟨#[]⟩, .int .i64 0, .int .i64 0, .int .i64 0], .bool false]) (by simp [results, Tryz.results219, go_sem, zK]) rfl ⟨⟨⟨#[]⟩, 0, 0, 0⟩, rfl, (fun h => by cases h), ?_⟩
    repeat (with_reducible refine Below.setCell ?_ (by simp) _)
    exact hB1
  have hd : decide (([] : List UInt8) ∉ ps) = true := decide_eq_true hem
  rw [hd]
  have hLw' := hLw hem
  have hLn := hR.len
  have hnp : ps.length = n := by rw [← hLw', List.length_map, hLn]
  clear hLw hd
  by_cases h4 : n = 4
  rotate_left
  · have hd5 : ((n : Int) != 4) = true := by rw [bne_iff_ne]; omega
    have hi5 : ¬ (n : Int) = 4 := by omega
    obtain rfl : SP = none := hE2.out (by omega)
    clear hem hLw' hE1 hE2 hT hLn hnp h4
    obtain ⟨zK, yK⟩ := blk_facts hK1
    have zK0 := zK 0
    have zK1 := zK 1
    have zK2 := zK 2
    have zK3 := zK 3
    have yK0 := yK 0
    have yK1 := yK 1
    have yK2 := yK 2
    have yK3 := yK 3
    go_wp2
    refine bodyPost_ret (v := .tuple #[.agg #[.string ⟨#[]⟩, .int .i64 0, .int .i64 0, .int .i64 0], .bool false]) (by simp [results, Tryz.results219, go_sem, zK]) rfl ⟨⟨⟨#[]⟩, 0, 0, 0⟩, rfl, (fun h => by cases h), ?_⟩
    repeat (with_reducible refine Below.setCell ?_ (by simp) _)
    exact hB1
  subst h4
  obtain ⟨bx, ox, x0, hA, hbl, hx0, c0⟩ := hR.at_ (k := 0) (by omega)
  subst hA
  obtain ⟨csx, fzx, hbk, hcz⟩ := hR.blk (by omega)
  obtain ⟨y0, y1, y2, y3, rfl⟩ : ∃ y0 y1 y2 y3, Lw = [y0, y1, y2, y3] := by
    match Lw, hLn with
    | [a, b, c, d], _ => exact ⟨a, b, c, d, rfl⟩
  have hps2 : ps = [bL y0, bL y1, bL y2, bL y3] := by rw [← hLw']; rfl
  have hpar := Lib.hid (hT.out _ _ _ _ hps2 (fun e => hem (by rw [hps2, e]; simp)) (fun e => hem (by rw [hps2, e]; simp)) (fun e => hem (by rw [hps2, e]; simp)) (fun e => hem (by rw [hps2, e]; simp)))
  have hy2s : y2.size ≤ 900000 := by
    have h9 := hSz.out (bL y2) (by rw [hps2]; simp)
    have := Lib.size_eq y2
    unfold bL at h9
    omega
  have hcel := Lib.hid (fun (W : World) (h : W.heap[bx]? = some (.cells csx 9 fzx)) => And.intro (show W.cell? ⟨bx, ox, none⟩ = some (.string y0) by have h9 := cell_of_row W bx (ox + 0) csx _ fzx h; rw [hcz 0 _ rfl] at h9; exact h9) (And.intro (show W.cell? ⟨bx, ox + 1, none⟩ = some (.string y1) by have h9 := cell_of_row W bx (ox + 1) csx _ fzx h; rw [hcz 1 _ rfl] at h9; exact h9) (And.intro (show W.cell? ⟨bx, ox + 2, none⟩ = some (.string y2) by have h9 := cell_of_row W bx (ox + 2) csx _ fzx h; rw [hcz 2 _ rfl] at h9; exact h9) (show W.cell? ⟨bx, ox + 3, none⟩ = some (.string y3) by have h9 := cell_of_row W bx (ox + 3) csx _ fzx h; rw [hcz 3 _ rfl] at h9; exact h9))))
  obtain ⟨d0, _, _, d3⟩ := hcel.out w1.drew hbk
  have hNs := Lib.hid (numbers_c (some ⟨w1.heap.size, 0, none⟩) 2 2 4 [y0, y3] (w1.alloc (.cells #[.string y0, .string y3] 9)).drew (R1.lit w1 #[.string y0, .string y3] [y0, y3] rfl (by simp)) (by decide) (by decide))
  unfold RetNs at hNs
  rw [show ((4 : Nat) : Int) = 4 from rfl] at hNs
  rw [show ([y0, y3] : List ByteArray).map bL = [bL y0, bL y3] from rfl] at hNs
  obtain ⟨RS9, hRS⟩ : ∃ RS9, numsP [bL y0, bL y3] 4 = RS9 := ⟨_, rfl⟩
  rw [hRS] at hNs hpar
  have hBa := below_drewN (hB1.alloc hB1.size (.cells #[.string y0, .string y3] 9)) 1
  have hbka : (w1.alloc (.cells #[.string y0, .string y3] 9)).drew.heap[bx]? = some (.cells csx 9 fzx) := blk_alloc hbk _
  have hKa : (w1.alloc (.cells #[.string y0, .string y3] 9)).drew.heap[w.heap.size]? = some (.cells #[.string ⟨#[]⟩, .int .i64 0, .int .i64 0, .int .i64 0] 48 (0, 0)) := blk_alloc hK1 _
  obtain ⟨q0, _, _, q3⟩ := hcel.out _ hbka
  clear hem hLw' hT hE1 hE2 hx0 hnp hps2 hcz c0 hSz
  go_wp2_with fail
  go_region_held3 (fun w' => w'.cell? ⟨bx, ox, none⟩ = some (.string y0) ∧ w'.cell? ⟨bx, ox + 3, none⟩ = some (.string y3)) (first | go_keep | with_reducible exact ⟨d0, d3⟩ | with_reducible exact ⟨q0, q3⟩ | with_reducible exact ⟨f0, f3⟩)
    (first
      | (go_at_call 209; with_reducible refine hNs.out.mono ?_; rintro e w3 ⟨A3, n3, c3, rfl, ho3, hz3, B3⟩; obtain ⟨f0, _, _, f3⟩ := hcel.out w3 (blk_below hbka B3)))
  have hB3 := below_next hBa B3
  have hK3 := blk_below hKa B3
  have hbk3 := blk_below hbka B3
  clear hNs hBa hKa hbka hK1 hbk hB1 hR d0 d3 B3
  rcases hRS9 : RS9 with _ | ns
  · subst hRS9
    obtain rfl : SP = none := hpar.out
    clear hpar ho3 hz3 hRS
    obtain ⟨zK, yK⟩ := blk_facts hK3
    have zK0 := zK 0
    have zK1 := zK 1
    have zK2 := zK 2
    have zK3 := zK 3
    have yK0 := yK 0
    have yK1 := yK 1
    have yK2 := yK 2
    have yK3 := yK 3
    go_wp2
    refine bodyPost_ret (v := .tuple #[.agg #[.string ⟨#[]⟩, .int .i64 0, .int .i64 0, .int .i64 0], .bool false]) (by simp [results, Tryz.results219, go_sem, zK]) rfl ⟨⟨⟨#[]⟩, 0, 0, 0⟩, rfl, (fun h => by cases h), ?_⟩
    repeat (with_reducible refine Below.setCell ?_ (by simp) _)
    exact hB3
  subst hRS9
  have hl2 : ns.length = 2 := by have h9 := congrArg List.length (numsP_iff.1 hRS).1; simp at h9; omega
  obtain ⟨m0, m1, rfl⟩ : ∃ m0 m1, ns = [m0, m1] := by
    match ns, hl2 with
    | [p, q], _ => exact ⟨p, q, rfl⟩
  obtain rfl : n3 = 2 := by have h9 := ho3.1; simp only [Option.getD_some] at h9; rw [ints_len] at h9; simp at h9; omega
  have hR3 : RI 3 w3 A3 2 [m0, m1] := R1.of_own ho3 (by omega)
  obtain ⟨by_, oy, m0', hA3, hbly, hm0, cy0⟩ := hR3.at_ (k := 0) (by omega)
  subst hA3
  obtain ⟨csy, fzy, hbky, hczy⟩ := hR3.blk (by omega)
  have g0 : w3.cell? ⟨by_, oy, none⟩ = some (.int .i64 m0) := by have h9 := hczy 0 _ rfl; have h8 := cell_of_row w3 by_ (oy + 0) csy _ fzy hbky; rw [h9] at h8; exact h8
  have g1 : w3.cell? ⟨by_, oy + 1, none⟩ = some (.int .i64 m1) := by have h9 := hczy 1 _ rfl; have h8 := cell_of_row w3 by_ (oy + 1) csy _ fzy hbky; rw [h9] at h8; exact h8
  obtain ⟨f0', f1, f2, f3'⟩ := hcel.out w3 hbk3
  have hT2 := Lib.hid (fun h => show rkTm (bL y2) = some 0 from if_pos h)
  have hT3 := Lib.hid (fun (h : bL y2 ≠ [45]) => show rkTm (bL y2) = if (parseP (bL y2)).2 = 0 then some (parseP (bL y2)).1 else none from if_neg h)
  have hPs := Lib.hid (fun W (hM : Mx W) => parseL_c y2 W hy2s hM)
  have h45 := bytes45 (y := y2)
  have hbk9 : (w3.alloc (.cells #[.string ⟨#[]⟩, .int .i64 0, .int .i64 0, .int .i64 0] 48)).drew.heap[bx]? = some (.cells csx 9 fzx) := blk_alloc hbk3 _
  have hby9 : (w3.alloc (.cells #[.string ⟨#[]⟩, .int .i64 0, .int .i64 0, .int .i64 0] 48)).drew.heap[by_]? = some (.cells csy 3 fzy) := blk_alloc hbky _
  obtain ⟨_, u1, _, _⟩ := hcel.out _ hbk9
  have v0 : (w3.alloc (.cells #[.string ⟨#[]⟩, .int .i64 0, .int .i64 0, .int .i64 0] 48)).drew.cell? ⟨by_, oy, none⟩ = some (.int .i64 m0) := by have h9 := hczy 0 _ rfl; have h8 := cell_of_row _ by_ (oy + 0) csy _ fzy hby9; rw [h9] at h8; exact h8
  have v1 : (w3.alloc (.cells #[.string ⟨#[]⟩, .int .i64 0, .int .i64 0, .int .i64 0] 48)).drew.cell? ⟨by_, oy + 1, none⟩ = some (.int .i64 m1) := by have h9 := hczy 1 _ rfl; have h8 := cell_of_row _ by_ (oy + 1) csy _ fzy hby9; rw [h9] at h8; exact h8
  clear ho3 hz3 hRS hR3 hm0 cy0 hczy hl2 hbl hbly hbk9 hby9
  go_wp2_with fail
  go_region
  have hN4 : (w3.alloc (.cells #[.string y1, .int .i64 m0, .int .i64 0, .int .i64 m1] 48)).drew.heap[w3.heap.size]? = some (.cells #[.string y1, .int .i64 m0, .int .i64 0, .int .i64 m1] 48 (0, 0)) := heap_alloc_new w3 _
  have hK4 : (w3.alloc (.cells #[.string y1, .int .i64 m0, .int .i64 0, .int .i64 m1] 48)).drew.heap[w.heap.size]? = some (.cells #[.string ⟨#[]⟩, .int .i64 0, .int .i64 0, .int .i64 0] 48 (0, 0)) := blk_alloc hK3 _
  have hbk4 : (w3.alloc (.cells #[.string y1, .int .i64 m0, .int .i64 0, .int .i64 m1] 48)).drew.heap[bx]? = some (.cells csx 9 fzx) := blk_alloc hbk3 _
  have hB4 : Below w.heap.size w (w3.alloc (.cells #[.string y1, .int .i64 m0, .int .i64 0, .int .i64 m1] 48)).drew := below_drewN (hB3.alloc hB3.size (.cells #[.string y1, .int .i64 m0, .int .i64 0, .int .i64 m1] 48)) 1
  have hlK : w.heap.size < w3.heap.size := lt_of_heap hK3
  clear g0 g1 f0' f1 f2 f3' u1 v0 v1 hK3 hB3 hbk3 hbky
  generalize (w3.alloc (.cells #[.string y1, .int .i64 m0, .int .i64 0, .int .i64 m1] 48)).drew = w4 at *
  generalize w3.heap.size = b8 at *
  obtain ⟨_, _, f2, _⟩ := hcel.out w4 hbk4
  obtain ⟨V, E, hPP⟩ : ∃ V E, parseP (bL y2) = (V, E) := ⟨_, _, rfl⟩
  have hPP' : parseP y2.data.toList = (V, E) := hPP
  rw [hPP] at hT3
  rw [hPP'] at hPs
  dsimp only at hT3 hPs
  clear hPP hPP' hcel hbk4
  have hne1 : b8 ≠ w.heap.size := by omega
  have hne2 : w.heap.size ≠ b8 := by omega
  by_cases h45e : bL y2 = [45]
  · rw [decide_eq_true h45e] at h45
    obtain rfl : SP = some ⟨y1, m0, 0, m1⟩ := by rw [hpar.out, hT2.out h45e]; rfl
    clear hpar hT2 hT3 hPs h45e
    obtain ⟨zK, yK⟩ := blk_facts hK4
    have zK0 := zK 0
    have yK0 := yK 0
    have zK1 := zK 1
    have yK1 := yK 1
    have zK2 := zK 2
    have yK2 := yK 2
    have zK3 := zK 3
    have yK3 := yK 3
    obtain ⟨zN, yN⟩ := blk_facts hN4
    have zN0 := zN 0
    have yN0 := yN 0
    have zN1 := zN 1
    have yN1 := yN 1
    have zN2 := zN 2
    have yN2 := yN 2
    have zN3 := zN 3
    have yN3 := yN 3
    go_wp2
    refine bodyPost_ret (v := .tuple #[.agg #[.string y1, .int .i64 m0, .int .i64 0, .int .i64 m1], .bool true]) (by simp [results, Tryz.results219, go_sem, zK]) rfl ⟨⟨y1, m0, 0, m1⟩, rfl, (fun _ => rfl), ?_⟩
    repeat (with_reducible refine Below.setCell ?_ (by first | (simp; done) | (simp; omega)) _)
    exact hB4
  · rw [decide_eq_false h45e] at h45
    have hq := hT3.out h45e
    clear hT2 hT3 h45e
    go_wp2_with fail
    refine (hPs.out _ (hMB.out _ hB4)).mono ?_; rintro e w5 ⟨rfl, B5⟩
    have hK5 := blk_below hK4 B5
    have hN5 := blk_below hN4 B5
    have hB5 := below_next hB4 B5
    clear hK4 hN4 hB4 B5 hPs f2 hMB
    by_cases hE : E = 0
    · subst hE
      obtain rfl : SP = some ⟨y1, m0, V, m1⟩ := by rw [hpar.out, hq]; rfl
      clear hpar hq
      obtain ⟨zK, yK⟩ := blk_facts hK5
      have zK0 := zK 0
      have yK0 := yK 0
      have zK1 := zK 1
      have yK1 := yK 1
      have zK2 := zK 2
      have yK2 := yK 2
      have zK3 := zK 3
      have yK3 := yK 3
      obtain ⟨zN, yN⟩ := blk_facts hN5
      have zN0 := zN 0
      have yN0 := yN 0
      have zN1 := zN 1
      have yN1 := yN 1
      have zN2 := zN 2
      have yN2 := yN 2
      have zN3 := zN 3
      have yN3 := yN 3
      go_wp2
      refine bodyPost_ret (v := .tuple #[.agg #[.string y1, .int .i64 m0, .int .i64 V, .int .i64 m1], .bool true]) (by simp [results, Tryz.results219, go_sem, zK]) rfl ⟨⟨y1, m0, V, m1⟩, rfl, (fun _ => rfl), ?_⟩
      repeat (with_reducible refine Below.setCell ?_ (by first | (simp; done) | (simp; omega)) _)
      exact hB5
    · have e9 : (E == 0) = false := beq_eq_false_iff_ne.2 hE
      obtain rfl : SP = none := by rw [hpar.out, hq, if_neg hE]; rfl
      clear hpar hq hE
      obtain ⟨zK, yK⟩ := blk_facts hK5
      have zK0 := zK 0
      have yK0 := yK 0
      have zK1 := zK 1
      have yK1 := yK 1
      have zK2 := zK 2
      have yK2 := yK 2
      have zK3 := zK 3
      have yK3 := yK 3
      obtain ⟨zN, yN⟩ := blk_facts hN5
      have zN0 := zN 0
      have yN0 := yN 0
      have zN1 := zN 1
      have yN1 := yN 1
      have zN2 := zN 2
      have yN2 := yN 2
      have zN3 := zN 3
      have yN3 := yN 3
      go_wp2
      refine bodyPost_ret (v := .tuple #[.agg #[.string y1, .int .i64 m0, .int .i64 V, .int .i64 m1], .bool false]) (by simp [results, Tryz.results219, go_sem, zK]) rfl ⟨⟨y1, m0, V, m1⟩, rfl, (fun h => by cases h), ?_⟩
      repeat (with_reducible refine Below.setCell ?_ (by first | (simp; done) | (simp; omega)) _)
      exact hB5
set_option maxHeartbeats 6400000 in
set_option maxRecDepth 100000 in
theorem rkRead_cl (w : World) (b N : Nat) (hN : N ≤ 900000) (hb : w.heap.size ≤ b) (hM : Mx w) : TakeL N 218 #[.pointer (some ⟨b, 0, none⟩)] (fun a => (rkParse a).isSome) (RkI w b) := by
  refine ⟨enters_of Tryz.func218 (by kernel_rfl) rfl, fun L s W hI hL hs => ?_, fun L W q h => h.below (below_drewN (Below.refl _ _) q), fun L W h => h.mx⟩
  have hIb := Lib.hid (fun W' (B : Below W.heap.size W W') => hI.below B)
  have hMxx := Lib.hid (fun W' (B : Below b w W') => hM.below (B.mono hb))
  have hRs := Lib.hid (readRk_c s W (by omega) hI.mx)
  have hGd := Lib.hid (fun (W' : World) (u : Value) (acc : List Rk) (x : Rk) h1 h2 h4 h5 h6 hm hB => TkI.good (T := 34) (Te := 48) (sz := 4) (enc := rkE) (parse := rkParse) (w := w) (b := b) (L := L) (a := s.data.toList) (W := W') (u := u) (acc := acc) (x := x) h1 h2 h4 h5 h6 hm hB)
  show Calls Tryz.prog 218 #[.string s, .pointer (some ⟨b, 0, none⟩)] W fun e w' => e = .returned (.bool (rkParse s.data.toList).isSome) ∧ RkI w b (L ++ [s.data.toList]) w'
  obtain ⟨SP, hSP⟩ : ∃ SP, rkParse s.data.toList = SP := ⟨_, rfl⟩
  rw [hSP] at hRs hGd ⊢
  clear hI hSP
  go_enter Tryz.func218, Tryz.ntmps218
  go_wp2_with fail
  refine hRs.out.mono ?_; rintro e w1 ⟨x, rfl, hx, B1⟩
  have I1 := hIb.out _ B1
  have hbel := I1.bel
  obtain ⟨u, acc, hbx, hoA, haL, hfA⟩ := I1.ex
  have hfA' := Lib.hid hfA
  have hx' := Lib.hid hx
  have haN : acc.length ≤ 1000000 := by omega
  clear hfA hx I1 hRs hIb
  obtain ⟨who, rank, time, fault⟩ := x
  dsimp only [rkE] at *
  have lb := lt_of_heap hbx
  have hbx2 := blk_alloc hbx (.cells #[.string who, .int .i64 rank, .int .i64 time, .int .i64 fault] 48)
  have hoA2 := hoA.alloc (.cells #[.string who, .int .i64 rank, .int .i64 time, .int .i64 fault] 48)
  have hB2 := hbel.alloc (Nat.le_of_lt lb) (.cells #[.string who, .int .i64 rank, .int .i64 time, .int .i64 fault] 48)
  have hn2 := heap_alloc_new w1 (.cells #[.string who, .int .i64 rank, .int .i64 time, .int .i64 fault] 48)
  have hz2 : b + 1 ≤ (w1.alloc (.cells #[.string who, .int .i64 rank, .int .i64 time, .int .i64 fault] 48)).heap.size := lt_of_heap hbx2
  have cb := (blk_facts hbx2).1 0
  clear hbx hoA hbel
  go_wp2_with (at_builtin; refine wpList_app rfl (.tmp 11) (.tmp 13) 34 rfl Tryz.underlying34 info_ranked rfl (by omega) (by omega) hoA2 rfl rfl (by first | rfl | (simp; done)) rfl (by simp [Value.oneCell']) (by omega) hz2 ?_; intro v4 w4 ho4 hg4; obtain ⟨A4, cp4, rfl⟩ := own_shape ho4; have hb4 := blk_grown hbx2 hg4 (fun e => by have := own_row_lt hoA2 b e.symm; omega); have c4 := (blk_facts hb4).1 0; have f4 := (blk_facts hb4).2 0)
  have hB4 := hB2.grown hg4 (Nat.le_of_lt (Nat.lt_of_succ_le hz2)) (fun k hk => by have := own_row_lt hoA2 k hk; omega)
  have hB5 := hB4.setCell (p := ⟨b, 0, none⟩) (Nat.le_refl _) (.slice A4 (acc.length + 1) cp4)
  have hFin := Lib.hid (hGd.out _ (.slice A4 (acc.length + 1) cp4) acc ⟨who, rank, time, fault⟩ (by have h9 := blk_set hb4 0 (.slice A4 (acc.length + 1) cp4); simpa using h9) (own_setT (o := 0) ho4 (Nat.lt_succ_self b) (.slice A4 (acc.length + 1) cp4)) haL hfA'.out hx'.out (hMxx.out _ hB5) hB5)
  clear hGd hB4 hB5 hb4 ho4 hg4 c4 f4 cb
  generalize w4.setCell ⟨b, 0, none⟩ (.slice A4 (acc.length + 1) cp4) = w8 at *
  go_wp2
  go_ret
  exact ⟨rfl, hFin.out⟩
set_option maxHeartbeats 6400000 in
set_option maxRecDepth 100000 in
theorem readRkT_c (s : ByteArray) (w : World) (hs : s.size ≤ 200000) (hM : Mx w) : Calls Tryz.prog 106 #[.string s] w (RetRf RRk rkErr rkParse s.data.toList w) := by
  have hCF := Lib.hid (fun A n c l W h => checkRankedA_c A n c l W h)
  have hL1 := Lib.hid (wordsLines_c (rkRead_cl w w.heap.size 900000 (by omega) (Nat.le_refl _) hM) s (w.alloc (.cells #[.slice none 0 0] 34)) (TkI.start hM) (by omega) (by omega))
  have hAll := Lib.hid (lnR_all (fun a => (rkParse a).isSome) s.data.toList.length s.data.toList (Nat.le_refl _))
  have hIx := Lib.hid (lnR_idx (fun a => (rkParse a).isSome) s.data.toList.length s.data.toList (Nat.le_refl _)).2
  have hzs := Lib.hid (Lib.size_eq s)
  have hR2 := Lib.hid (fun e w' (B : Below w.heap.size w w') (h2 : (lnR (fun a => (rkParse a).isSome) s.data.toList).2.2 = false) (he : e = .returned (.tuple #[.slice none 0 0, .int .i64 (lnR (fun a => (rkParse a).isSome) s.data.toList).2.1, .int .i64 9])) => show RetRf RRk rkErr rkParse s.data.toList w e w' from ⟨B, .inl ⟨h2, he⟩⟩)
  have hR3 := Lib.hid (fun e w' (B : Below w.heap.size w w') (h2 : (lnR (fun a => (rkParse a).isSome) s.data.toList).2.2 = true) (h4 : rkErr ((lnR (fun a => (rkParse a).isSome) s.data.toList).1.filterMap rkParse) ≠ 0) (he : e = .returned (.tuple #[.slice none 0 0, .int .i64 0, .int .i64 (rkErr ((lnR (fun a => (rkParse a).isSome) s.data.toList).1.filterMap rkParse))])) => show RetRf RRk rkErr rkParse s.data.toList w e w' from ⟨B, .inr ⟨h2, .inl ⟨h4, he⟩⟩⟩)
  have hR4 := Lib.hid (fun e w' (A : Option Addr) (n c : Nat) (B : Below w.heap.size w w') (h2 : (lnR (fun a => (rkParse a).isSome) s.data.toList).2.2 = true) (h4 : rkErr ((lnR (fun a => (rkParse a).isSome) s.data.toList).1.filterMap rkParse) = 0) (he : e = .returned (.tuple #[.slice A n c, .int .i64 0, .int .i64 0])) (h5 : RRk w' A n ((lnR (fun a => (rkParse a).isSome) s.data.toList).1.filterMap rkParse)) => show RetRf RRk rkErr rkParse s.data.toList w e w' from ⟨B, .inr ⟨h2, .inr ⟨h4, A, n, c, he, h5⟩⟩⟩)
  generalize RetRf RRk rkErr rkParse s.data.toList w = RD at *
  unfold RetLn at hL1
  generalize lnR (fun a => (rkParse a).isSome) s.data.toList = LN at *
  generalize rkErr = FE at *
  have hs3 : ¬ (200000 : Int) < s.size := by omega
  go_enter Tryz.func106, Tryz.ntmps106
  go_wp2_with fail
  refine hL1.out.mono ?_; rintro e w3 ⟨rfl, hI⟩
  have hB3' := hI.bel
  clear hL1
  cases hok : LN.2.2
  · have hR2' := Lib.hid (fun e he => hR2.out e w3 hB3' hok he)
    clear hok hR2 hR3 hR4 hI
    generalize LN.2.1 = IX at *
    go_wp2
    go_ret3
    exact hR2'.out _ rfl
  · have hcnt : LN.1.length ≤ 1000000 := by have := hIx.out; have := hzs.out; omega
    obtain ⟨A, n, c, acc, hbx, hrs, hdat⟩ := hI.out rkE_len hcnt
    obtain rfl := hdat (fun a ha => ((hAll.out hok).2 a ha).1)
    have hR3' := Lib.hid (fun e w' B h4 he => hR3.out e w' B hok h4 he)
    have hR4' := Lib.hid (fun e w' B h4 he h5 => hR4.out e w' A n c B hok h4 he h5)
    have y0 := (blk_facts hbx).1 0
    have hCf := Lib.hid (hCF.out A n c _ w3 hrs)
    have hbx' := Lib.hid (fun W (B : Below w3.heap.size w3 W) => show W.cell? ⟨w.heap.size, 0, none⟩ = some (.slice A n c) from (blk_facts (blk_below hbx B)).1 0)
    have hrs' := Lib.hid (fun W (B : Below w3.heap.size w3 W) => hrs.below B)
    generalize LN.1.filterMap rkParse = acc at *
    obtain ⟨E, hE⟩ : ∃ E, FE acc = E := ⟨_, rfl⟩
    rw [hE] at hCf hR3' hR4'
    clear hok hR2 hR3 hR4 hI hAll hIx hcnt hdat hbx hrs hE hCF
    go_wp2_with fail
    refine hCf.out.mono ?_; rintro e w4 ⟨rfl, B4⟩
    have hB4 := below_next hB3' B4
    have y0' := hbx'.out _ B4
    have hrs4 := hrs'.out _ B4
    clear hCf y0 hbx' hrs' B4
    by_cases h4 : E = 0
    · subst h4
      have hFin := Lib.hid (fun e he => hR4'.out e w4 hB4 (by first | rfl | trivial) he hrs4)
      clear hR3' hR4' hrs4
      go_wp2
      go_ret3
      exact hFin.out _ rfl
    · have hd : (E != 0) = true := by simpa using h4
      have hFin := Lib.hid (fun e he => hR3'.out e w4 hB4 h4 he)
      clear hR3' hR4' h4 hrs4
      go_wp2
      go_ret3
      exact hFin.out _ rfl
end Go.Proofs.YtklggnglaeagpaaGreatDoor
