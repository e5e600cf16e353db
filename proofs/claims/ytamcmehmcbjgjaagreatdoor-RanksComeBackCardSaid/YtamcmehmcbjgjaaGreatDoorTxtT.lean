/- timing.Parse of any string. Printed by wip/mktt.py. -/
import Derived.Test.YtamcmehmcbjgjaaGreatDoorTxtW
namespace Go.Proofs.YtamcmehmcbjgjaaGreatDoor
open Go.RowKit Go.Lib
set_option linter.unusedVariables false

theorem pairL_c (s : ByteArray) (w : World) : Calls Tryz.prog 186 #[.string s] w fun e w' => e = .returned (.tuple #[.int .i64 ((pairP s.data.toList).getD 0), .bool (pairP s.data.toList).isSome]) ∧ Below w.heap.size w w' := by
  by_cases h2 : s.size = 2
  · exact pair_c s w (by omega)
  · have e1 : pairP s.data.toList = none := by
      unfold pairP
      split
      · rename_i a b h3
        exfalso; apply h2
        have : s.data.toList.length = 2 := by rw [h3]; rfl
        rw [← this]; exact (Lib.size_eq s)
      · rfl
    rw [e1]
    have h3 : ((s.size : Int) != 2) = true := by simpa using (by omega : ¬ (s.size : Int) = 2)
    clear e1
    go_enter Tryz.func186, Tryz.ntmps186
    go_wp2
    go_ret2
    exact ⟨rfl, Below.refl _ _⟩
theorem cutM_c (s : ByteArray) (c : UInt8) (w : World) (hM : Mx w) (hs : s.size ≤ 900000) : Calls Tryz.prog 108 #[.string s, .string ⟨#[c]⟩] w fun e w' => e = .returned (.tuple #[.string ⟨(Lib.cut s.data.toList [c]).1.toArray⟩, .string ⟨(Lib.cut s.data.toList [c]).2.1.toArray⟩, .bool (Lib.cut s.data.toList [c]).2.2]) ∧ Below w.heap.size w w' := by
  obtain ⟨m, hm⟩ := hM
  refine (cutL_c s c m w hm (by omega)).mono ?_
  rintro e w' ⟨he, n, rfl⟩
  exact ⟨he, below_drewN (Below.refl _ _) n⟩
set_option maxHeartbeats 1600000 in
set_option maxRecDepth 100000 in
theorem parseL_c (s : ByteArray) (w : World) (hs : s.size ≤ 900000) (hM : Mx w) : Calls Tryz.prog 139 #[.string s] w fun e w' => e = .returned (.tuple #[.int .i64 (parseP s.data.toList).1, .int .i64 (parseP s.data.toList).2]) ∧ Below w.heap.size w w' := by
  have hC1 := Lib.hid (cutM_c s 46 w hM hs)
  have l1 := cut_len 46 s.data.toList
  rw [parse_parts]
  have hsz := Lib.size_eq s
  generalize Lib.cut s.data.toList [46] = C1 at *
  obtain ⟨lf, rt, ok⟩ := C1
  dsimp only at *
  have l2 := cut_len 58 lf
  have hC2 := Lib.hid (fun W h => cutM_c ⟨lf.toArray⟩ 58 W h (by show lf.toArray.size ≤ 900000; rw [List.size_toArray]; omega))
  have e1 : ∀ l : List UInt8, (⟨l.toArray⟩ : ByteArray).data.toList = l := fun l => by simp
  generalize Lib.cut lf [58] = C2 at *
  obtain ⟨mi, se, long⟩ := C2
  dsimp only at *
  have hP1 := Lib.hid (fun W => pairL_c ⟨rt.toArray⟩ W)
  have hP2 := Lib.hid (fun W => pairL_c ⟨se.toArray⟩ W)
  have hN3 := Lib.hid (fun W => numberL_c ⟨mi.toArray⟩ 3 W (by omega))
  have hN2 := Lib.hid (fun W => numberL_c ⟨lf.toArray⟩ 2 W (by omega))
  have b1 := fun h e => pair_two (l := rt) (h := h) e
  have b2 := fun h e => pair_two (l := se) (h := h) e
  have b3 := fun n e => num_bd (l := mi) (most := 3) (n := n) e (by omega)
  have b4 := fun n e => num_bd (l := lf) (most := 2) (n := n) e (by omega)
  have hlf : lf ≠ [] → lf.isEmpty = false := fun h => by simpa using h
  unfold parseQ longP shortP
  generalize pairP rt = P1 at *
  generalize pairP se = P2 at *
  generalize numP mi 3 = N3 at *
  generalize numP lf 2 = N2 at *
  clear e1 l1 l2 hsz
  go_enter Tryz.func139, Tryz.ntmps139
  go_wp2_with fail
  refine hC1.out.mono ?_; rintro e w1 ⟨rfl, B1⟩
  have hM1 := hM.below B1
  clear hM hC1
  go_wp2_with fail
  refine (hP1.out _).mono ?_; rintro e w2 ⟨rfl, B2⟩
  have hM2 := hM1.below B2
  replace B2 := below_next B1 B2
  clear hM1 B1 hP1
  cases ok
  · go_wp2
    go_ret2
    exact ⟨rfl, B2⟩
  rcases P1 with _ | h
  · go_wp2
    go_ret2
    exact ⟨rfl, B2⟩
  obtain ⟨h0, h1, _⟩ := b1 h rfl
  go_wp2_with fail
  refine (hC2.out _ hM2).mono ?_; rintro e w3 ⟨rfl, B3⟩
  replace B3 := below_next B2 B3
  clear hM2 B2 hC2 b1
  cases long
  · go_wp2_with fail
    refine (hN2.out _).mono ?_; rintro e w4 ⟨rfl, B4⟩
    replace B4 := below_next B3 B4
    clear B3 hN2 hN3 hP2 b2 b3
    rcases N2 with _ | n
    · go_wp2
      all_goals (go_ret2; exact ⟨rfl, B4⟩)
    · obtain ⟨n0, n1, n2⟩ := b4 n rfl
      have hlf' := hlf n2
      clear hlf b4
      by_cases hn : 0 ≤ n ∧ n < 60
      · obtain ⟨n3, n4⟩ := hn
        have hn5 : ¬ (60 ≤ n) := by omega
        have k1 : IntKind.i64.wrap (100 * n) = 100 * n := IntWalk.i64_in _ (by omega)
        have k2 : IntKind.i64.wrap (100 * n + h) = 100 * n + h := IntWalk.i64_in _ (by omega)
        go_wp2_with fail
        refine (isTime_c _ _).mono ?_; rintro e w5 ⟨rfl, rfl⟩
        have hv : 0 ≤ n ∧ n < 60 := ⟨n3, n4⟩
        by_cases hT : 1 ≤ 100 * n + h ∧ 100 * n + h ≤ 360000
        · have hT' : (decide (1 ≤ 100 * n + h ∧ 100 * n + h ≤ 360000)) = true := decide_eq_true hT
          rw [hT']
          have hF : finT 0 n h = (100 * n + h, 0) := by
            unfold finT
            rw [if_pos (by omega)]
            congr 1; omega
          clear hT hT'
          go_wp2
          go_ret2
          refine ⟨?_, B4⟩
          show Ending.returned (.tuple #[.int .i64 (100 * n + h), .int .i64 0]) = _
          simp [hv, hF]
        · have hT' : (decide (1 ≤ 100 * n + h ∧ 100 * n + h ≤ 360000)) = false := decide_eq_false hT
          rw [hT']
          have hF : finT 0 n h = (0, 1) := by
            unfold finT
            rw [if_neg (by omega)]
          clear hT hT'
          go_wp2
          go_ret2
          refine ⟨?_, B4⟩
          show Ending.returned (.tuple #[.int .i64 0, .int .i64 1]) = _
          simp [hv, hF]
      · have hn' : ¬ (0 ≤ n ∧ n < 60) := hn
        have hn2 := Lib.hid hn
        clear hn hn'
        go_wp2
        all_goals first | (exfalso; apply hn2.out; omega) | (go_ret2; exact ⟨rfl, B4⟩) | (go_ret2; refine ⟨?_, B4⟩; show Ending.returned (.tuple #[.int .i64 0, .int .i64 9]) = _; simp [hn2.out])
  · go_wp2_with fail
    refine (hN3.out _).mono ?_; rintro e w4 ⟨rfl, B4⟩
    replace B4 := below_next B3 B4
    clear B3 hN2 hN3 b4 hlf
    go_wp2_with fail
    refine (hP2.out _).mono ?_; rintro e w5 ⟨rfl, B5⟩
    replace B5 := below_next B4 B5
    clear B4 hP2
    rcases N3 with _ | m
    · go_wp2
      all_goals (go_ret2; exact ⟨rfl, B5⟩)
    obtain ⟨m0, m1, _⟩ := b3 m rfl
    rcases P2 with _ | n
    · go_wp2
      all_goals (go_ret2; exact ⟨rfl, B5⟩)
    obtain ⟨n0, n1, _⟩ := b2 n rfl
    clear b2 b3
    by_cases hn : 1 ≤ m ∧ n < 60
    · obtain ⟨n3, n4⟩ := hn
      have hn5 : ¬ (60 ≤ n) := by omega
      have k0 : IntKind.i64.wrap (6000 * m) = 6000 * m := IntWalk.i64_in _ (by omega)
      have k1 : IntKind.i64.wrap (100 * n) = 100 * n := IntWalk.i64_in _ (by omega)
      have k2 : IntKind.i64.wrap (6000 * m + 100 * n) = 6000 * m + 100 * n := IntWalk.i64_in _ (by omega)
      have k3 : IntKind.i64.wrap (6000 * m + 100 * n + h) = 6000 * m + 100 * n + h := IntWalk.i64_in _ (by omega)
      go_wp2_with fail
      refine (isTime_c _ _).mono ?_; rintro e w6 ⟨rfl, rfl⟩
      have hv : 1 ≤ m ∧ n < 60 := ⟨n3, n4⟩
      by_cases hT : 1 ≤ 6000 * m + 100 * n + h ∧ 6000 * m + 100 * n + h ≤ 360000
      · have hT' : (decide (1 ≤ 6000 * m + 100 * n + h ∧ 6000 * m + 100 * n + h ≤ 360000)) = true := decide_eq_true hT
        rw [hT']
        have hF : finT m n h = (6000 * m + 100 * n + h, 0) := by
          unfold finT
          rw [if_pos hT]
        clear hT hT'
        go_wp2
        go_ret2
        refine ⟨?_, B5⟩
        show Ending.returned (.tuple #[.int .i64 (6000 * m + 100 * n + h), .int .i64 0]) = _
        simp [hv, hF]
      · have hT' : (decide (1 ≤ 6000 * m + 100 * n + h ∧ 6000 * m + 100 * n + h ≤ 360000)) = false := decide_eq_false hT
        rw [hT']
        have hF : finT m n h = (0, 1) := by
          unfold finT
          rw [if_neg hT]
        clear hT hT'
        go_wp2
        go_ret2
        refine ⟨?_, B5⟩
        show Ending.returned (.tuple #[.int .i64 0, .int .i64 1]) = _
        simp [hv, hF]
    · have hn2 := Lib.hid hn
      clear hn
      go_wp2
      all_goals first | (exfalso; apply hn2.out; omega) | (go_ret2; exact ⟨rfl, B5⟩) | (go_ret2; refine ⟨?_, B5⟩; show Ending.returned (.tuple #[.int .i64 0, .int .i64 9]) = _; simp [hn2.out])
end Go.Proofs.YtamcmehmcbjgjaaGreatDoor
