/- Which turn a race has: the program's lookup. -/
import Derived.Test.YtjfppcejcbfngaaDoorTrn3
import Derived.Test.YtjfppcejcbfngaaDoorKeys
import Derived.Test.YtjfppcejcbfngaaDoorSplitF
import Derived.Test.YtjfppcejcbfngaaDoorClock
namespace Go.Proofs.YtjfppcejcbfngaaDoor
open Go.RowKit
set_option linter.unusedVariables false

def otherErr (r : Race) (course time : Int) : Int := if r.course ≠ course then 4 else if r.legs ≠ 1 then 3 else timeErr time
def lookErr (l : List Trn) (r : Race) (course time : Int) : Int := if turnsErr l ≠ 0 then turnsErr l else if raceErr r ≠ 0 then raceErr r else otherErr r course time
def findT (s m : Int) : List Trn → Option Trn
  | [] => none
  | t :: l => if t.stroke = s ∧ t.metres = m then some t else findT s m l
theorem findT_at {s m : Int} {l : List Trn} {k : Nat} {t : Trn} (h : l[k]? = some t) : findT s m (l.drop k) = if t.stroke = s ∧ t.metres = m then some t else findT s m (l.drop (k + 1)) := by rw [drop_at h]; rfl
def trn0 : Trn := ⟨0, 0, 0, 0, 0⟩
theorem lookErr_cases (l : List Trn) (r : Race) (course time : Int) : (lookErr l r course time = turnsErr l ∧ turnsErr l ≠ 0) ∨ (turnsErr l = 0 ∧ ((lookErr l r course time = raceErr r ∧ raceErr r ≠ 0) ∨ (raceErr r = 0 ∧
    ((lookErr l r course time = 4 ∧ r.course ≠ course) ∨ (r.course = course ∧ ((lookErr l r course time = 3 ∧ r.legs ≠ 1) ∨ (r.legs = 1 ∧ ((lookErr l r course time = 1 ∧ ¬ (1 ≤ time ∧ time ≤ 360000)) ∨ (lookErr l r course time = 0 ∧ (1 ≤ time ∧ time ≤ 360000)))))))))) := by
  unfold lookErr otherErr timeErr
  by_cases h1 : turnsErr l = 0
  · rw [if_neg (by omega)]
    by_cases h2 : raceErr r = 0
    · rw [if_neg (by omega)]
      by_cases h3 : r.course = course
      · rw [if_neg (by omega)]
        by_cases h4 : r.legs = 1
        · rw [if_neg (by omega)]
          by_cases h5 : 1 ≤ time ∧ time ≤ 360000
          · rw [if_pos h5]; simp [h1, h2, h3, h4, h5]
          · rw [if_neg h5]; simp [h1, h2, h3, h4, h5]
        · rw [if_pos h4]; simp [h1, h2, h3, h4]
      · rw [if_pos h3]; simp [h1, h2, h3]
    · rw [if_pos h2]; simp [h1, h2]
  · rw [if_pos h1]; simp [h1]
set_option maxHeartbeats 3200000 in
set_option maxRecDepth 100000 in
theorem turn_err (A : Option Addr) (n c : Nat) (l : List Trn) (r : Race) (time course : Int) (w : World) (h : RTn w A n l) (h0 : lookErr l r course time ≠ 0) :
    Calls Tryd.prog 132 #[.slice A n c, r.val, .int .i64 time, .int .i64 course] w fun e w' => e = .returned (.tuple #[trn0.val, .bool false, .int .i64 (lookErr l r course time)]) ∧ Below w.heap.size w w' := by
  have hcs := lookErr_cases l r course time
  have hT := Lib.hid (fun W => checkTurns_c A n c l W)
  have hR := Lib.hid (fun W => checkRace_c r W)
  generalize lookErr l r course time = E at *
  generalize turnsErr l = TE at *
  generalize raceErr r = RE at *
  obtain ⟨key, metres, stroke, course', legs, sex, young, old⟩ := r
  dsimp only [Race.val, Race.cells, Trn.val, Trn.cells, trn0] at *
  have hA := blk_alloc (blk_alloc (heap_alloc_new w (.cells #[.string key, .int .i64 metres, .int .i64 stroke, .int .i64 course', .int .i64 legs, .int .i64 sex, .int .i64 young, .int .i64 old] 27)) (.cells #[.int .i64 0, .int .i64 0, .int .i64 0, .int .i64 0, .int .i64 0] 160)) (.cells #[.int .i64 0, .int .i64 0, .int .i64 0, .int .i64 0, .int .i64 0] 160)
  have hK := blk_alloc (heap_alloc_new (w.alloc (.cells #[.string key, .int .i64 metres, .int .i64 stroke, .int .i64 course', .int .i64 legs, .int .i64 sex, .int .i64 young, .int .i64 old] 27)) (.cells #[.int .i64 0, .int .i64 0, .int .i64 0, .int .i64 0, .int .i64 0] 160)) (.cells #[.int .i64 0, .int .i64 0, .int .i64 0, .int .i64 0, .int .i64 0] 160)
  have hN := heap_alloc_new ((w.alloc (.cells #[.string key, .int .i64 metres, .int .i64 stroke, .int .i64 course', .int .i64 legs, .int .i64 sex, .int .i64 young, .int .i64 old] 27)).alloc (.cells #[.int .i64 0, .int .i64 0, .int .i64 0, .int .i64 0, .int .i64 0] 160)) (.cells #[.int .i64 0, .int .i64 0, .int .i64 0, .int .i64 0, .int .i64 0] 160)
  have hW : Below w.heap.size w (((w.alloc (.cells #[.string key, .int .i64 metres, .int .i64 stroke, .int .i64 course', .int .i64 legs, .int .i64 sex, .int .i64 young, .int .i64 old] 27)).alloc (.cells #[.int .i64 0, .int .i64 0, .int .i64 0, .int .i64 0, .int .i64 0] 160)).alloc (.cells #[.int .i64 0, .int .i64 0, .int .i64 0, .int .i64 0, .int .i64 0] 160)) := (((Below.refl _ _).alloc (Nat.le_refl _) _).alloc (by simp) _).alloc (by simp; omega) _
  simp only [World.size_alloc] at hK hN
  rcases hcs with ⟨rfl, h1⟩ | ⟨rfl, ⟨rfl, h2⟩ | ⟨rfl, ⟨rfl, h3⟩ | ⟨rfl, ⟨rfl, h4⟩ | ⟨rfl, ⟨rfl, h5⟩ | ⟨rfl, _⟩⟩⟩⟩⟩
  · have ht : (E != 0) = true := by simpa using h1
    clear h0 h1
    go_enter Tryd.func132, Tryd.ntmps132
    go_wp2_with fail
    refine (hT.out _ (((h.alloc _).alloc _).alloc _)).mono ?_; rintro e w1 ⟨rfl, B1⟩
    replace hA := blk_below hA B1
    replace hK := blk_below hK B1
    replace hN := blk_below hN B1
    replace hW := below_next hW B1
    clear B1
    obtain ⟨zK, yK⟩ := blk_facts hK
    obtain ⟨zN, yN⟩ := blk_facts hN
    go_wp2
    refine bodyPost_ret (v := .tuple #[.agg #[.int .i64 0, .int .i64 0, .int .i64 0, .int .i64 0, .int .i64 0], .bool false, .int .i64 E]) (by simp [results, Tryd.results132, go_sem, zK]) rfl ⟨rfl, ?_⟩
    repeat (with_reducible refine Below.setCell ?_ (by simp) _)
    exact hW
  · have ht : (E != 0) = true := by simpa using h2
    clear h0 h2
    go_enter Tryd.func132, Tryd.ntmps132
    go_wp2_with fail
    refine (hT.out _ (((h.alloc _).alloc _).alloc _)).mono ?_; rintro e w1 ⟨rfl, B1⟩
    replace hA := blk_below hA B1
    replace hK := blk_below hK B1
    replace hN := blk_below hN B1
    replace hW := below_next hW B1
    clear B1
    obtain ⟨zK, yK⟩ := blk_facts hK
    obtain ⟨zN, yN⟩ := blk_facts hN
    have zA := (blk_facts hA).1
    go_wp2_with fail
    refine (hR.out _).mono ?_; rintro e w2 ⟨rfl, B2⟩
    replace hA := blk_below hA B2
    replace hK := blk_below hK B2
    replace hN := blk_below hN B2
    replace hW := below_next hW B2
    clear B2
    clear zA zK yK zN yN
    obtain ⟨zK, yK⟩ := blk_facts hK
    obtain ⟨zN, yN⟩ := blk_facts hN
    have zA := (blk_facts hA).1
    go_wp2
    refine bodyPost_ret (v := .tuple #[.agg #[.int .i64 0, .int .i64 0, .int .i64 0, .int .i64 0, .int .i64 0], .bool false, .int .i64 E]) (by simp [results, Tryd.results132, go_sem, zK]) rfl ⟨rfl, ?_⟩
    repeat (with_reducible refine Below.setCell ?_ (by simp) _)
    exact hW
  · have ht : (course' != course) = true := by simpa using h3
    clear h0 h3
    go_enter Tryd.func132, Tryd.ntmps132
    go_wp2_with fail
    refine (hT.out _ (((h.alloc _).alloc _).alloc _)).mono ?_; rintro e w1 ⟨rfl, B1⟩
    replace hA := blk_below hA B1
    replace hK := blk_below hK B1
    replace hN := blk_below hN B1
    replace hW := below_next hW B1
    clear B1
    obtain ⟨zK, yK⟩ := blk_facts hK
    obtain ⟨zN, yN⟩ := blk_facts hN
    have zA := (blk_facts hA).1
    go_wp2_with fail
    refine (hR.out _).mono ?_; rintro e w2 ⟨rfl, B2⟩
    replace hA := blk_below hA B2
    replace hK := blk_below hK B2
    replace hN := blk_below hN B2
    replace hW := below_next hW B2
    clear B2
    clear zA zK yK zN yN
    obtain ⟨zK, yK⟩ := blk_facts hK
    obtain ⟨zN, yN⟩ := blk_facts hN
    have zA := (blk_facts hA).1
    go_wp2
    refine bodyPost_ret (v := .tuple #[.agg #[.int .i64 0, .int .i64 0, .int .i64 0, .int .i64 0, .int .i64 0], .bool false, .int .i64 4]) (by simp [results, Tryd.results132, go_sem, zK]) rfl ⟨rfl, ?_⟩
    repeat (with_reducible refine Below.setCell ?_ (by simp) _)
    exact hW
  · have ht : (legs != 1) = true := by simpa using h4
    clear h0 h4
    go_enter Tryd.func132, Tryd.ntmps132
    go_wp2_with fail
    refine (hT.out _ (((h.alloc _).alloc _).alloc _)).mono ?_; rintro e w1 ⟨rfl, B1⟩
    replace hA := blk_below hA B1
    replace hK := blk_below hK B1
    replace hN := blk_below hN B1
    replace hW := below_next hW B1
    clear B1
    obtain ⟨zK, yK⟩ := blk_facts hK
    obtain ⟨zN, yN⟩ := blk_facts hN
    have zA := (blk_facts hA).1
    go_wp2_with fail
    refine (hR.out _).mono ?_; rintro e w2 ⟨rfl, B2⟩
    replace hA := blk_below hA B2
    replace hK := blk_below hK B2
    replace hN := blk_below hN B2
    replace hW := below_next hW B2
    clear B2
    clear zA zK yK zN yN
    obtain ⟨zK, yK⟩ := blk_facts hK
    obtain ⟨zN, yN⟩ := blk_facts hN
    have zA := (blk_facts hA).1
    go_wp2
    refine bodyPost_ret (v := .tuple #[.agg #[.int .i64 0, .int .i64 0, .int .i64 0, .int .i64 0, .int .i64 0], .bool false, .int .i64 3]) (by simp [results, Tryd.results132, go_sem, zK]) rfl ⟨rfl, ?_⟩
    repeat (with_reducible refine Below.setCell ?_ (by simp) _)
    exact hW
  · have ht := Lib.hid (show decide (1 ≤ time ∧ time ≤ 360000) = false by simpa using h5)
    clear h0 h5
    go_enter Tryd.func132, Tryd.ntmps132
    go_wp2_with fail
    refine (hT.out _ (((h.alloc _).alloc _).alloc _)).mono ?_; rintro e w1 ⟨rfl, B1⟩
    replace hA := blk_below hA B1
    replace hK := blk_below hK B1
    replace hN := blk_below hN B1
    replace hW := below_next hW B1
    clear B1
    obtain ⟨zK, yK⟩ := blk_facts hK
    obtain ⟨zN, yN⟩ := blk_facts hN
    have zA := (blk_facts hA).1
    go_wp2_with fail
    refine (hR.out _).mono ?_; rintro e w2 ⟨rfl, B2⟩
    replace hA := blk_below hA B2
    replace hK := blk_below hK B2
    replace hN := blk_below hN B2
    replace hW := below_next hW B2
    clear B2
    clear zA zK yK zN yN
    obtain ⟨zK, yK⟩ := blk_facts hK
    obtain ⟨zN, yN⟩ := blk_facts hN
    have zA := (blk_facts hA).1
    go_wp2_with fail
    refine (isTime_c _ _).mono ?_; rintro e w' ⟨rfl, rfl⟩
    rw [ht.out]
    go_wp2
    refine bodyPost_ret (v := .tuple #[.agg #[.int .i64 0, .int .i64 0, .int .i64 0, .int .i64 0, .int .i64 0], .bool false, .int .i64 1]) (by simp [results, Tryd.results132, go_sem, zK]) rfl ⟨rfl, ?_⟩
    repeat (with_reducible refine Below.setCell ?_ (by simp) _)
    exact hW
  · exact absurd rfl h0

def trnO (o : Option Trn) : Trn := match o with | some t => t | none => trn0
set_option maxHeartbeats 3200000 in
set_option maxRecDepth 100000 in
theorem turn_ok (A : Option Addr) (n c : Nat) (l : List Trn) (r : Race) (time course : Int) (w : World) (h : RTn w A n l) (h0 : lookErr l r course time = 0) :
    Calls Tryd.prog 132 #[.slice A n c, r.val, .int .i64 time, .int .i64 course] w fun e w' => e = .returned (.tuple #[(trnO (findT r.stroke r.metres l)).val, .bool (findT r.stroke r.metres l).isSome, .int .i64 0]) ∧ Below w.heap.size w w' := by
  have hcs := lookErr_cases l r course time
  rw [h0] at hcs
  have hT := Lib.hid (fun W => checkTurns_c A n c l W)
  have hR := Lib.hid (fun W => checkRace_c r W)
  have hb := h.bd
  obtain ⟨hte, hre, hco, hle, hti⟩ : turnsErr l = 0 ∧ raceErr r = 0 ∧ r.course = course ∧ r.legs = 1 ∧ (1 ≤ time ∧ time ≤ 360000) := by omega
  rw [hte] at hT
  rw [hre] at hR
  clear hcs h0 hte hre
  obtain ⟨key, metres, stroke, course', legs, sex, young, old⟩ := r
  dsimp only [Race.val, Race.cells, Trn.val, Trn.cells, trn0] at *
  subst hco hle
  have hA := blk_alloc (blk_alloc (heap_alloc_new w (.cells #[.string key, .int .i64 metres, .int .i64 stroke, .int .i64 course', .int .i64 1, .int .i64 sex, .int .i64 young, .int .i64 old] 27)) (.cells #[.int .i64 0, .int .i64 0, .int .i64 0, .int .i64 0, .int .i64 0] 160)) (.cells #[.int .i64 0, .int .i64 0, .int .i64 0, .int .i64 0, .int .i64 0] 160)
  have hK := blk_alloc (heap_alloc_new (w.alloc (.cells #[.string key, .int .i64 metres, .int .i64 stroke, .int .i64 course', .int .i64 1, .int .i64 sex, .int .i64 young, .int .i64 old] 27)) (.cells #[.int .i64 0, .int .i64 0, .int .i64 0, .int .i64 0, .int .i64 0] 160)) (.cells #[.int .i64 0, .int .i64 0, .int .i64 0, .int .i64 0, .int .i64 0] 160)
  have hN := heap_alloc_new ((w.alloc (.cells #[.string key, .int .i64 metres, .int .i64 stroke, .int .i64 course', .int .i64 1, .int .i64 sex, .int .i64 young, .int .i64 old] 27)).alloc (.cells #[.int .i64 0, .int .i64 0, .int .i64 0, .int .i64 0, .int .i64 0] 160)) (.cells #[.int .i64 0, .int .i64 0, .int .i64 0, .int .i64 0, .int .i64 0] 160)
  have hW : Below w.heap.size w (((w.alloc (.cells #[.string key, .int .i64 metres, .int .i64 stroke, .int .i64 course', .int .i64 1, .int .i64 sex, .int .i64 young, .int .i64 old] 27)).alloc (.cells #[.int .i64 0, .int .i64 0, .int .i64 0, .int .i64 0, .int .i64 0] 160)).alloc (.cells #[.int .i64 0, .int .i64 0, .int .i64 0, .int .i64 0, .int .i64 0] 160)) := (((Below.refl _ _).alloc (Nat.le_refl _) _).alloc (by simp) _).alloc (by simp; omega) _
  simp only [World.size_alloc] at hK hN
  have ht := Lib.hid (show decide (1 ≤ time ∧ time ≤ 360000) = true by simpa using hti)
  clear hti
  go_enter Tryd.func132, Tryd.ntmps132
  go_wp2_with fail
  refine (hT.out _ (((h.alloc _).alloc _).alloc _)).mono ?_; rintro e w1 ⟨rfl, B1⟩
  replace hA := blk_below hA B1
  replace hK := blk_below hK B1
  replace hN := blk_below hN B1
  replace hW := below_next hW B1
  clear B1
  obtain ⟨zK, yK⟩ := blk_facts hK
  obtain ⟨zN, yN⟩ := blk_facts hN
  have zA := (blk_facts hA).1
  go_wp2_with fail
  refine (hR.out _).mono ?_; rintro e w2 ⟨rfl, B2⟩
  replace hA := blk_below hA B2
  replace hK := blk_below hK B2
  replace hN := blk_below hN B2
  replace hW := below_next hW B2
  clear B2
  clear zA zK yK zN yN
  obtain ⟨zK, yK⟩ := blk_facts hK
  obtain ⟨zN, yN⟩ := blk_facts hN
  have zA := (blk_facts hA).1
  go_wp2_with fail
  refine (isTime_c _ _).mono ?_; rintro e w' ⟨rfl, rfl⟩
  rw [ht.out]
  clear zA zK yK zN yN
  go_wp2
  go_loopw [47] (fun i wr => ∃ k : Nat, k ≤ n ∧ i = .int .i64 k ∧ Below w2.heap.size w2 wr ∧ Hid (findT stroke metres (l.drop k) = findT stroke metres l)) (fun i _ => n - (intOf i).toNat)
  case atStart => exact ⟨0, Nat.zero_le _, rfl, Below.refl _ _, Lib.hid rfl⟩
  case round =>
    obtain ⟨k, hk, rfl, hB, hF⟩ := hrel
    have hKr := blk_below hK hB
    have hAr := blk_below hA hB
    have hNr := blk_below hN hB
    have lK := lt_of_heap hKr
    have lA := lt_of_heap hAr
    have lN := lt_of_heap hNr
    have hWr := below_next hW hB
    have hwz := hW.size
    have hwr := hWr.size
    by_cases hlt : k < n
    · obtain ⟨b, off, x, rfl, hbl, hx, c0, c1, c2, c3, c4⟩ := RTn.at5 (h.below hWr) hlt
      have hS := Lib.hid (findT_at (s := stroke) (m := metres) hx)
      obtain ⟨x0, x1, x2, x3, x4⟩ := x
      dsimp only at *
      obtain ⟨zK, yK⟩ := blk_facts hKr
      have zA := (blk_facts hAr).1
      clear hx hK hA hN hKr hAr hNr
      by_cases h1 : x0 = stroke
      · by_cases h2 : x1 = metres
        · have hR := Lib.hid (show findT stroke metres l = some ⟨x0, x1, x2, x3, x4⟩ by rw [← hF.out, hS.out, if_pos ⟨h1, h2⟩])
          subst h1 h2
          go_wp2
          refine bodyPost_ret (v := .tuple #[.agg #[.int .i64 x0, .int .i64 x1, .int .i64 x2, .int .i64 x3, .int .i64 x4], .bool true, .int .i64 0]) (by simp [results, Tryd.results132, go_sem, zK, lK, World.cell?_alloc_lt]) rfl ⟨by rw [hR.out]; rfl, ?_⟩
          refine Below.alloc ?_ (by simpa using hwr) _
          repeat (with_reducible refine Below.setCell ?_ (by simp) _)
          exact hWr
        · have hR := Lib.hid (show findT stroke metres (l.drop (k + 1)) = findT stroke metres l by rw [← hF.out, hS.out, if_neg (fun h => h2 h.2)])
          subst h1
          have h2' : (x1 == metres) = false := beq_eq_false_iff_ne.2 h2
          clear h2
          go_wp2
          go_roundw
          case rel => exact ⟨k + 1, by omega, by go_num, hB.alloc hB.size _, hR⟩
          case measure => simp [intOf]; omega
      · have hR := Lib.hid (show findT stroke metres (l.drop (k + 1)) = findT stroke metres l by rw [← hF.out, hS.out, if_neg (fun h => h1 h.1)])
        have h1' : (x0 == stroke) = false := beq_eq_false_iff_ne.2 h1
        clear h1
        go_wp2
        go_roundw
        case rel => exact ⟨k + 1, by omega, by go_num, hB.alloc hB.size _, hR⟩
        case measure => simp [intOf]; omega
    · have hR : Hid (findT stroke metres l = none) := Lib.hid (by rw [← hF.out, drop_end (by rw [h.len]; omega)]; rfl)
      obtain ⟨zK, yK⟩ := blk_facts hKr
      obtain ⟨zN, yN⟩ := blk_facts hNr
      go_wp2
      refine bodyPost_ret (v := .tuple #[.agg #[.int .i64 0, .int .i64 0, .int .i64 0, .int .i64 0, .int .i64 0], .bool false, .int .i64 0]) (by simp [results, Tryd.results132, go_sem, zK]) rfl ⟨by rw [hR.out]; rfl, ?_⟩
      repeat (with_reducible refine Below.setCell ?_ (by simp) _)
      exact hWr
end Go.Proofs.YtjfppcejcbfngaaDoor
