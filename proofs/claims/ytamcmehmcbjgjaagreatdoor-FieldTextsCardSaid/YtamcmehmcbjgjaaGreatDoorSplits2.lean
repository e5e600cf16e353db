/- Splits that the stream makes, nearly always right ones. -/
import Derived.Test.YtamcmehmcbjgjaaGreatDoorFill
import Derived.Test.YtamcmehmcbjgjaaGreatDoorSplits
import Derived.Test.YtamcmehmcbjgjaaGreatDoorDraws
namespace Go.Proofs.YtamcmehmcbjgjaaGreatDoor
open Go.RowKit
set_option linter.unusedVariables false

theorem ksL_bd {zs : Zs} : ∀ (m k : Nat) (t : Int), ∀ x ∈ ksL zs m k t, t ≤ x ∧ x ≤ t + 1699 * m
  | 0, _, _, x, hx => by cases hx
  | m + 1, k, t, x, hx => by
    have st := ks_step zs k
    unfold ksL at hx
    rcases List.mem_cons.mp hx with rfl | hx
    · omega
    · have := ksL_bd m _ _ x hx
      omega
theorem own_take {w : World} {base : Nat} {e : TypeId} {A : Option Addr} {n c m : Nat} {xs : List Value} (h : w.ownsRow base e 1 (.slice A n c) n xs) (hm : m ≤ n) (hn : 0 < n) : w.ownsRow base e 1 (.slice A m c) m (xs.take m) := by
  have hl := h.1
  rcases h.2 with ⟨e1, rfl⟩ | ⟨g, cap, cur, hv, hb, hg, hnc, hcm, hcs, ht⟩
  · omega
  · injection hv with e1 e2 e3
    subst e1 e3
    refine ⟨by rw [List.length_take]; omega, .inr ⟨g, c, cur, rfl, hb, hg, by omega, hcm, hcs, ?_⟩⟩
    rw [← ht, List.take_take, Nat.mul_one, Nat.mul_one, Nat.min_eq_left hm]
theorem own_cap {w : World} {base : Nat} {e : TypeId} {A : Option Addr} {n c : Nat} {xs : List Value} (h : w.ownsRow base e 1 (.slice A n c) n xs) : n ≤ c := by
  rcases h.2 with ⟨e1, rfl⟩ | ⟨g, cap, cur, hv, hb, hg, hnc, hcm, hcs, ht⟩
  · omega
  · injection hv with e1 e2 e3; omega
theorem own_some {w : World} {base : Nat} {e : TypeId} {A : Option Addr} {n c : Nat} {xs : List Value} (h : w.ownsRow base e 1 (.slice A n c) n xs) (hn : 0 < n) : ∃ b, A = some ⟨b, 0, none⟩ ∧ base ≤ b := by
  rcases h.2 with ⟨e1, rfl⟩ | ⟨g, cap, cur, hv, hb, hg, hnc, hcm, hcs, ht⟩
  · omega
  · injection hv with e1 e2 e3; exact ⟨g, e1, hb⟩

set_option maxHeartbeats 1600000 in
set_option maxRecDepth 100000 in
theorem splits_c (g : Nat) (zs : Zs) (k : Nat) (r : Race) (w : World) (h : St w g zs k) (hk : k + 1000 ≤ 1099511627776) (hr : raceErr r = 0) :
    Calls Tryz.prog 98 #[.pointer (some ⟨g, 0, none⟩), r.val] w fun e w' => ∃ A n c l k', e = .returned (.slice A n c) ∧ w'.ownsRow w.heap.size 3 1 (.slice A n c) n (ints l) ∧ St w' g zs k' ∧ k' ≤ k + 800 ∧ w.grownBy w' (some g) ∧ n ≤ 240 := by
  have hb := lenV_bd hr
  have hglt := h.lt
  have Ho := fun W s => knownSplits_c g zs k r W s (by omega) hr
  have hm : ∀ x ∈ knownSplits zs k r, 0 ≤ x ∧ x ≤ 1000000 := fun x hx => by
    have := ksL_bd _ _ _ x hx
    omega
  have hlen : (knownSplits zs k r).length = (lenV r).toNat := by
    unfold knownSplits
    have : ∀ (m k : Nat) (t : Int), (ksL zs m k t).length = m := by
      intro m; induction m with
      | zero => intro _ _; rfl
      | succ m ih => intro k t; unfold ksL; rw [List.length_cons, ih]
    exact this _ _ _
  generalize hN : (lenV r).toNat = N at *
  have hN1 : 1 ≤ N ∧ N ≤ 240 := by omega
  generalize knownSplits zs k r = KS at *
  clear hN hb hr
  have Ho' := Lib.hid Ho; clear Ho
  obtain ⟨key, metres, stroke, course, legs, sex, young, old⟩ := r
  dsimp only [Race.val, Race.cells] at *
  go_enter Tryz.func98, Tryz.ntmps98
  go_wp2_with fail
  refine (Ho'.out _ (h.alloc _)).mono ?_; rintro e w1 ⟨A, n, c, rfl, hown, s1, g1⟩
  have hg1 := grown_trans (grown_alloc (grown_refl w _) _) g1
  have hown1 := own_mono (base' := w.heap.size) hown (by simp)
  obtain rfl : N = n := by have := hown.1; rw [← hlen]; simpa [ints] using this
  obtain ⟨b, rfl, hbb⟩ := own_some hown1 (by omega)
  have hcap := own_cap hown1
  go_wp2_with fail
  go_loopw [13] (fun i wr => ∃ (j k' : Nat) (l : List Int), j ≤ N ∧ i = .int .i64 j ∧ k' ≤ k + 480 + j ∧ wr.ownsRow w.heap.size 3 1 (.slice (some ⟨b, 0, none⟩) N c) N (ints l) ∧ (∀ x ∈ l, 0 ≤ x ∧ x ≤ 1000000) ∧ St wr g zs k' ∧ w.grownBy wr (some g)) (fun i _ => N - (intOf i).toNat)
  case atStart => exact ⟨0, _, KS, Nat.zero_le _, rfl, by omega, hown1, hm, s1, hg1⟩
  case round =>
    clear s1 hg1 hown1 hown g1 hm hlen
    obtain ⟨j, k', l, hj, rfl, hk', hown, hbd, hst, hgr⟩ := hrel
    by_cases hlt : j < N
    · by_cases hlt1 : j + 1 < N
      · have hg' : decide ((j : Int) + 1 < (N : Int)) = true := by simp; omega
        go_wp2_with fail
        refine (flip_c g zs k' _ _ hst (by omega) (by omega) (by omega)).mono ?_; rintro e w2 ⟨rfl, s2, g2⟩
        have hgr2 := grown_trans hgr g2
        have hown2 := own_keep hown hglt g2
        have hco := hown2.cellAt j (by omega)
        have hfo := hown2.frozenAt j
        obtain ⟨u0, hco'⟩ : ∃ u : Int, w2.cell? ⟨b, j, none⟩ = some (.int .i64 u) := by
          have hl := hown2.1
          rw [Nat.mul_one] at hl
          obtain ⟨u, hu⟩ := at_of_lt (l := l) (k := j) (by have : (ints l).length = l.length := by simp [ints]
                                                           omega)
          exact ⟨u, by rw [hco, ints_at, hu]; rfl⟩
        have hs := hown2.stored j (.int .i64 0)
        rw [ints_set] at hs
        have hsA := Lib.hid hs.1
        have hst2 : St (w2.setCell ⟨b, j, none⟩ (.int .i64 0)) g zs (k' + 1) := s2.setAt (by omega) _
        have hgr3 : w.grownBy (w2.setCell ⟨b, j, none⟩ (.int .i64 0)) (some g) := grown_setAt hgr2 hbb _
        have hbd' := Lib.hid hbd
        have hb2 : ∀ x ∈ l.set j 0, 0 ≤ x ∧ x ≤ 1000000 := fun x hx => by
          rcases List.mem_or_eq_of_mem_set hx with hx | rfl
          · exact hbd x hx
          · omega
        have hb2' := Lib.hid hb2
        clear hb2 hbd hs hco hown hst hgr
        by_cases hf : (nextV zs k' 4 == 0) = true
        · go_wp2
          go_roundw
          case rel => exact ⟨j + 1, k' + 1, l.set j 0, by omega, by go_num, by omega, hsA.out, hb2'.out, hst2, hgr3⟩
          case measure => simp [intOf]; omega
        · go_wp2
          go_roundw
          case rel => exact ⟨j + 1, k' + 1, l, by omega, by go_num, by omega, hown2, hbd'.out, s2, hgr2⟩
          case measure => simp [intOf]; omega
      · have hg' : decide ((j : Int) + 1 < (N : Int)) = false := by simp; omega
        go_wp2
        go_roundw
        case rel => exact ⟨j + 1, k', l, by omega, by go_num, by omega, hown, hbd, hst, hgr⟩
        case measure => simp [intOf]; omega
    · go_wp2_with fail
      refine (flip_c g zs k' _ _ hst (by omega) (by omega) (by omega)).mono ?_; rintro e w2 ⟨rfl, s2, g2⟩
      have hgr2 := grown_trans hgr g2
      have hown2 := own_keep hown hglt g2
      clear hown hgr hst g2
      have hll : l.length = N := by have := hown2.1; rw [ints_len] at this; omega
      by_cases hf : (nextV zs k' 15 == 0) = true
      · have nb := @nextV_bd zs (k' + 1) N (by omega)
        go_wp2_with fail
        refine (next_c g zs (k' + 1) _ _ s2 (by omega) (by omega) (by omega)).mono ?_; rintro e w3 ⟨rfl, s3, g3⟩
        have hgr3 := grown_trans hgr2 g3
        have hown3 := own_keep hown2 hglt g3
        generalize hv : nextV zs (k' + 1) N = v at *
        obtain ⟨m, rfl⟩ : ∃ m : Nat, v = (m : Int) := ⟨v.toNat, by omega⟩
        have hmN : m < N := by omega
        obtain ⟨x, hx⟩ := at_of_lt (l := l) (k := m) (by omega)
        have hxb := hbd x (List.mem_of_getElem? hx)
        have hco : w3.cell? ⟨b, m, none⟩ = some (.int .i64 x) := by rw [hown3.cellAt m (by omega), ints_at, hx]; rfl
        clear hgr2 hown2 s2 g3 hx hv
        go_wp2_with fail
        refine (pick_c g zs (k' + 1 + 1) _ _ _ [0, 1, x + 5000, 360001, -1] _ (s3.alloc _) (by omega) (R1.litAt _ _ _ _ (by simp) rfl (le_big (by simp))) (by simp)).mono ?_; rintro e w4 ⟨rfl, s4, g4⟩
        have hgr4 := grown_trans (grown_alloc hgr3 _) g4
        have hown4 := own_keep (hown3.alloc _) hglt g4
        have hco4 : w4.cell? ⟨b, m, none⟩ = some (.int .i64 x) := by rw [hown4.cellAt m (by omega), ← hown3.cellAt m (by omega)]; exact hco
        have hfo4 := hown4.frozenAt m
        generalize pickV zs (k' + 1 + 1) [0, 1, x + 5000, 360001, -1] = v at *
        have hs := hown4.stored m (.int .i64 v)
        rw [ints_set] at hs
        have hown5 := hs.1
        have s5 : St (w4.setCell ⟨b, m, none⟩ (.int .i64 v)) g zs (k' + 3) := s4.setAt (by omega) _
        have hgr5 : w.grownBy (w4.setCell ⟨b, m, none⟩ (.int .i64 v)) (some g) := grown_setAt hgr4 hbb _
        clear hgr3 hown3 s3 g4 hs hco hown4 s4 hgr4
        go_wp2_with fail
        refine (flip_c g zs (k' + 3) _ _ s5 (by omega) (by omega) (by omega)).mono ?_; rintro e w6 ⟨rfl, s6, g6⟩
        have hgr6 := grown_trans hgr5 g6
        have hown6 := own_keep hown5 hglt g6
        clear hgr5 hown5 s5 g6
        by_cases hf2 : (nextV zs (k' + 3) 20 == 0) = true
        · go_wp2
          go_ret
          exact ⟨_, N - 1, c, (l.set m v).take (N - 1), _, rfl, by have := own_take hown6 (m := N - 1) (by omega) (by omega); unfold ints at this ⊢; rw [List.map_take]; exact this, s6, by omega, hgr6, by omega⟩
        · go_wp2
          go_ret
          exact ⟨_, N, c, l.set m v, _, rfl, hown6, s6, by omega, hgr6, by omega⟩
      · go_wp2_with fail
        refine (flip_c g zs (k' + 1) _ _ s2 (by omega) (by omega) (by omega)).mono ?_; rintro e w6 ⟨rfl, s6, g6⟩
        have hgr6 := grown_trans hgr2 g6
        have hown6 := own_keep hown2 hglt g6
        clear hgr2 hown2 s2 g6
        by_cases hf2 : (nextV zs (k' + 1) 20 == 0) = true
        · go_wp2
          go_ret
          exact ⟨_, N - 1, c, l.take (N - 1), _, rfl, by have := own_take hown6 (m := N - 1) (by omega) (by omega); unfold ints at this ⊢; rw [List.map_take]; exact this, s6, by omega, hgr6, by omega⟩
        · go_wp2
          go_ret
          exact ⟨_, N, c, l, _, rfl, hown6, s6, by omega, hgr6, by omega⟩

end Go.Proofs.YtamcmehmcbjgjaaGreatDoor
