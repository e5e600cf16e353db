/- The stream's StartList as in StaL, with bounds of what is in it. Printed by wip/mkstab.py. -/
import Derived.Test.YtklggnglaeagpaaGreatDoorPDrawP
import Derived.Test.YtklggnglaeagpaaGreatDoorPTxtS
import Derived.Test.YtklggnglaeagpaaGreatDoorPOrdR20
import Derived.Test.YtklggnglaeagpaaGreatDoorPSeedM
import Derived.Test.YtklggnglaeagpaaGreatDoorPScrP
import Derived.Test.YtklggnglaeagpaaGreatDoorPRankM
import Derived.Test.YtklggnglaeagpaaGreatDoorPEnv
import Derived.Test.YtklggnglaeagpaaGreatDoorPMkReg
import Derived.BigRegion
namespace Go.Proofs.YtklggnglaeagpaaGreatDoor
open Go.RowKit Go.Shelf Go.Lib Go.Sort
set_option linter.unusedVariables false

abbrev SpB := {x : Sp // SpBd x}
def spbE (x : SpB) : List Value := spE x.1
def BdL (L : List Sp) : Prop := ∀ x ∈ L, SpBd x
theorem BdL.nil : BdL [] := fun x h => (by cases h)
theorem spbK : EncK spbE [3, 4, 4] := by
  refine ⟨fun _ => rfl, fun x c hc => ?_, fun x c v hc hv => ?_⟩
  · obtain ⟨⟨a, b, d⟩, h1, h2, h3⟩ := x
    rcases c with _ | _ | _ | c
    · exact ⟨_, rfl, _, rfl, h1⟩
    · exact ⟨_, rfl, _, rfl, h2⟩
    · exact ⟨_, rfl, _, rfl, h3⟩
    · simp at hc; omega
  · obtain ⟨⟨a, b, d⟩, h1, h2, h3⟩ := x
    rcases c with _ | _ | _ | c
    · obtain ⟨s, rfl, hs⟩ := hv; exact ⟨⟨⟨s, b, d⟩, hs, h2, h3⟩, rfl⟩
    · obtain ⟨s, rfl, hs⟩ := hv; exact ⟨⟨⟨a, s, d⟩, h1, hs, h3⟩, rfl⟩
    · obtain ⟨s, rfl, hs⟩ := hv; exact ⟨⟨⟨a, b, s⟩, h1, h2, hs⟩, rfl⟩
    · simp at hc; omega
theorem BdL.lift : ∀ {L : List Sp}, BdL L → ∃ Z : List SpB, Z.flatMap spbE = L.flatMap spE ∧ Z.length = L.length
  | [], _ => ⟨[], rfl, rfl⟩
  | x :: L, h => by
    obtain ⟨Z, h1, h2⟩ := BdL.lift (L := L) fun y hy => h y (List.mem_cons_of_mem _ hy)
    exact ⟨⟨x, h x (List.mem_cons_self ..)⟩ :: Z, by rw [List.flatMap_cons, List.flatMap_cons, h1]; rfl, by rw [List.length_cons, List.length_cons, h2]⟩
theorem BdL.down : ∀ (Z : List SpB), ∃ L, BdL L ∧ Z.flatMap spbE = L.flatMap spE ∧ L.length = Z.length
  | [] => ⟨[], BdL.nil, rfl, rfl⟩
  | x :: Z => by
    obtain ⟨L, h1, h2, h3⟩ := BdL.down Z
    refine ⟨x.1 :: L, fun y hy => ?_, by rw [List.flatMap_cons, List.flatMap_cons, h2]; rfl, by rw [List.length_cons, List.length_cons, h3]⟩
    rcases List.mem_cons.1 hy with rfl | h
    · exact x.2
    · exact h1 y h
theorem laneL_bdB {lo hi m : Int} (h1 : lo ≤ m) (h2 : m ≤ hi) : ∀ (d : Nat) (x : Int), x ∈ laneL lo hi m d → lo ≤ x ∧ x ≤ hi
  | 0, x, hx => by
    unfold laneL at hx
    rw [List.mem_singleton.1 hx]; exact ⟨h1, h2⟩
  | d + 1, x, hx => by
    unfold laneL laneA laneB at hx
    rcases List.mem_append.1 hx with hx | hx
    · rcases List.mem_append.1 hx with hx | hx
      · exact laneL_bdB h1 h2 d x hx
      · split at hx
        · rename_i h9; rw [List.mem_singleton.1 hx]; omega
        · cases hx
    · split at hx
      · rename_i h9; rw [List.mem_singleton.1 hx]; omega
      · cases hx
theorem stIn_bd {LV : List Int} {h : Int} {x : Sp} {B : Int} (hB : 0 ≤ B) (hL : ∀ y ∈ LV, -B ≤ y ∧ y ≤ B) : ∀ (l : List ByteArray) (j : Nat), x ∈ stIn LV h j l → x.who ∈ l ∧ x.heat = h ∧ -B ≤ x.lane ∧ x.lane ≤ B
  | [], _, hx => by cases hx
  | s :: r, j, hx => by
    unfold stIn at hx
    rcases List.mem_cons.1 hx with rfl | h9
    · refine ⟨List.mem_cons_self .., rfl, ?_⟩
      rw [List.getD_eq_getElem?_getD]
      cases h3 : LV[j]? with
      | none => simp; omega
      | some y => exact hL y (List.mem_of_getElem? h3)
    · obtain ⟨a, b, c⟩ := stIn_bd hB hL r (j + 1) h9
      exact ⟨List.mem_cons_of_mem _ a, b, c⟩
theorem stOut_bd {LV : List Int} {x : Sp} {B : Int} (hB : 0 ≤ B) (hL : ∀ y ∈ LV, -B ≤ y ∧ y ≤ B) : ∀ (R : List (List ByteArray)) (i : Nat), x ∈ stOut LV i R → x.who ∈ R.flatten ∧ (0 ≤ x.heat ∧ x.heat ≤ (i : Int) + R.length) ∧ -B ≤ x.lane ∧ x.lane ≤ B
  | [], _, hx => by cases hx
  | l :: r, i, hx => by
    unfold stOut at hx
    rw [List.flatten_cons, List.length_cons]
    rcases List.mem_append.1 hx with h9 | h9
    · obtain ⟨a, b, c⟩ := stIn_bd hB hL l 0 h9
      exact ⟨List.mem_append_left _ a, by omega, c⟩
    · obtain ⟨a, b, c⟩ := stOut_bd hB hL r (i + 1) h9
      exact ⟨List.mem_append_right _ a, by push_cast at *; omega, c⟩
theorem scrG_bd {x : Sp} : ∀ (l : List Sp) (old hh : Int), x ∈ scrG old hh l → (∃ y ∈ l, y.who = x.who ∧ y.lane = x.lane) ∧ hh ≤ x.heat ∧ x.heat ≤ hh + l.length
  | [], _, _, hx => by cases hx
  | y :: l, old, hh, hx => by
    unfold scrG at hx
    rw [List.length_cons]
    rcases List.mem_cons.1 hx with rfl | h9
    · refine ⟨⟨y, List.mem_cons_self .., rfl, rfl⟩, ?_⟩
      dsimp only
      split <;> (push_cast; omega)
    · obtain ⟨⟨z, h1, h2⟩, h3⟩ := scrG_bd l _ _ h9
      refine ⟨⟨z, List.mem_cons_of_mem _ h1, h2⟩, ?_⟩
      split at h3 <;> (push_cast; omega)
theorem BdL.scr {L : List Sp} (h : BdL L) (hn : L.length ≤ 1000) (a : List ByteArray) : BdL (scrL a L) := fun x hx => by
  obtain ⟨⟨y, h1, h2, h4⟩, h3⟩ := scrG_bd _ _ _ hx
  obtain ⟨q1, _, q3⟩ := h y (List.mem_filter.1 h1).1
  have hl : (L.filter fun y => !Lib.containsS a y.who).length ≤ L.length := List.length_filter_le _ _
  exact ⟨by rw [← h2]; exact q1, by omega, by rw [← h4]; exact q3⟩
/-- what StartList hands back -/
def RetSB (w : World) (g : Nat) (zs : Zs) (k : Nat) (e : Ending) (w' : World) : Prop := ∃ (A : Option Addr) (n c : Nat) (L : List Sp) (k' : Nat), e = .returned (.slice A n c) ∧ w'.ownsRow w.heap.size 153 3 (.slice A n c) n (L.flatMap spE) ∧ n ≤ 20 ∧ BdL L ∧ St w' g zs k' ∧ k' ≤ k + 1000 ∧ w.grownBy w' (some g)
set_option maxHeartbeats 6400000 in
set_option maxRecDepth 100000 in
theorem startListB_c (p : Pl) (hpb : PlBd p) (g : Nat) (zs : Zs) (k : Nat) (w w0 : World) (h : St w g zs k) (hk : k + 20000 ≤ 1099511627776) (hT : Tb w0) (hb0 : Below w0.heap.size w0 w) (hg0 : w0.heap.size ≤ g) :
    Calls Tryz.prog 87 #[.pointer (some ⟨g, 0, none⟩), p.val] w (RetSB w g zs k) := by
  have hRS := Lib.hid (fun W (hs : St W g zs k) (hg : w.grownBy W (some g)) => rightSeeds_c g zs k 20 W w0 hs (by omega) (by omega) hT (hb0.trans (grown_below hg hg0 hb0.size)) hg0)
  have hPF := Lib.hid (fun W => poolFault_c p hpb W)
  have E0 := Env1.new h p.cells 131
  have hDO := Lib.hid (fun (hp : PlOk p) (A : Option Addr) (n c : Nat) (l : List Sd) W (hr : RSd W A n l) (h0 : seedErr l = 0) (hn : n ≤ 20) => show ∃ R, (szErr (p.hi - p.lo + 1) (orderV l).length = 0 → R.flatten.length ≤ 20 ∧ R.length ≤ 60 ∧ ∀ s ∈ R.flatten, s.size ≤ 100) ∧ Calls Tryz.prog 204 #[p.val, .slice A n c] W (RetDw W p (orderV l) R) by
    have hln : (orderV l).length = n := by unfold orderV; rw [if_pos h0, List.length_map, ord_len]; exact hr.len
    have hO : ∀ W', Below W.heap.size W W' → Calls Tryz.prog 277 #[.slice A n c] W' fun e w' => ∃ A' c', e = .returned (.slice A' n c') ∧ RS 9 w' A' n (orderV l) ∧ n ≤ c' ∧ Below W'.heap.size W' w' := fun W' B => (orderRef20_c A n c l W' (hr.below B) hn h0).mono fun e w' ⟨A', n', c', h1, h2, h3, h4⟩ => by
      have hn' : n' = n := by rw [← h2.len, hln]
      subst hn'
      exact ⟨A', c', h1, h2, h3, h4⟩
    by_cases he : szErr (p.hi - p.lo + 1) n = 0
    · obtain ⟨hS1, hS2, hS3⟩ := szV_facts (lanes := p.hi - p.lo + 1) (le := p.le) (many := (n : Int)) (by have := hp.1.2; omega) hp.2.2.1 (by omega) he
      have hI0 := InvH.start (S := szV (p.hi - p.lo + 1) p.le n) (who := orderV l) (fun x hx => (hS1 x hx).1) (by rw [hln]; exact hS2.symm)
      obtain ⟨R, hR⟩ := drawR_ex (ci := p.ci) hp.2.2.2.1 (InvH.start (S := szV (p.hi - p.lo + 1) p.le n) (who := orderV l) (fun x hx => (hS1 x hx).1) (by rw [hln]; exact hS2.symm))
      exact ⟨R, fun _ => ⟨by rw [(drawR_inv hI0 hR).1.length_eq, hln]; exact hn, by rw [(drawR_inv hI0 hR).2.1]; exact hS3, fun s hs => by
        have h9 := (drawR_inv hI0 hR).1.mem_iff.1 hs
        unfold orderV at h9
        rw [if_pos h0] at h9
        obtain ⟨x, h8, rfl⟩ := List.mem_map.1 h9
        exact Nat.le_trans (key_small ((seedErr_ok h0).2 x ((ord_perm l).mem_iff.1 h8)).1).2 (by decide)⟩, drawOf_c p hp A n c (orderV l) W hO hln (by omega) R (fun _ => hR)⟩
    · exact ⟨[], fun h => (by rw [hln] at h; exact absurd h he), drawOf_c p hp A n c (orderV l) W hO hln (by omega) [] (fun h => absurd h he)⟩)
  have hgl := h.lt
  have hpok := Lib.hid (fun (h : poolErr p = 0) => poolErr_ok h)
  clear hT hb0 hg0 h
  obtain ⟨lo, hi, le, ci⟩ := p
  dsimp only [Pl.val, Pl.cells] at *
  obtain ⟨z, y⟩ := E0.facts
  have z0 := z 0
  have z1 := z 1
  have z2 := z 2
  have z3 := z 3
  clear z y
  by_cases hPE : poolErr ⟨lo, hi, le, ci⟩ = 0
  rotate_left
  · have hb : (poolErr ⟨lo, hi, le, ci⟩ != 0) = true := by simpa using hPE
    clear hRS hDO hpok hPE
    generalize poolErr ⟨lo, hi, le, ci⟩ = PE at *
    go_enter Tryz.func87, Tryz.ntmps87
    go_wp2_with fail
    refine (hPF.out _).mono ?_; rintro e w1 ⟨rfl, B1⟩
    have E1 := E0.below B1
    clear E0 hPF B1 z0 z1 z2 z3
    go_wp2
    go_ret
    exact ⟨none, 0, 0, [], k, rfl, World.ownsRow_nil _ _ _ _, by omega, BdL.nil, E1.st, by omega, E1.gr⟩
  have hp := hpok.out hPE
  rw [hPE] at hPF
  have hDO' := Lib.hid (fun A n c l W h1 h2 h3 => hDO.out hp A n c l W h1 h2 h3)
  have hLV := Lib.hid (fun (R : List (List ByteArray)) (x : Sp) (hR : R.length ≤ 60) (hx : x ∈ stOut (laneV lo hi) 0 R) => stOut_bd (B := 100) (by decide) (fun y hy => by
    have h9 := laneL_bdB (m := midL lo hi) (by unfold midL; have := hp.1; dsimp only at this; omega) (by unfold midL; have := hp.1; dsimp only at this; omega) _ y hy
    have h8 := hp.1; have h7 := hp.2.1; dsimp only at h8 h7; omega) R 0 hx)
  have hpl := hpb.1
  have hph := hpb.2
  dsimp only at hpl hph
  clear hDO hPE hpok hp hpb
  go_enter Tryz.func87, Tryz.ntmps87
  go_wp2_with fail
  refine (hPF.out _).mono ?_; rintro e w1 ⟨rfl, B1⟩
  have E1 := E0.below B1
  clear E0 hPF B1 z0 z1 z2 z3
  go_wp2_with fail
  refine (hRS.out _ E1.st E1.gr).mono ?_; rintro e w2 ⟨As, ns, cs, l, k2, rfl, rs, h0, hns, s2, hk2, g2, _⟩
  have E2 := E1.call s2 g2
  obtain ⟨R, hRl, hDw⟩ := hDO'.out As ns cs l w2 rs h0 hns
  have hRl' := Lib.hid hRl
  clear hRl
  have hDw' := Lib.hid hDw
  clear hRS hDO' rs h0 s2 g2 E1 hDw
  obtain ⟨z, y⟩ := E2.facts
  have z0 := z 0
  have z1 := z 1
  have z2 := z 2
  have z3 := z 3
  clear z y
  go_wp2_with fail
  refine hDw'.out.mono ?_; rintro e w3 hret
  rcases hret with ⟨_, rfl, B3⟩ | ⟨hz3, A3, n3, c3, D, rfl, ho3, _, hs3, B3⟩
  · have E3 := E2.below B3
    clear E2 hDw' B3 z0 z1 z2 z3
    go_wp2
    go_ret
    exact ⟨none, 0, 0, [], k2, rfl, World.ownsRow_nil _ _ _ _, by omega, BdL.nil, E3.st, by omega, E3.gr⟩
  · have E3 := E2.below B3
    have ho4 := own_mono ho3 E2.gr.size
    have hn3 : n3 ≤ 20 := by
      have h1 := (hRl'.out hz3).1
      have h2 := hs3.1.length_eq
      rw [stOut_lenH] at h2
      have h3 := own_len spE_len (by decide) ho3
      omega
    have hzD : Hid (BdL D) := Lib.hid fun x hx => by
      obtain ⟨q1, q2, q3⟩ := hRl'.out hz3
      obtain ⟨d1, d2, d3⟩ := hLV.out R x q2 (hs3.1.mem_iff.1 hx)
      exact ⟨q3 _ d1, by push_cast at d2; omega, by omega⟩
    clear hLV
    clear hs3 hz3 hRl'
    clear E2 hDw' B3 ho3 z0 z1 z2 z3
    go_wp2_with fail
    refine (pickE_c g zs k2 _ _ _ [0, 0, 1, 3] _ (E3.tmp _).st (by omega) (R1.litAt _ _ _ _ (by first | rfl | (simp; done)) (by simp) (by simp)) (by simp)).mono ?_; rintro e w4 ⟨v, rfl, hv, s4, g4⟩
    have ho5 := own_keep (own_below ho4 (below_new w3 (.cells #[.int .i64 0, .int .i64 0, .int .i64 1, .int .i64 3] 3))) hgl g4
    have E4 := (E3.tmp (.cells #[.int .i64 0, .int .i64 0, .int .i64 1, .int .i64 3] 3)).call s4 g4
    have hv0 : 0 ≤ v ∧ v ≤ 3 := by simp at hv; omega
    clear hv s4 g4 E3 ho4
    go_wp2_with fail
    go_loopw [6, 25] (fun u iv wr => ∃ (j : Nat) (A : Option Addr) (n c : Nat) (L : List Sp) (kk : Nat), (j : Int) ≤ v ∧ iv = .int .i64 j ∧ u = .slice A n c ∧ wr.ownsRow w.heap.size 153 3 (.slice A n c) n (L.flatMap spE) ∧ n ≤ 20 ∧ Hid (BdL L) ∧ kk ≤ k2 + 1 + j ∧ Env1 w wr g zs kk w.heap.size #[.int .i64 lo, .int .i64 hi, .int .i64 le, .int .i64 ci] 131) (fun _ iv _ => v.toNat - (intOf iv).toNat)
    case atStart => exact ⟨0, A3, n3, c3, D, k2 + 1, by omega, rfl, rfl, ho5, hn3, hzD, by omega, E4⟩
    case round =>
      clear ho5 E4 hzD
      rename World => wr
      obtain ⟨j, A, n, c, L, kk, hj, rfl, rfl, ho, hn, hzL, hkk, E⟩ := hrel
      by_cases hlt : (j : Int) < v
      · rcases Nat.eq_zero_or_pos n with h0 | hp
        · subst h0
          go_wp2
          go_roundw
          case rel => exact ⟨j + 1, A, 0, c, L, kk, by omega, by go_num, rfl, ho, hn, hzL, by omega, E⟩
          case measure => simp [intOf]; omega
        · have hpi : (0 : Int) < (n : Int) := by omega
          go_wp2_with fail
          refine (nextE_c g zs kk (n : Int) _ E.st (by omega) (by omega) (by omega)).mono ?_; rintro e w6 ⟨q, rfl, q0, q1, s6, g6⟩
          obtain ⟨q, rfl⟩ : ∃ m : Nat, q = m := ⟨q.toNat, by omega⟩
          have ho6 := own_keep ho hgl g6
          have E6 := E.call s6 g6
          have hR6 : RSp w6 A n L := RN.of_own spE_len ho6 (own_len spE_len (by decide) ho6) (by omega)
          have hll := Lib.hid hR6.len
          obtain ⟨b, off, x, rfl, hbl, hx, c0, c1, c2⟩ := RSp_at3 hR6 (k := q) (by omega)
          obtain ⟨who, heat, lane⟩ := x
          dsimp only at *
          have hS6 := Lib.hid (scratchOf_c (some ⟨b, off, none⟩) _ n c 1 1 L [who] _ (hR6.below (below_new w6 (.cells #[.string who] 9))) (R1.lit w6 #[.string who] [who] rfl (by simp)) (by omega))
          have E7 := E6.tmp (.cells #[.string who] 9)
          clear hx E s6 g6 hR6 ho
          go_wp2_with fail
          refine hS6.out.mono ?_; rintro e w8 ⟨A8, n8, c8, rfl, ho8, hn8, B8⟩
          have ho9 := own_mono ho8 E7.gr.size
          have E8 := E7.below B8
          clear hS6 ho8 B8 E7 E6 ho6
          go_wp2
          go_roundw
          case rel => exact ⟨j + 1, A8, n8, c8, _, kk + 1, by omega, by go_num, rfl, ho9, by omega, Lib.hid (hzL.out.scr (by rw [hll.out]; omega) _), by omega, E8⟩
          case measure => simp [intOf]; omega
      · have hjv : (j : Int) = v := by omega
        rcases Nat.eq_zero_or_pos n with h0 | hp
        · subst h0
          go_wp2
          go_ret
          exact ⟨A, 0, c, L, kk, rfl, ho, hn, hzL.out, E.st, by omega, E.gr⟩
        · have hpi : (0 : Int) < (n : Int) := by omega
          go_wp2_with fail
          refine (flipE_c g zs kk _ _ E.st (by omega) (by omega) (by omega)).mono ?_; rintro e w6 ⟨fl, rfl, s6, g6⟩
          have ho6 := own_keep ho hgl g6
          have E6 := E.call s6 g6
          clear E ho s6 g6
          cases fl
          · go_wp2
            go_ret
            exact ⟨A, n, c, L, kk + 1, rfl, ho6, hn, hzL.out, E6.st, by omega, E6.gr⟩
          · go_wp2_with fail
            refine (nextE_c g zs _ (n : Int) _ E6.st (by omega) (by omega) (by omega)).mono ?_; rintro e w7 ⟨q, rfl, q0, q1, s7, g7⟩
            obtain ⟨q, rfl⟩ : ∃ m : Nat, q = m := ⟨q.toNat, by omega⟩
            have ho7 := own_keep ho6 hgl g7
            have E7 := E6.call s7 g7
            have hl7 := own_len spE_len (by decide) ho7
            obtain ⟨b, rfl, hbb⟩ := own_someN ho7 hp
            have hq : q < n := by omega
            obtain ⟨ZL, hZ1, hZ2⟩ := hzL.out.lift
            have hbp : b ≠ w.heap.size := by
              intro e0
              have h1 := E7.h1
              rcases ho7.2 with ⟨h9, _⟩ | ⟨g9, cap, cur, hv9, _, h2, _⟩
              · cases h9
              · injection hv9 with hv9
                injection hv9 with hv9
                injection hv9 with hv9
                subst hv9
                rw [e0, h1] at h2
                injection h2 with h2
                injection h2 with _ h2
                exact absurd h2 (by decide)
            have hgb : g < w.heap.size := hgl
            have s7' := E7.st
            have gr7 := E7.gr
            have pb7 := E7.h1
            rw [← hZ1] at ho7
            rw [← hZ2] at hl7
            clear hzL E6 ho6 s7 g7 E7 hZ1 hZ2
            go_wp2_with fail
            obtain ⟨hph1, hph2⟩ := hph
            have hwr : IntKind.i64.wrap (hi + 1) = hi + 1 := IntWalk.i64_in _ (by omega)
            refine wp_region_inv (by kernel_rfl) (fun listed a w' => ∃ xs : Nat → Value, a = { tmps := #[.pointer (some ⟨g, 0, none⟩), .agg #[.int .i64 lo, .int .i64 hi, .int .i64 le, .int .i64 ci], undef, .pointer (some ⟨w.heap.size, 0, none⟩), .slice none 0 0, .slice As ns cs, .slice (some ⟨b, 0, none⟩) n c, .int .i64 0, .pointer (some ⟨b, q * 3, none⟩), .agg #[.int .i64 lo, .int .i64 hi, .int .i64 le, .int .i64 ci], .int .i64 0, .bool false, .pointer (some ⟨g, 0, none⟩), .slice As ns cs, .tuple #[.slice A3 n3 c3, .int .i64 0], .agg #[.int .i64 lo, .int .i64 hi, .int .i64 le, .int .i64 ci], .slice As ns cs, .tuple #[.slice A3 n3 c3, .int .i64 0], .slice A3 n3 c3, .int .i64 0, .int .i64 0, .bool false, .pointer (some ⟨g, 0, none⟩), .slice (some ⟨w3.heap.size, 0, none⟩) 4 4, .int .i64 v, .int .i64 v, .bool false, u27, u28, u29, u30, u31, u32, u33, u34, u35, u36, u37, u38, u39, u40, u41, .slice (some ⟨b, 0, none⟩) n c, .int .i64 ↑n, .bool true, .bool true, .pointer (some ⟨g, 0, none⟩), .bool true, .bool true, .slice (some ⟨b, 0, none⟩) n c, .pointer (some ⟨g, 0, none⟩), .slice (some ⟨b, 0, none⟩) n c, .int .i64 ↑n, .int .i64 (q : Int), .pointer (some ⟨b, q * 3, none⟩), xs 0, xs 1, xs 2, xs 3, xs 4, xs 5, xs 6, xs 7, xs 8, xs 9, xs 10, xs 11, xs 12, xs 13, xs 14, xs 15, xs 16, xs 17, xs 18, xs 19, xs 20, xs 21, xs 22, xs 23, xs 24, xs 25, xs 26, xs 27, xs 28, xs 29, xs 30, xs 31, xs 32, xs 33, xs 34, xs 35, xs 36, xs 37, xs 38, xs 39, xs 41, xs 42, xs 44, xs 45, undef], defers := [] } ∧ (∀ j, listed.getD j false = true → CT 3 9 153 spbE [.val (.pointer (some ⟨b, q * 3, none⟩)), .val (.pointer (some ⟨b, q * 3, none⟩)), .val (.pointer (some ⟨b, q * 3, none⟩)), .val (.pointer (some ⟨g, 0, none⟩)), .val (.pointer (some ⟨b, q * 3, none⟩)), .val (.pointer (some ⟨b, q * 3, none⟩)), .val (.pointer (some ⟨b, q * 3, none⟩)), .strS, .val (.slice (some ⟨b, 0, none⟩) n c), .val (.pointer (some ⟨b, 0, none⟩)), .val (.pointer (some ⟨b, 0, none⟩)), .strS, .strsS 3, .strS, .val (.pointer (some ⟨g, 0, none⟩)), .val (.pointer (some ⟨b, q * 3, none⟩)), .val (.pointer (some ⟨b, q * 3, none⟩)), .val (.pointer (some ⟨b, q * 3 + 1, none⟩)), .int (-9223372036854775808) 9223372036854775807, .val (.pointer (some ⟨b, q * 3, none⟩)), .val (.pointer (some ⟨b, q * 3, none⟩)), .val (.pointer (some ⟨b, q * 3 + 1, none⟩)), .int (-9223372036854775808) 9223372036854775807, .int (-9223372036854775808) 9223372036854775807, .intsB 4 (-9223372036854775808) 9223372036854775807, .int (-9223372036854775808) 9223372036854775807, .val (.pointer (some ⟨g, 0, none⟩)), .val (.pointer (some ⟨b, q * 3, none⟩)), .val (.pointer (some ⟨b, q * 3, none⟩)), .val (.pointer (some ⟨b, q * 3 + 2, none⟩)), .int (-9223372036854775808) 9223372036854775807, .val (.pointer (some ⟨w.heap.size, 1, none⟩)), .val (.int .i64 hi), .int (-1099511627775) 1099511627777, .val (.pointer (some ⟨w.heap.size, 0, none⟩)), .val (.int .i64 lo), .intsB 3 (-9223372036854775808) 9223372036854775807, .int (-9223372036854775808) 9223372036854775807, .val (.pointer (some ⟨b, q * 3, none⟩)), .val (.pointer (some ⟨b, q * 3, none⟩)), .any, .val (.pointer (some ⟨b, q * 3, none⟩)), .val (.pointer (some ⟨b, q * 3 + 1, none⟩)), .any, .val (.pointer (some ⟨b, q * 3, none⟩)), .val (.pointer (some ⟨b, q * 3 + 2, none⟩)), .any] j w' (xs j)) ∧ MW1 w7 g zs 153 spbE 3 w.heap.size b n c (kk + 1 + 1 + 10) [13, 25, 37] listed w') ?h0 (AllOps.of ?hs) ?he
            case h0 => exact ⟨fun j => match j with | 0 => undef | 1 => undef | 2 => undef | 3 => undef | 4 => undef | 5 => undef | 6 => undef | 7 => undef | 8 => undef | 9 => undef | 10 => undef | 11 => undef | 12 => undef | 13 => undef | 14 => undef | 15 => undef | 16 => undef | 17 => undef | 18 => undef | 19 => undef | 20 => undef | 21 => undef | 22 => undef | 23 => undef | 24 => undef | 25 => undef | 26 => undef | 27 => undef | 28 => undef | 29 => undef | 30 => undef | 31 => undef | 32 => undef | 33 => undef | 34 => undef | 35 => undef | 36 => undef | 37 => undef | 38 => undef | 39 => undef | 41 => undef | 42 => undef | 44 => undef | 45 => undef | _ => undef, rfl, (fun j hj => by rw [rep_false] at hj; cases hj), MW1.start s7' ho7 hl7 (by first | (simp; done) | (simp; omega))⟩
            case hs =>
              refine ⟨?_, ?_, ?_, ?_, ?_, ?_, ?_, ?_, ?_, ?_, ?_, ?_, ?_, ?_, ?_, ?_, ?_, ?_, ?_, ?_, ?_, ?_, ?_, ?_, ?_, ?_, ?_, ?_, ?_, ?_, ?_, ?_, ?_, ?_, ?_, ?_, ?_, ?_, ?_, ?_, ?_, ?_, ?_, ?_, ?_, ?_, ?_, trivial⟩
              · intro listed a w' hs hI h0 hd K' hK
                obtain ⟨xs, rfl, hC, hW⟩ := hI
                have hK2 := Lib.hid hK
                have hC2 := Lib.hid hC
                clear hd hK hC h0
                go_simp
                exact hK2.out _ _ ⟨updV xs 0 (.pointer (some ⟨b, q * 3, none⟩)), by simp [updV], cond_set hC2.out (fun _ _ h => h) rfl, hW.keep (by decide)⟩
              · intro listed a w' hs hI h0 hd K' hK
                obtain ⟨xs, rfl, hC, hW⟩ := hI
                have hK2 := Lib.hid hK
                have hC2 := Lib.hid hC
                clear hd hK hC h0
                go_simp
                exact hK2.out _ _ ⟨updV xs 1 (.pointer (some ⟨b, q * 3, none⟩)), by simp [updV], cond_set hC2.out (fun _ _ h => h) rfl, hW.keep (by decide)⟩
              · intro listed a w' hs hI h0 hd K' hK
                obtain ⟨xs, rfl, hC, hW⟩ := hI
                have hK2 := Lib.hid hK
                have hC2 := Lib.hid hC
                clear hd hK hC h0
                go_simp
                exact hK2.out _ _ ⟨updV xs 2 (.pointer (some ⟨b, q * 3, none⟩)), by simp [updV], cond_set hC2.out (fun _ _ h => h) rfl, hW.keep (by decide)⟩
              · intro listed a w' hs hI h0 hd K' hK
                obtain ⟨xs, rfl, hC, hW⟩ := hI
                have hK2 := Lib.hid hK
                have hC2 := Lib.hid hC
                clear hd hK hC h0
                go_simp
                exact hK2.out _ _ ⟨updV xs 3 (.pointer (some ⟨g, 0, none⟩)), by simp [updV], cond_set hC2.out (fun _ _ h => h) rfl, hW.keep (by decide)⟩
              · intro listed a w' hs hI h0 hd K' hK
                obtain ⟨xs, rfl, hC, hW⟩ := hI
                have hK2 := Lib.hid hK
                have hC2 := Lib.hid hC
                clear hd hK hC h0
                go_simp
                exact hK2.out _ _ ⟨updV xs 4 (.pointer (some ⟨b, q * 3, none⟩)), by simp [updV], cond_set hC2.out (fun _ _ h => h) rfl, hW.keep (by decide)⟩
              · intro listed a w' hs hI h0 hd K' hK
                obtain ⟨xs, rfl, hC, hW⟩ := hI
                have e4 : xs 4 = (.pointer (some ⟨b, q * 3, none⟩)) := hC 4 (hd ⟨4, .data⟩ (by simp) rfl)
                have hK2 := Lib.hid hK
                have hC2 := Lib.hid hC
                clear hd hK hC h0
                go_simp
                exact hK2.out _ _ ⟨updV xs 5 (.pointer (some ⟨b, q * 3, none⟩)), by simp [updV, e4], cond_set hC2.out (fun _ _ h => h) rfl, hW.keep (by decide)⟩
              · intro listed a w' hs hI h0 hd K' hK
                obtain ⟨xs, rfl, hC, hW⟩ := hI
                have e5 : xs 5 = (.pointer (some ⟨b, q * 3, none⟩)) := hC 5 (hd ⟨5, .data⟩ (by simp) rfl)
                have hK2 := Lib.hid hK
                have hC2 := Lib.hid hC
                clear hd hK hC h0
                go_simp
                exact hK2.out _ _ ⟨updV xs 6 (.pointer (some ⟨b, q * 3, none⟩)), by simp [updV, e5], cond_set hC2.out (fun _ _ h => h) rfl, hW.keep (by decide)⟩
              · intro listed a w' hs hI h0 hd K' hK
                obtain ⟨xs, rfl, hC, hW⟩ := hI
                have e6 : xs 6 = (.pointer (some ⟨b, q * 3, none⟩)) := hC 6 (hd ⟨6, .data⟩ (by simp) rfl)
                have hK2 := Lib.hid hK
                have hC2 := Lib.hid hC
                obtain ⟨u9, c9, ⟨x9, rfl, sz9⟩, f9⟩ := hW.load spbK (s := 3) rfl (q := q) (d := 0) hq (by decide)
                rw [Nat.add_zero] at c9
                clear hd hK hC h0
                go_simp
                exact hK2.out _ _ ⟨updV xs 7 (.string x9), by simp [updV, e6], cond_set hC2.out (fun _ _ h => h) ⟨_, rfl, sz9⟩, hW.keep (by decide)⟩
              · intro listed a w' hs hI h0 hd K' hK
                obtain ⟨xs, rfl, hC, hW⟩ := hI
                have hK2 := Lib.hid hK
                have hC2 := Lib.hid hC
                clear hd hK hC h0
                go_simp
                exact hK2.out _ _ ⟨updV xs 8 (.slice (some ⟨b, 0, none⟩) n c), by simp [updV], cond_set hC2.out (fun _ _ h => h) rfl, hW.keep (by decide)⟩
              · intro listed a w' hs hI h0 hd K' hK
                obtain ⟨xs, rfl, hC, hW⟩ := hI
                have e8 : xs 8 = (.slice (some ⟨b, 0, none⟩) n c) := hC 8 (hd ⟨8, .data⟩ (by simp) rfl)
                have hK2 := Lib.hid hK
                have hC2 := Lib.hid hC
                clear hd hK hC h0
                go_simp
                exact hK2.out _ _ ⟨updV xs 9 (.pointer (some ⟨b, 0, none⟩)), by simp [updV, e8], cond_set hC2.out (fun _ _ h => h) rfl, hW.keep (by decide)⟩
              · intro listed a w' hs hI h0 hd K' hK
                obtain ⟨xs, rfl, hC, hW⟩ := hI
                have e9 : xs 9 = (.pointer (some ⟨b, 0, none⟩)) := hC 9 (hd ⟨9, .data⟩ (by simp) rfl)
                have hK2 := Lib.hid hK
                have hC2 := Lib.hid hC
                clear hd hK hC h0
                go_simp
                exact hK2.out _ _ ⟨updV xs 10 (.pointer (some ⟨b, 0, none⟩)), by simp [updV, e9], cond_set hC2.out (fun _ _ h => h) rfl, hW.keep (by decide)⟩
              · intro listed a w' hs hI h0 hd K' hK
                obtain ⟨xs, rfl, hC, hW⟩ := hI
                have e10 : xs 10 = (.pointer (some ⟨b, 0, none⟩)) := hC 10 (hd ⟨10, .data⟩ (by simp) rfl)
                have hK2 := Lib.hid hK
                have hC2 := Lib.hid hC
                obtain ⟨u9, c9, ⟨x9, rfl, sz9⟩, f9⟩ := hW.load spbK (s := 3) rfl (q := 0) (d := 0) hp (by decide)
                rw [Nat.zero_mul, Nat.add_zero] at c9
                clear hd hK hC h0
                go_simp
                exact hK2.out _ _ ⟨updV xs 11 (.string x9), by simp [updV, e10], cond_set hC2.out (fun _ _ h => h) ⟨_, rfl, sz9⟩, hW.keep (by decide)⟩
              · intro listed a w' hs hI h0 hd K' hK
                obtain ⟨xs, rfl, hC, hW⟩ := hI
                obtain ⟨v7, e7, sz7⟩ : ∃ v : ByteArray, xs 7 = .string v ∧ v.size ≤ 100 := hC 7 (hd ⟨7, .data⟩ (by simp) rfl)
                obtain ⟨v11, e11, sz11⟩ : ∃ v : ByteArray, xs 11 = .string v ∧ v.size ≤ 100 := hC 11 (hd ⟨11, .data⟩ (by simp) rfl)
                have hK2 := Lib.hid hK
                have hC2 := Lib.hid hC
                clear hd hK hC h0
                go_simp
                exact hK2.out _ _ ⟨updV xs 12 (.slice (some ⟨w'.heap.size, 0, none⟩) 3 3), by simp [updV, e7, e11], cond_set hC2.out (fun j v h => Sat.alloc _ _ _ h) ⟨w'.heap.size, [v7, ⟨#[]⟩, v11], rfl, rfl, (fun x hx => by simp only [List.mem_cons, List.not_mem_nil, or_false] at hx; rcases hx with rfl | rfl | rfl <;> first | assumption | (simp; omega) | decide), heap_alloc_new w' _⟩, ((hW.alloc _).keep (by decide))⟩
              · intro listed a w' hs hI h0 hd K' hK
                obtain ⟨xs, rfl, hC, hW⟩ := hI
                have e3 : xs 3 = (.pointer (some ⟨g, 0, none⟩)) := hC 3 (hd ⟨3, .data⟩ (by simp) rfl)
                obtain ⟨z12, l12, e12, hl12, hb12, hz12⟩ : ∃ (z : Nat) (l : List ByteArray), xs 12 = .slice (some ⟨z, 0, none⟩) 3 3 ∧ l.length = 3 ∧ (∀ x ∈ l, x.size ≤ 100) ∧ w'.heap[z]? = some (.cells (l.map Value.string).toArray 9 (0, 0)) := hC 12 (hd ⟨12, .data⟩ (by simp) rfl)
                have hK2 := Lib.hid hK
                have hC2 := Lib.hid hC
                obtain ⟨k9, s9, hk9, hnx⟩ := MW1.call hgb hW h0 (by decide) (by decide)
                have r9 : RS 9 w' (some ⟨z12, 0, none⟩) 3 l12 := R1.of_lit hz12 rfl hl12 (by decide)
                clear h0
                clear hd hK hC
                go_simp
                refine (some_c g zs _ _ _ _ _ _ s9 (by omega) r9 (by decide)).mono ?_; rintro e w1 ⟨rfl, s10, g10⟩
                exact hK2.out _ _ ⟨updV xs 13 (.string (pickV zs k9 l12)), by simp [updV, e3, e12], cond_set hC2.out (fun j v h => Sat.stream (s9.keep g10) (by decide) (by decide) (by decide) _ _ h) ⟨_, rfl, hb12 _ (pickV_mem (by intro e0; subst e0; simp at hl12))⟩, hnx _ _ (by omega) s10 g10⟩
              · intro listed a w' hs hI h0 hd K' hK
                obtain ⟨xs, rfl, hC, hW⟩ := hI
                have hK2 := Lib.hid hK
                have hC2 := Lib.hid hC
                clear hd hK hC h0
                go_simp
                exact hK2.out _ _ ⟨updV xs 14 (.pointer (some ⟨g, 0, none⟩)), by simp [updV], cond_set hC2.out (fun _ _ h => h) rfl, hW.keep (by decide)⟩
              · intro listed a w' hs hI h0 hd K' hK
                obtain ⟨xs, rfl, hC, hW⟩ := hI
                have hK2 := Lib.hid hK
                have hC2 := Lib.hid hC
                clear hd hK hC h0
                go_simp
                exact hK2.out _ _ ⟨updV xs 15 (.pointer (some ⟨b, q * 3, none⟩)), by simp [updV], cond_set hC2.out (fun _ _ h => h) rfl, hW.keep (by decide)⟩
              · intro listed a w' hs hI h0 hd K' hK
                obtain ⟨xs, rfl, hC, hW⟩ := hI
                have e15 : xs 15 = (.pointer (some ⟨b, q * 3, none⟩)) := hC 15 (hd ⟨15, .data⟩ (by simp) rfl)
                have hK2 := Lib.hid hK
                have hC2 := Lib.hid hC
                clear hd hK hC h0
                go_simp
                exact hK2.out _ _ ⟨updV xs 16 (.pointer (some ⟨b, q * 3, none⟩)), by simp [updV, e15], cond_set hC2.out (fun _ _ h => h) rfl, hW.keep (by decide)⟩
              · intro listed a w' hs hI h0 hd K' hK
                obtain ⟨xs, rfl, hC, hW⟩ := hI
                have e16 : xs 16 = (.pointer (some ⟨b, q * 3, none⟩)) := hC 16 (hd ⟨16, .data⟩ (by simp) rfl)
                have hK2 := Lib.hid hK
                have hC2 := Lib.hid hC
                clear hd hK hC h0
                go_simp
                exact hK2.out _ _ ⟨updV xs 17 (.pointer (some ⟨b, q * 3 + 1, none⟩)), by simp [updV, e16], cond_set hC2.out (fun _ _ h => h) rfl, hW.keep (by decide)⟩
              · intro listed a w' hs hI h0 hd K' hK
                obtain ⟨xs, rfl, hC, hW⟩ := hI
                have e17 : xs 17 = (.pointer (some ⟨b, q * 3 + 1, none⟩)) := hC 17 (hd ⟨17, .data⟩ (by simp) rfl)
                have hK2 := Lib.hid hK
                have hC2 := Lib.hid hC
                obtain ⟨u9, c9, ⟨x9, rfl, lo9, hi9⟩, f9⟩ := hW.load spbK (s := 3) rfl (q := q) (d := 1) hq (by decide)
                clear hd hK hC h0
                go_simp
                exact hK2.out _ _ ⟨updV xs 18 (.int .i64 x9), by simp [updV, e17], cond_set hC2.out (fun _ _ h => h) ⟨_, rfl, lo9, hi9⟩, hW.keep (by decide)⟩
              · intro listed a w' hs hI h0 hd K' hK
                obtain ⟨xs, rfl, hC, hW⟩ := hI
                have hK2 := Lib.hid hK
                have hC2 := Lib.hid hC
                clear hd hK hC h0
                go_simp
                exact hK2.out _ _ ⟨updV xs 19 (.pointer (some ⟨b, q * 3, none⟩)), by simp [updV], cond_set hC2.out (fun _ _ h => h) rfl, hW.keep (by decide)⟩
              · intro listed a w' hs hI h0 hd K' hK
                obtain ⟨xs, rfl, hC, hW⟩ := hI
                have e19 : xs 19 = (.pointer (some ⟨b, q * 3, none⟩)) := hC 19 (hd ⟨19, .data⟩ (by simp) rfl)
                have hK2 := Lib.hid hK
                have hC2 := Lib.hid hC
                clear hd hK hC h0
                go_simp
                exact hK2.out _ _ ⟨updV xs 20 (.pointer (some ⟨b, q * 3, none⟩)), by simp [updV, e19], cond_set hC2.out (fun _ _ h => h) rfl, hW.keep (by decide)⟩
              · intro listed a w' hs hI h0 hd K' hK
                obtain ⟨xs, rfl, hC, hW⟩ := hI
                have e20 : xs 20 = (.pointer (some ⟨b, q * 3, none⟩)) := hC 20 (hd ⟨20, .data⟩ (by simp) rfl)
                have hK2 := Lib.hid hK
                have hC2 := Lib.hid hC
                clear hd hK hC h0
                go_simp
                exact hK2.out _ _ ⟨updV xs 21 (.pointer (some ⟨b, q * 3 + 1, none⟩)), by simp [updV, e20], cond_set hC2.out (fun _ _ h => h) rfl, hW.keep (by decide)⟩
              · intro listed a w' hs hI h0 hd K' hK
                obtain ⟨xs, rfl, hC, hW⟩ := hI
                have e21 : xs 21 = (.pointer (some ⟨b, q * 3 + 1, none⟩)) := hC 21 (hd ⟨21, .data⟩ (by simp) rfl)
                have hK2 := Lib.hid hK
                have hC2 := Lib.hid hC
                obtain ⟨u9, c9, ⟨x9, rfl, lo9, hi9⟩, f9⟩ := hW.load spbK (s := 3) rfl (q := q) (d := 1) hq (by decide)
                clear hd hK hC h0
                go_simp
                exact hK2.out _ _ ⟨updV xs 22 (.int .i64 x9), by simp [updV, e21], cond_set hC2.out (fun _ _ h => h) ⟨_, rfl, lo9, hi9⟩, hW.keep (by decide)⟩
              · intro listed a w' hs hI h0 hd K' hK
                obtain ⟨xs, rfl, hC, hW⟩ := hI
                obtain ⟨v22, e22, a22, b22⟩ : ∃ v : Int, xs 22 = .int .i64 v ∧ (-9223372036854775808) ≤ v ∧ v ≤ 9223372036854775807 := hC 22 (hd ⟨22, .data⟩ (by simp) rfl)
                have hK2 := Lib.hid hK
                have hC2 := Lib.hid hC
                clear hd hK hC h0
                go_simp
                exact hK2.out _ _ ⟨updV xs 23 (.int .i64 (IntKind.i64.wrap (v22 + 1))), by simp [updV, e22], cond_set hC2.out (fun _ _ h => h) ⟨_, rfl, (wrap_bd _).1, (wrap_bd _).2⟩, hW.keep (by decide)⟩
              · intro listed a w' hs hI h0 hd K' hK
                obtain ⟨xs, rfl, hC, hW⟩ := hI
                obtain ⟨v18, e18, a18, b18⟩ : ∃ v : Int, xs 18 = .int .i64 v ∧ (-9223372036854775808) ≤ v ∧ v ≤ 9223372036854775807 := hC 18 (hd ⟨18, .data⟩ (by simp) rfl)
                obtain ⟨v23, e23, a23, b23⟩ : ∃ v : Int, xs 23 = .int .i64 v ∧ (-9223372036854775808) ≤ v ∧ v ≤ 9223372036854775807 := hC 23 (hd ⟨23, .data⟩ (by simp) rfl)
                have hK2 := Lib.hid hK
                have hC2 := Lib.hid hC
                clear hd hK hC h0
                go_simp
                exact hK2.out _ _ ⟨updV xs 24 (.slice (some ⟨w'.heap.size, 0, none⟩) 4 4), by simp [updV, e18, e23], cond_set hC2.out (fun j v h => Sat.alloc _ _ _ h) ⟨w'.heap.size, [v18, v23, 0, 61], rfl, rfl, (fun x hx => by simp at hx; omega), heap_alloc_new w' _⟩, ((hW.alloc _).keep (by decide))⟩
              · intro listed a w' hs hI h0 hd K' hK
                obtain ⟨xs, rfl, hC, hW⟩ := hI
                have e14 : xs 14 = (.pointer (some ⟨g, 0, none⟩)) := hC 14 (hd ⟨14, .data⟩ (by simp) rfl)
                obtain ⟨z24, l24, e24, hl24, hb24, hz24⟩ : ∃ (z : Nat) (l : List Int), xs 24 = .slice (some ⟨z, 0, none⟩) 4 4 ∧ l.length = 4 ∧ (∀ x ∈ l, (-9223372036854775808) ≤ x ∧ x ≤ 9223372036854775807) ∧ w'.heap[z]? = some (.cells (ints l).toArray 3 (0, 0)) := hC 24 (hd ⟨24, .data⟩ (by simp) rfl)
                have hK2 := Lib.hid hK
                have hC2 := Lib.hid hC
                obtain ⟨k9, s9, hk9, hnx⟩ := MW1.call hgb hW h0 (by decide) (by decide)
                have r9 : RI 3 w' (some ⟨z24, 0, none⟩) 4 l24 := R1.of_lit hz24 rfl hl24 (by decide)
                clear h0
                clear hd hK hC
                go_simp
                refine (pickE_c g zs _ _ _ _ _ _ s9 (by omega) r9 (by decide)).mono ?_; rintro e w1 ⟨v, rfl, hv9, s10, g10⟩
                exact hK2.out _ _ ⟨updV xs 25 (.int .i64 v), by simp [updV, e14, e24], cond_set hC2.out (fun j v h => Sat.stream (s9.keep g10) (by decide) (by decide) (by decide) _ _ h) ⟨v, rfl, hb24 v hv9⟩, hnx _ _ (by omega) s10 g10⟩
              · intro listed a w' hs hI h0 hd K' hK
                obtain ⟨xs, rfl, hC, hW⟩ := hI
                have hK2 := Lib.hid hK
                have hC2 := Lib.hid hC
                clear hd hK hC h0
                go_simp
                exact hK2.out _ _ ⟨updV xs 26 (.pointer (some ⟨g, 0, none⟩)), by simp [updV], cond_set hC2.out (fun _ _ h => h) rfl, hW.keep (by decide)⟩
              · intro listed a w' hs hI h0 hd K' hK
                obtain ⟨xs, rfl, hC, hW⟩ := hI
                have hK2 := Lib.hid hK
                have hC2 := Lib.hid hC
                clear hd hK hC h0
                go_simp
                exact hK2.out _ _ ⟨updV xs 27 (.pointer (some ⟨b, q * 3, none⟩)), by simp [updV], cond_set hC2.out (fun _ _ h => h) rfl, hW.keep (by decide)⟩
              · intro listed a w' hs hI h0 hd K' hK
                obtain ⟨xs, rfl, hC, hW⟩ := hI
                have e27 : xs 27 = (.pointer (some ⟨b, q * 3, none⟩)) := hC 27 (hd ⟨27, .data⟩ (by simp) rfl)
                have hK2 := Lib.hid hK
                have hC2 := Lib.hid hC
                clear hd hK hC h0
                go_simp
                exact hK2.out _ _ ⟨updV xs 28 (.pointer (some ⟨b, q * 3, none⟩)), by simp [updV, e27], cond_set hC2.out (fun _ _ h => h) rfl, hW.keep (by decide)⟩
              · intro listed a w' hs hI h0 hd K' hK
                obtain ⟨xs, rfl, hC, hW⟩ := hI
                have e28 : xs 28 = (.pointer (some ⟨b, q * 3, none⟩)) := hC 28 (hd ⟨28, .data⟩ (by simp) rfl)
                have hK2 := Lib.hid hK
                have hC2 := Lib.hid hC
                clear hd hK hC h0
                go_simp
                exact hK2.out _ _ ⟨updV xs 29 (.pointer (some ⟨b, q * 3 + 2, none⟩)), by simp [updV, e28], cond_set hC2.out (fun _ _ h => h) rfl, hW.keep (by decide)⟩
              · intro listed a w' hs hI h0 hd K' hK
                obtain ⟨xs, rfl, hC, hW⟩ := hI
                have e29 : xs 29 = (.pointer (some ⟨b, q * 3 + 2, none⟩)) := hC 29 (hd ⟨29, .data⟩ (by simp) rfl)
                have hK2 := Lib.hid hK
                have hC2 := Lib.hid hC
                obtain ⟨u9, c9, ⟨x9, rfl, lo9, hi9⟩, f9⟩ := hW.load spbK (s := 3) rfl (q := q) (d := 2) hq (by decide)
                clear hd hK hC h0
                go_simp
                exact hK2.out _ _ ⟨updV xs 30 (.int .i64 x9), by simp [updV, e29], cond_set hC2.out (fun _ _ h => h) ⟨_, rfl, lo9, hi9⟩, hW.keep (by decide)⟩
              · intro listed a w' hs hI h0 hd K' hK
                obtain ⟨xs, rfl, hC, hW⟩ := hI
                have hK2 := Lib.hid hK
                have hC2 := Lib.hid hC
                clear hd hK hC h0
                go_simp
                exact hK2.out _ _ ⟨updV xs 31 (.pointer (some ⟨w.heap.size, 1, none⟩)), by simp [updV], cond_set hC2.out (fun _ _ h => h) rfl, hW.keep (by decide)⟩
              · intro listed a w' hs hI h0 hd K' hK
                obtain ⟨xs, rfl, hC, hW⟩ := hI
                have e31 : xs 31 = (.pointer (some ⟨w.heap.size, 1, none⟩)) := hC 31 (hd ⟨31, .data⟩ (by simp) rfl)
                have hK2 := Lib.hid hK
                have hC2 := Lib.hid hC
                have c9 := hW.cell (blk_cell pb7 1 rfl) (by show w.heap.size ≠ g; omega) (by show w.heap.size ≠ b; omega)
                clear hd hK hC h0
                go_simp
                exact hK2.out _ _ ⟨updV xs 32 (.int .i64 hi), by simp [updV, e31], cond_set hC2.out (fun _ _ h => h) rfl, hW.keep (by decide)⟩
              · intro listed a w' hs hI h0 hd K' hK
                obtain ⟨xs, rfl, hC, hW⟩ := hI
                have e32 : xs 32 = (.int .i64 hi) := hC 32 (hd ⟨32, .data⟩ (by simp) rfl)
                have hK2 := Lib.hid hK
                have hC2 := Lib.hid hC
                clear hd hK hC h0
                go_simp
                exact hK2.out _ _ ⟨updV xs 33 (.int .i64 (hi + 1)), by simp [updV, e32], cond_set hC2.out (fun _ _ h => h) ⟨_, rfl, by omega, by omega⟩, hW.keep (by decide)⟩
              · intro listed a w' hs hI h0 hd K' hK
                obtain ⟨xs, rfl, hC, hW⟩ := hI
                have hK2 := Lib.hid hK
                have hC2 := Lib.hid hC
                clear hd hK hC h0
                go_simp
                exact hK2.out _ _ ⟨updV xs 34 (.pointer (some ⟨w.heap.size, 0, none⟩)), by simp [updV], cond_set hC2.out (fun _ _ h => h) rfl, hW.keep (by decide)⟩
              · intro listed a w' hs hI h0 hd K' hK
                obtain ⟨xs, rfl, hC, hW⟩ := hI
                have e34 : xs 34 = (.pointer (some ⟨w.heap.size, 0, none⟩)) := hC 34 (hd ⟨34, .data⟩ (by simp) rfl)
                have hK2 := Lib.hid hK
                have hC2 := Lib.hid hC
                have c9 := hW.cell (blk_cell pb7 0 rfl) (by show w.heap.size ≠ g; omega) (by show w.heap.size ≠ b; omega)
                clear hd hK hC h0
                go_simp
                exact hK2.out _ _ ⟨updV xs 35 (.int .i64 lo), by simp [updV, e34], cond_set hC2.out (fun _ _ h => h) rfl, hW.keep (by decide)⟩
              · intro listed a w' hs hI h0 hd K' hK
                obtain ⟨xs, rfl, hC, hW⟩ := hI
                obtain ⟨v30, e30, a30, b30⟩ : ∃ v : Int, xs 30 = .int .i64 v ∧ (-9223372036854775808) ≤ v ∧ v ≤ 9223372036854775807 := hC 30 (hd ⟨30, .data⟩ (by simp) rfl)
                obtain ⟨v33, e33, a33, b33⟩ : ∃ v : Int, xs 33 = .int .i64 v ∧ (-1099511627775) ≤ v ∧ v ≤ 1099511627777 := hC 33 (hd ⟨33, .data⟩ (by simp) rfl)
                have e35 : xs 35 = (.int .i64 lo) := hC 35 (hd ⟨35, .data⟩ (by simp) rfl)
                have hK2 := Lib.hid hK
                have hC2 := Lib.hid hC
                clear hd hK hC h0
                go_simp
                exact hK2.out _ _ ⟨updV xs 36 (.slice (some ⟨w'.heap.size, 0, none⟩) 3 3), by simp [updV, e30, e33, e35], cond_set hC2.out (fun j v h => Sat.alloc _ _ _ h) ⟨w'.heap.size, [v30, v33, lo], rfl, rfl, (fun x hx => by simp at hx; omega), heap_alloc_new w' _⟩, ((hW.alloc _).keep (by decide))⟩
              · intro listed a w' hs hI h0 hd K' hK
                obtain ⟨xs, rfl, hC, hW⟩ := hI
                have e26 : xs 26 = (.pointer (some ⟨g, 0, none⟩)) := hC 26 (hd ⟨26, .data⟩ (by simp) rfl)
                obtain ⟨z36, l36, e36, hl36, hb36, hz36⟩ : ∃ (z : Nat) (l : List Int), xs 36 = .slice (some ⟨z, 0, none⟩) 3 3 ∧ l.length = 3 ∧ (∀ x ∈ l, (-9223372036854775808) ≤ x ∧ x ≤ 9223372036854775807) ∧ w'.heap[z]? = some (.cells (ints l).toArray 3 (0, 0)) := hC 36 (hd ⟨36, .data⟩ (by simp) rfl)
                have hK2 := Lib.hid hK
                have hC2 := Lib.hid hC
                obtain ⟨k9, s9, hk9, hnx⟩ := MW1.call hgb hW h0 (by decide) (by decide)
                have r9 : RI 3 w' (some ⟨z36, 0, none⟩) 3 l36 := R1.of_lit hz36 rfl hl36 (by decide)
                clear h0
                clear hd hK hC
                go_simp
                refine (pickE_c g zs _ _ _ _ _ _ s9 (by omega) r9 (by decide)).mono ?_; rintro e w1 ⟨v, rfl, hv9, s10, g10⟩
                exact hK2.out _ _ ⟨updV xs 37 (.int .i64 v), by simp [updV, e26, e36], cond_set hC2.out (fun j v h => Sat.stream (s9.keep g10) (by decide) (by decide) (by decide) _ _ h) ⟨v, rfl, hb36 v hv9⟩, hnx _ _ (by omega) s10 g10⟩
              · intro listed a w' hs hI h0 hd K' hK
                obtain ⟨xs, rfl, hC, hW⟩ := hI
                have e0 : xs 0 = (.pointer (some ⟨b, q * 3, none⟩)) := hC 0 (hd ⟨0, .data⟩ (by simp) rfl)
                have hK2 := Lib.hid hK
                have hC2 := Lib.hid hC
                clear hd hK hC h0
                go_simp
                exact hK2.out _ _ ⟨updV xs 38 (.pointer (some ⟨b, q * 3, none⟩)), by simp [updV, e0], cond_set hC2.out (fun _ _ h => h) rfl, hW.keep (by decide)⟩
              · intro listed a w' hs hI h0 hd K' hK
                obtain ⟨xs, rfl, hC, hW⟩ := hI
                have e38 : xs 38 = (.pointer (some ⟨b, q * 3, none⟩)) := hC 38 (hd ⟨38, .data⟩ (by simp) rfl)
                have hK2 := Lib.hid hK
                have hC2 := Lib.hid hC
                clear hd hK hC h0
                go_simp
                exact hK2.out _ _ ⟨updV xs 39 (.pointer (some ⟨b, q * 3, none⟩)), by simp [updV, e38], cond_set hC2.out (fun _ _ h => h) rfl, hW.keep (by decide)⟩
              · intro listed a w' hs hI h0 hd K' hK
                obtain ⟨xs, rfl, hC, hW⟩ := hI
                obtain ⟨v13, e13, sz13⟩ : ∃ v : ByteArray, xs 13 = .string v ∧ v.size ≤ 100 := hC 13 (hd ⟨13, .data⟩ (by simp) rfl)
                have e39 : xs 39 = (.pointer (some ⟨b, q * 3, none⟩)) := hC 39 (hd ⟨39, .data⟩ (by simp) rfl)
                have hK2 := Lib.hid hK
                have hC2 := Lib.hid hC
                obtain ⟨u9, c9, _, f9⟩ := hW.load spbK (s := 3) rfl (q := q) (d := 0) hq (by decide)
                obtain ⟨cs9, hcs9⟩ := hW.blk
                have hS9 := Lib.hid (MW1.store spbK (s := 3) rfl hgb hW (q := q) (d := 0) hq (by decide) (v := .string v13) ⟨_, rfl, by assumption⟩)
                rw [Nat.add_zero] at c9 f9 hS9
                clear hd hK hC h0
                go_simp
                exact hK2.out _ _ ⟨updV xs 40 (undef), by simp [updV, e13, e39], cond_set hC2.out (fun j v h => Sat.set spbK hcs9 (by decide) (by decide) (okAt (q := q) (s := 3) (c := 0) rfl rfl ⟨_, rfl, by assumption⟩) _ _ h) trivial, hS9.out.keep (by decide)⟩
              · intro listed a w' hs hI h0 hd K' hK
                obtain ⟨xs, rfl, hC, hW⟩ := hI
                have e1 : xs 1 = (.pointer (some ⟨b, q * 3, none⟩)) := hC 1 (hd ⟨1, .data⟩ (by simp) rfl)
                have hK2 := Lib.hid hK
                have hC2 := Lib.hid hC
                clear hd hK hC h0
                go_simp
                exact hK2.out _ _ ⟨updV xs 41 (.pointer (some ⟨b, q * 3, none⟩)), by simp [updV, e1], cond_set hC2.out (fun _ _ h => h) rfl, hW.keep (by decide)⟩
              · intro listed a w' hs hI h0 hd K' hK
                obtain ⟨xs, rfl, hC, hW⟩ := hI
                have e41 : xs 41 = (.pointer (some ⟨b, q * 3, none⟩)) := hC 41 (hd ⟨41, .data⟩ (by simp) rfl)
                have hK2 := Lib.hid hK
                have hC2 := Lib.hid hC
                clear hd hK hC h0
                go_simp
                exact hK2.out _ _ ⟨updV xs 42 (.pointer (some ⟨b, q * 3 + 1, none⟩)), by simp [updV, e41], cond_set hC2.out (fun _ _ h => h) rfl, hW.keep (by decide)⟩
              · intro listed a w' hs hI h0 hd K' hK
                obtain ⟨xs, rfl, hC, hW⟩ := hI
                obtain ⟨v25, e25, a25, b25⟩ : ∃ v : Int, xs 25 = .int .i64 v ∧ (-9223372036854775808) ≤ v ∧ v ≤ 9223372036854775807 := hC 25 (hd ⟨25, .data⟩ (by simp) rfl)
                have e42 : xs 42 = (.pointer (some ⟨b, q * 3 + 1, none⟩)) := hC 42 (hd ⟨42, .data⟩ (by simp) rfl)
                have hK2 := Lib.hid hK
                have hC2 := Lib.hid hC
                obtain ⟨u9, c9, _, f9⟩ := hW.load spbK (s := 3) rfl (q := q) (d := 1) hq (by decide)
                obtain ⟨cs9, hcs9⟩ := hW.blk
                have hS9 := Lib.hid (MW1.store spbK (s := 3) rfl hgb hW (q := q) (d := 1) hq (by decide) (v := .int .i64 v25) ⟨_, rfl, by omega, by omega⟩)
                clear hd hK hC h0
                go_simp
                exact hK2.out _ _ ⟨updV xs 43 (undef), by simp [updV, e25, e42], cond_set hC2.out (fun j v h => Sat.set spbK hcs9 (by decide) (by decide) (okAt (q := q) (s := 3) (c := 1) rfl rfl ⟨_, rfl, by omega, by omega⟩) _ _ h) trivial, hS9.out.keep (by decide)⟩
              · intro listed a w' hs hI h0 hd K' hK
                obtain ⟨xs, rfl, hC, hW⟩ := hI
                have e2 : xs 2 = (.pointer (some ⟨b, q * 3, none⟩)) := hC 2 (hd ⟨2, .data⟩ (by simp) rfl)
                have hK2 := Lib.hid hK
                have hC2 := Lib.hid hC
                clear hd hK hC h0
                go_simp
                exact hK2.out _ _ ⟨updV xs 44 (.pointer (some ⟨b, q * 3, none⟩)), by simp [updV, e2], cond_set hC2.out (fun _ _ h => h) rfl, hW.keep (by decide)⟩
              · intro listed a w' hs hI h0 hd K' hK
                obtain ⟨xs, rfl, hC, hW⟩ := hI
                have e44 : xs 44 = (.pointer (some ⟨b, q * 3, none⟩)) := hC 44 (hd ⟨44, .data⟩ (by simp) rfl)
                have hK2 := Lib.hid hK
                have hC2 := Lib.hid hC
                clear hd hK hC h0
                go_simp
                exact hK2.out _ _ ⟨updV xs 45 (.pointer (some ⟨b, q * 3 + 2, none⟩)), by simp [updV, e44], cond_set hC2.out (fun _ _ h => h) rfl, hW.keep (by decide)⟩
              · intro listed a w' hs hI h0 hd K' hK
                obtain ⟨xs, rfl, hC, hW⟩ := hI
                obtain ⟨v37, e37, a37, b37⟩ : ∃ v : Int, xs 37 = .int .i64 v ∧ (-9223372036854775808) ≤ v ∧ v ≤ 9223372036854775807 := hC 37 (hd ⟨37, .data⟩ (by simp) rfl)
                have e45 : xs 45 = (.pointer (some ⟨b, q * 3 + 2, none⟩)) := hC 45 (hd ⟨45, .data⟩ (by simp) rfl)
                have hK2 := Lib.hid hK
                have hC2 := Lib.hid hC
                obtain ⟨u9, c9, _, f9⟩ := hW.load spbK (s := 3) rfl (q := q) (d := 2) hq (by decide)
                obtain ⟨cs9, hcs9⟩ := hW.blk
                have hS9 := Lib.hid (MW1.store spbK (s := 3) rfl hgb hW (q := q) (d := 2) hq (by decide) (v := .int .i64 v37) ⟨_, rfl, by omega, by omega⟩)
                clear hd hK hC h0
                go_simp
                exact hK2.out _ _ ⟨updV xs 46 (undef), by simp [updV, e37, e45], cond_set hC2.out (fun j v h => Sat.set spbK hcs9 (by decide) (by decide) (okAt (q := q) (s := 3) (c := 2) rfl rfl ⟨_, rfl, by omega, by omega⟩) _ _ h) trivial, hS9.out.keep (by decide)⟩
            case he =>
              intro listed a w' hs hI hr
              obtain ⟨xs, rfl, hC, hW⟩ := hI
              clear hC hs hr
              obtain ⟨k10, l10, s10, o10, hl10, g10, hk10⟩ := hW.out gr7 (Nat.le_refl _)
              clear hW
              go_wp2
              go_ret
              obtain ⟨L10, z10, e10, _⟩ := BdL.down l10
              rw [e10] at o10
              exact ⟨_, n, c, L10, k10, rfl, o10, hn, z10, s10, by omega, g10⟩
end Go.Proofs.YtklggnglaeagpaaGreatDoor
