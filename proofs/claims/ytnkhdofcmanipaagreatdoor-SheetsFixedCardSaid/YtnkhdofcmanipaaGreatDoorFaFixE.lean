/- pad.Fixed: sheets with fixes. -/
import Derived.Test.YtnkhdofcmanipaaGreatDoorFaFixD
import Derived.Test.YtnkhdofcmanipaaGreatDoorFaApp2
namespace Go.Proofs.YtnkhdofcmanipaaGreatDoor
open Go.RowKit Go.Shelf Go.Lib Go.Sort
set_option linter.unusedVariables false

theorem info_lapX : (Tryz.prog.info? 57).map (fun i => (i.zero, i.size, i.bytes)) = some (some (.agg #[.int .i64 0, .int .i64 0, .bool false]), 3, 24) := by kernel_rfl
theorem info_sheetX : (Tryz.prog.info? 62).map (fun i => (i.zero, i.size, i.bytes)) = some (some (.agg #[.int .i64 0, .slice none 0 0, .int .i64 0, .int .i64 0]), 4, 48) := by kernel_rfl
theorem own_tyX {w : World} {B1 B2 s1 s2 n1 n2 : Nat} {e1 e2 : TypeId} {u1 u2 : Value} {x1 x2 : List Value} (h1 : w.ownsRow B1 e1 s1 u1 n1 x1) (h2 : w.ownsRow B2 e2 s2 u2 n2 x2) (he : e2 ≠ e1) : u2.ownBlock = none ∨ u2.ownBlock ≠ u1.ownBlock := by
  rcases h2.2 with ⟨rfl, _⟩ | ⟨g2, cap2, cur2, rfl, _, hh2, _⟩
  · exact .inl rfl
  · refine .inr ?_
    rcases h1.2 with ⟨rfl, _⟩ | ⟨g1, cap1, cur1, rfl, _, hh1, _⟩
    · simp [Value.ownBlock]
    · intro e
      have e' : g2 = g1 := by simpa [Value.ownBlock] using e
      subst e'
      rw [hh1] at hh2
      injection hh2 with hh2
      injection hh2 with _ hh2
      exact he hh2.symm
theorem lp_src {w : World} {A : Option Addr} {n : Nat} {l : List LP.Lp} (h : RLp w A n l) (hp : 0 < n) : ∃ b off, A = some ⟨b, off, none⟩ ∧ ∀ j u, (l.flatMap lpE)[j]? = some u → w.cell? ⟨b, off + j, none⟩ = some u := by
  obtain ⟨b, off, cs, fz, ha, hb, hc⟩ := h.2.2 hp
  refine ⟨b, off, ha, fun j u hu => ?_⟩
  have hj := lt_of_at hu
  rw [flat_len lpE_len] at hj
  obtain ⟨x, hx⟩ := at_of_lt (l := l) (k := j / 3) (by omega)
  have hi : j % 3 < 3 := Nat.mod_lt _ (by decide)
  have e : j = (j / 3) * 3 + j % 3 := by omega
  have hf := flat_atC lpE_len l (j / 3) (j % 3) x hx hi
  rw [← e, hu] at hf
  rw [cell_of_row w b _ cs _ fz hb]
  have h9 := hc (j / 3) x hx (j % 3) u hf.symm
  rw [show off + j = off + (j / 3) * 3 + j % 3 by omega]
  exact h9
theorem lp_one (l : List LP.Lp) : ∀ u ∈ l.flatMap lpE, u.oneCell' = true := by
  intro u hu
  obtain ⟨x, _, hx⟩ := List.mem_flatMap.1 hu
  simp only [lpE, List.mem_cons, List.not_mem_nil, or_false] at hx
  rcases hx with rfl | rfl | rfl <;> rfl
set_option maxRecDepth 100000 in
theorem cloneLp_c (A : Option Addr) (n c : Nat) (l : List LP.Lp) (w : World) (h : RLp w A n l) (hn : n ≤ 1000) :
    Calls Tryz.prog 68 #[.slice A n c] w fun e w' => ∃ A' c', e = .returned (.slice A' n c') ∧ w'.ownsRow w.heap.size 57 3 (.slice A' n c') n (l.flatMap lpE) ∧ Below w.heap.size w w' := by
  rcases A with _ | ad
  · have hn0 : n = 0 := by
      rcases Nat.eq_zero_or_pos n with h0 | hp
      · exact h0
      · obtain ⟨b, off, cs, fz, e, _⟩ := h.2.2 hp; cases e
    subst hn0
    have hl : l = [] := List.eq_nil_of_length_eq_zero h.len
    subst hl
    have hnil : ∀ W, (binOp .eql 58 (.slice none 0 c) (.slice none 0 0)).run Tryz.prog W = .ok (.bool true) W := fun W => Go.Lib.run_eql_slice_nil W _ _ none 0 c 0 0 Tryz.underlying58
    clear h
    go_enter Tryz.func68, Tryz.ntmps68
    go_wp2
    go_ret
    exact ⟨none, 0, rfl, World.ownsRow_nil _ _ _ _, Below.refl _ _⟩
  · have hlen := h.len
    have hB := below_new w (.cells #[] 57)
    have hz : w.heap.size ≤ (w.alloc (.cells #[] 57)).heap.size := by simp
    have hown : (w.alloc (.cells #[] 57)).ownsRow w.heap.size 57 3 (.slice (some ⟨w.heap.size, 0, none⟩) 0 0) 0 ([] : List Value) := ⟨rfl, .inr ⟨w.heap.size, 0, #[], rfl, Nat.le_refl _, heap_alloc_new w _, Nat.le_refl _, Nat.zero_le _, by simp, rfl⟩⟩
    have hs := lp_src (h.below hB)
    have hnil : ∀ W, (binOp .eql 58 (.slice (some ad) n c) (.slice none 0 0)).run Tryz.prog W = .ok (.bool false) W := fun W => Go.Lib.run_eql_slice_nil W _ _ (some ad) n c 0 0 Tryz.underlying58
    go_enter Tryz.func68, Tryz.ntmps68
    go_wp2_with (at_builtin; refine wpList_appR rfl (.tmp 5) (.tmp 6) 58 rfl Tryz.underlying58 info_lapX rfl (by omega) (by omega) hown rfl (fun e => by cases e) hs rfl (by rw [flat_len lpE_len, hlen]) (lp_one l) (by omega) hz ?_; intro v4 w4 hown4 hg4)
    have hB4 := below_own hB hown hg4 hz (Nat.le_refl _)
    rw [List.nil_append, Nat.zero_add] at hown4
    obtain ⟨A9, c9, rfl⟩ := own_shape hown4
    go_wp2
    go_ret
    exact ⟨A9, c9, rfl, hown4, hB4⟩
/-- the sheets under way -/
structure FO (w : World) (r : Race) (u : Value) (acc : List Shc) (wr : World) : Prop where
  o : wr.ownsRow w.heap.size 62 4 u acc.length (acc.flatMap shE)
  lp : ∀ x ∈ acc, wr.ownsRow w.heap.size 57 3 (.slice x.A x.n x.c) x.n (x.laps.flatMap lpE)
  rb : wr.heap[w.heap.size]? = some (.cells r.cells 51 (0, 0))
  bel : Below w.heap.size w wr
section
variable {w wr w' : World} {r : Race} {u v' : Value} {acc : List Shc}
theorem FO.below (h : FO w r u acc wr) (B : Below wr.heap.size wr w') : FO w r u acc w' := ⟨own_below h.o B, fun x hx => own_below (h.lp x hx) B, blk_below h.rb B, below_next h.bel B⟩
theorem FO.app {x : Shc} (h : FO w r u acc wr) (hx : wr.ownsRow w.heap.size 57 3 (.slice x.A x.n x.c) x.n (x.laps.flatMap lpE)) (ho : w'.ownsRow w.heap.size 62 4 v' (acc.length + 1) (acc.flatMap shE ++ shE x)) (hg : wr.grownBy w' u.ownBlock) : FO w r v' (acc ++ [x]) w' := by
  have hk : ∀ y : Shc, wr.ownsRow w.heap.size 57 3 (.slice y.A y.n y.c) y.n (y.laps.flatMap lpE) → w'.ownsRow w.heap.size 57 3 (.slice y.A y.n y.c) y.n (y.laps.flatMap lpE) := fun y hy => hy.kept hg (own_tyX h.o hy (by decide))
  have hz := h.bel.size
  refine ⟨?_, fun y hy => ?_, ?_, below_own h.bel h.o hg hz (Nat.le_refl _)⟩
  · rw [List.length_append, List.flatMap_append]; simpa using ho
  · rcases List.mem_append.1 hy with hy | hy
    · exact hk y (h.lp y hy)
    · rw [List.mem_singleton.1 hy]; exact hk x hx
  · exact (keep_row h.o hg) _ _ _ _ (by decide) h.rb
end
/-- what Fixed hands back -/
def RetFd (w : World) (E : Int) (L : List Shd) (e : Ending) (w' : World) : Prop := ∃ (A' : Option Addr) (n' c' : Nat) (S' : List Shc), e = .returned (.tuple #[.slice A' n' c', .int .i64 E]) ∧ (E ≠ 0 → S' = [] ∧ n' = 0 ∧ A' = none) ∧ (E = 0 → S'.map Shc.dat = L) ∧ w'.ownsRow w.heap.size 62 4 (.slice A' n' c') n' (S'.flatMap shE) ∧ (∀ x ∈ S', w'.ownsRow w.heap.size 57 3 (.slice x.A x.n x.c) x.n (x.laps.flatMap lpE)) ∧ Below w.heap.size w w'
theorem str_neF {a b : ByteArray} (h : a ≠ b) : (a.toList == b.toList) = false := by
  rw [beq_eq_false_iff_ne, ByteArray.toList_eq, ByteArray.toList_eq]
  intro e
  exact h (by cases a; cases b; congr 1; exact Array.toList_inj.mp e)
theorem shtErr_at {S : List Shd} {k : Nat} {x : Shd} (o : Option Int) (h : S[k]? = some x) : shtErr o (S.drop k) = if ¬ (1 ≤ x.lane ∧ x.lane ≤ 10) then 1 else if (match o with | some p => decide (x.lane ≤ p) | none => false) = true then 7 else shtErr (some x.lane) (S.drop (k + 1)) := by rw [drop_at h]; rfl
/-- the lane of the sheet ahead -/
def prevL (S : List Shd) (k : Nat) : Option Int := if k = 0 then none else (S[k - 1]?).map Shd.lane
set_option maxHeartbeats 12800000 in
set_option maxRecDepth 100000 in
theorem fixed_c (r : Race) (Af : Option Addr) (nf cf : Nat) (f : List Fx) (heat : Int) (A : Option Addr) (n c : Nat) (S : List Shc) (w : World) (hf : RFx w Af nf f) (h : RSh w A n S) (hlp : ∀ x ∈ S, x.n ≤ 1000) :
    Calls Tryz.prog 27 #[r.val, .slice Af nf cf, .int .i64 heat, .slice A n c] w (RetFd w (fixdErr r f heat (S.map Shc.dat)) (fixdL r f heat (S.map Shc.dat))) := by
  have hB0 := below_new w (.cells r.cells 51)
  have hb0 := heap_alloc_new w (.cells r.cells 51)
  have hRf := Lib.hid (fun W (B : Below w.heap.size w W) => hf.below B)
  have hRs := Lib.hid (fun W (B : Below w.heap.size w W) => h.below B)
  have hCr := Lib.hid (fun W => checkRace_c r W)
  have hCf := Lib.hid (fun W (B : Below w.heap.size w W) => checkFixes_c Af nf cf f W (hRf.out W B))
  have hlen := h.len
  have hE := Lib.hid (show fixdErr r f heat (S.map Shc.dat) = if raceErr r ≠ 0 then raceErr r else if fxErr f ≠ 0 then fxErr f else if ¬ (1 ≤ heat ∧ heat ≤ 60) then 1 else if 10 < n then 2 else shtErr none (S.map Shc.dat) by unfold fixdErr; rw [List.length_map, hlen])
  have hfb := hf.bd
  have hf300 := Lib.hid (fun (h0 : fxErr f = 0) => show nf ≤ 300 by have := ((fxErr_iff f).1 h0).1; rw [hf.len] at this; exact this)
  have hfl := Lib.hid hf.len
  have hlen' := Lib.hid hlen
  have hlp' := Lib.hid hlp
  generalize fixdErr r f heat (S.map Shc.dat) = E at *
  generalize hRE : raceErr r = RE at *
  generalize hFE : fxErr f = FE at *
  clear hRE hFE hf h hlen hlp
  have hbd := hb0
  obtain ⟨key, metres, stroke, course, legs, sex, young, old⟩ := r
  dsimp only [Race.val, Race.cells] at *
  have z0 := (blk_facts hb0).1 0
  have z1 := (blk_facts hb0).1 1
  have z2 := (blk_facts hb0).1 2
  have z3 := (blk_facts hb0).1 3
  have z4 := (blk_facts hb0).1 4
  have z5 := (blk_facts hb0).1 5
  have z6 := (blk_facts hb0).1 6
  have z7 := (blk_facts hb0).1 7
  clear hb0
  go_enter Tryz.func27, Tryz.ntmps27
  go_wp2_with fail
  refine (hCr.out _).mono ?_; rintro e w1 ⟨rfl, B1⟩
  have hB1 := below_next hB0 B1
  have hb1 := blk_below hbd B1
  clear hCr B1 hB0 hbd z0 z1 z2 z3 z4 z5 z6 z7
  by_cases h0 : RE = 0
  rotate_left
  · have hd : (RE != 0) = true := by simpa using h0
    obtain rfl : E = RE := by rw [hE.out, if_pos h0]
    have h0' := Lib.hid h0
    clear hE h0
    go_wp2
    go_ret2
    exact ⟨none, 0, 0, [], rfl, (fun _ => ⟨rfl, rfl, rfl⟩), (fun e => absurd e h0'.out), World.ownsRow_nil _ _ _ _, (fun x hx => by cases hx), hB1⟩
  have hE2 := Lib.hid (hE.out.trans (if_neg (not_not_intro h0)))
  subst h0
  clear hE
  go_wp2_with fail
  refine (hCf.out _ hB1).mono ?_; rintro e w2 ⟨rfl, B2⟩
  have hB2 := below_next hB1 B2
  have hb2 := blk_below hb1 B2
  clear hCf B2 hB1 hb1
  by_cases h0 : FE = 0
  rotate_left
  · have hd : (FE != 0) = true := by simpa using h0
    obtain rfl : E = FE := by rw [hE2.out, if_pos h0]
    have h0' := Lib.hid h0
    clear hE2 h0
    go_wp2
    go_ret2
    exact ⟨none, 0, 0, [], rfl, (fun _ => ⟨rfl, rfl, rfl⟩), (fun e => absurd e h0'.out), World.ownsRow_nil _ _ _ _, (fun x hx => by cases hx), hB2⟩
  have hE3 := Lib.hid (hE2.out.trans (if_neg (not_not_intro h0)))
  have hnf := hf300.out h0
  subst h0
  clear hE2 hf300
  go_wp2_with fail
  refine (within_c _ _ _ _).mono ?_; rintro e w3 ⟨rfl, rfl⟩
  by_cases h0 : 1 ≤ heat ∧ heat ≤ 60
  rotate_left
  · have hd : decide (1 ≤ heat ∧ heat ≤ 60) = false := decide_eq_false h0
    obtain rfl : E = 1 := by rw [hE3.out, if_pos h0]
    rw [hd]
    clear hE3 h0
    go_wp2
    go_ret2
    exact ⟨none, 0, 0, [], rfl, (fun _ => ⟨rfl, rfl, rfl⟩), (fun e => by cases e), World.ownsRow_nil _ _ _ _, (fun x hx => by cases hx), hB2⟩
  have hE4 := Lib.hid (hE3.out.trans (if_neg (not_not_intro h0)))
  have hd : decide (1 ≤ heat ∧ heat ≤ 60) = true := decide_eq_true h0
  rw [hd]
  clear hE3 h0 hd
  by_cases h0 : 10 < n
  · obtain rfl : E = 2 := by rw [hE4.out, if_pos h0]
    have h0' : (10 : Int) < n := by omega
    clear hE4
    go_wp2
    go_ret2
    exact ⟨none, 0, 0, [], rfl, (fun _ => ⟨rfl, rfl, rfl⟩), (fun e => by cases e), World.ownsRow_nil _ _ _ _, (fun x hx => by cases hx), hB2⟩
  have hE5 := Lib.hid (hE4.out.trans (if_neg h0))
  have h0' : ¬ (10 : Int) < n := by omega
  have K0 : FO w ⟨key, metres, stroke, course, legs, sex, young, old⟩ (.slice none 0 0) [] w2 := ⟨World.ownsRow_nil _ _ _ _, (fun x hx => by cases hx), hb2, hB2⟩
  have hAt := Lib.hid (fun o (k : Nat) x (h : S[k]? = some x) => shtErr_at (S := S.map Shc.dat) (x := x.dat) (k := k) o (by rw [List.getElem?_map, h]; rfl))
  have hS0 := Lib.hid (fun o => show shtErr o [] = 0 by cases o <;> rfl)
  have hpl := Lib.hid (fun (k : Nat) x (h : S[k]? = some x) => show prevL (S.map Shc.dat) (k + 1) = some x.lane by unfold prevL; rw [if_neg (by omega), List.getElem?_map, Nat.add_sub_cancel, h]; rfl)
  have hp0 := Lib.hid (show prevL (S.map Shc.dat) 0 = none from if_pos rfl)
  generalize shtErr = SE at *
  clear hE4 h0 hB2 hb2
  go_wp2_with fail
  go_loopw [12, 36] (fun out i wr => ∃ (k : Nat) (acc : List Shc), k ≤ n ∧ i = .int .i64 k ∧ acc.length = k ∧ FO w ⟨key, metres, stroke, course, legs, sex, young, old⟩ out acc wr ∧ Hid (SE (prevL (S.map Shc.dat) k) ((S.map Shc.dat).drop k) = SE none (S.map Shc.dat)) ∧ Hid (acc.map Shc.dat = ((S.map Shc.dat).take k).map fun s => putsV (actF key heat s.lane f) s)) (fun _ i _ => n - (intOf i).toNat)
  case atStart => exact ⟨0, [], Nat.zero_le _, rfl, rfl, K0, Lib.hid (by rw [hp0.out, List.drop_zero]), Lib.hid (by simp)⟩
  case round =>
    clear K0
    rename World => wr
    obtain ⟨k, acc, hk, rfl, hak, K, hF, hG⟩ := hrel
    by_cases hlt : k < n
    · have hlti : (k : Int) < n := by omega
      obtain ⟨bs, os, x, hAe, hbl, hx, c0, c1, c2, c3, hxl⟩ := (hRs.out _ K.bel).at4 hlt
      have hx' := Lib.hid hx
      have hxn := hlp'.out x (List.mem_of_getElem? hx)
      have hSk := Lib.hid ((hAt.out (prevL (S.map Shc.dat) k) k x hx).symm.trans hF.out)
      have hpk := Lib.hid (hpl.out k x hx)
      obtain ⟨xl, xA, xn, xc, xp, xt, xb⟩ := x
      dsimp only [Shc.dat] at c0 c1 c2 c3 hxl hxn hSk hpk
      have hn0 := heap_alloc_new wr (.cells #[.int .i64 xl, .slice xA xn xc, .int .i64 xt, .int .i64 xb] 62)
      have hBn := below_new wr (.cells #[.int .i64 xl, .slice xA xn xc, .int .i64 xt, .int .i64 xb] 62)
      have y0 := (blk_facts hn0).1 0
      subst hAe
      by_cases h1 : 1 ≤ xl ∧ xl ≤ 10
      rotate_left
      · have hd : decide (1 ≤ xl ∧ xl ≤ 10) = false := decide_eq_false h1
        obtain rfl : E = 1 := hE5.out.trans (hSk.out.symm.trans (if_pos h1))
        have hB9 := below_next K.bel hBn
        clear hSk hE5 h1 hF hG
        go_wp2_with (go_at_call 60; refine (within_c _ _ _ _).mono ?_; rintro e w' ⟨rfl, rfl⟩; rw [hd])
        go_ret2
        exact ⟨none, 0, 0, [], rfl, (fun _ => ⟨rfl, rfl, rfl⟩), (fun e => by cases e), World.ownsRow_nil _ _ _ _, (fun x hx => by cases hx), hB9⟩
      have hSk2 := Lib.hid (hSk.out.symm.trans (if_neg (not_not_intro h1))).symm
      have hd : decide (1 ≤ xl ∧ xl ≤ 10) = true := decide_eq_true h1
      clear hSk h1 hF
      go_upto_region 17 with (go_at_call 60; refine (within_c _ _ _ _).mono ?_; rintro e w' ⟨rfl, rfl⟩; rw [hd])
      clear hd
      obtain ⟨PB, hPB⟩ : ∃ PB : Bool, (match prevL (S.map Shc.dat) k with | some p => decide (xl ≤ p) | none => false) = PB := ⟨_, rfl⟩
      have hSk3 := Lib.hid (show (if PB = true then (7 : Int) else SE (some xl) ((S.map Shc.dat).drop (k + 1))) = SE none (S.map Shc.dat) by rw [← hPB]; exact hSk2.out)
      clear hSk2 c0 c1 c2 c3 y0
      go_cut [57] (fun s57 wx => s57 = .bool PB ∧ wx.heap[wr.heap.size]? = some (.cells #[.int .i64 xl, .slice xA xn xc, .int .i64 xt, .int .i64 xb] 62 (0, 0)) ∧ Below wr.heap.size wr wx)
      case first =>
        have y0 := (blk_facts hn0).1 0
        by_cases hk0 : k = 0
        · subst hk0
          obtain rfl : PB = false := by rw [← hPB, hp0.out]
          have e9 : decide ((0 : Int) < ((0 : Nat) : Int)) = false := by decide
          have e8 : decide ((0 : Int) < 0) = false := by decide
          have e7 : decide (0 < 0) = false := by decide
          go_quiet (fail)
          go_wp2
          go_meet
          case rel => exact ⟨rfl, hn0, below_drewN hBn _⟩
        · obtain ⟨bs2, os2, p, hAe2, hbl2, hp, d0, d1, d2, d3, hpl2⟩ := (hRs.out _ K.bel).at4 (k := k - 1) (by omega)
          injection hAe2 with hAe2
          injection hAe2 with q1 q2
          subst q1 q2
          have hpv : PB = decide (xl ≤ p.lane) := by
            rw [← hPB]
            have h9 := hpl.out (k - 1) p hp
            rw [Nat.sub_add_cancel (by omega)] at h9
            rw [h9]
          obtain ⟨pl, pA, pn, pc, pp, pt, pb⟩ := p
          dsimp only at *
          have e8 : decide (0 < k) = true := decide_eq_true (by omega)
          have e9 : decide ((0 : Int) < (k : Int)) = true := decide_eq_true (by omega)
          have u1 : IntKind.i64.wrap ((k : Int) - 1) = (k : Int) - 1 := IntWalk.i64_in _ (by omega)
          have u2 : 0 ≤ (k : Int) - 1 := by omega
          have u3 : ((k : Int) - 1).toNat = k - 1 := by omega
          have u4 : (k : Int) - 1 < n := by omega
          have u5 : (1 : Int) ≤ (k : Int) := by omega
          have u6 : (k : Int) - 1 < 9223372036854775808 := by omega
          have e0 : (wr.alloc (.cells #[.int .i64 xl, .slice xA xn xc, .int .i64 xt, .int .i64 xb] 62)).cell? ⟨bs, os + (k - 1) * 4, none⟩ = some (.int .i64 pl) := (hBn.cell (p := ⟨bs, os + (k - 1) * 4, none⟩) hbl).trans d0
          have hpv' := Lib.hid hpv
          clear hp d0 d1 d2 d3 hpl2 hPB hpv
          cases PB
          · have e10 : decide (xl ≤ pl) = false := hpv'.out.symm
            clear hpv'
            go_quiet (fail)
            go_wp2
            go_meet
            case rel => exact ⟨rfl, hn0, below_drewN hBn _⟩
          · have e10 : decide (xl ≤ pl) = true := hpv'.out.symm
            clear hpv'
            go_quiet (fail)
            go_wp2
            go_meet
            case rel => exact ⟨rfl, hn0, below_drewN hBn _⟩
      case rest =>
        rename World => wx
        obtain ⟨rfl, hb3, hB3⟩ := hcut
        clear hn0 hBn hPB
        cases PB
        rotate_left
        · obtain rfl : E = 7 := hE5.out.trans hSk3.out.symm
          have hB9 := below_next K.bel hB3
          clear hE5 hSk3 hG
          go_wp2
          go_ret2
          exact ⟨none, 0, 0, [], rfl, (fun _ => ⟨rfl, rfl, rfl⟩), (fun e => by cases e), World.ownsRow_nil _ _ _ _, (fun x hx => by cases hx), hB9⟩
        have hSk4 := Lib.hid (show SE (some xl) ((S.map Shc.dat).drop (k + 1)) = SE none (S.map Shc.dat) from hSk3.out)
        have y1 := (blk_facts hb3).1 1
        have hbz := lt_of_heap hb3
        have hCl := Lib.hid (cloneLp_c xA xn xc xp wx (hxl.below hB3) hxn)
        have hll := Lib.hid hxl.len
        clear hSk3 hxl
        go_wp2_with fail
        refine hCl.out.mono ?_; rintro e w5 ⟨A5, c5, rfl, own5, B5⟩
        have hb5 := blk_below hb3 B5
        have hB5 := below_next hB3 B5
        have f1 := (blk_facts hb5).2 1
        have y1' := (blk_facts hb5).1 1
        have hS6 : ShB wr.heap.size A5 xn c5 ⟨xl, xp, xt, xb⟩ (w5.setCell ⟨wr.heap.size, 1, none⟩ (.slice A5 xn c5)) := by
          have k1 := blk_set hb5 1 (.slice A5 xn c5)
          have g1 : w5.grownBy (w5.setCell ⟨wr.heap.size, 1, none⟩ (.slice A5 xn c5)) (some wr.heap.size) := grown_setCell (grown_refl _ _) (p := ⟨wr.heap.size, 1, none⟩) (.inl rfl) _
          have o1 := own_mono (base' := wr.heap.size + 1) own5 hbz
          exact ⟨k1, o1.kept (row := some wr.heap.size) g1 (.inr (fun e => by have := own_row_lt o1 _ e; omega))⟩
        have hB6 : Below wr.heap.size wr (w5.setCell ⟨wr.heap.size, 1, none⟩ (.slice A5 xn c5)) := hB5.setCell (Nat.le_refl _) _
        have hA0 := Lib.hid (show putsV (actF key heat xl (f.drop 0)) ⟨xl, xp, xt, xb⟩ = putsV (actF key heat xl f) ⟨xl, xp, xt, xb⟩ by rw [List.drop_zero])
        have hAs := Lib.hid (fun (q : Nat) (x : Fx) (h : f[q]? = some x) (s : Shd) => act_step (key := key) (heat := heat) (lane := xl) h s)
        have hAe0 := Lib.hid (fun s => show putsV (actF key heat xl []) s = s from rfl)
        obtain ⟨TG, hTG⟩ : ∃ TG, putsV (actF key heat xl f) ⟨xl, xp, xt, xb⟩ = TG := ⟨_, rfl⟩
        rw [hTG] at hA0
        have hTG' := Lib.hid hTG
        clear hTG hCl own5 hb3 hB3 hb5 hB5 B5 y1
        go_wp2_with fail
        clear f1 y1'
        generalize w5.setCell ⟨wr.heap.size, 1, none⟩ (.slice A5 xn c5) = w6 at *
        go_loopw [64] (fun i wy => ∃ (q : Nat) (M : Shd), q ≤ nf ∧ i = .int .i64 q ∧ ShB wr.heap.size A5 xn c5 M wy ∧ Hid (M.lane = xl ∧ putsV (actF key heat xl (f.drop q)) M = TG) ∧ Below wr.heap.size wr wy) (fun i _ => nf - (intOf i).toNat)
        case atStart => exact ⟨0, _, Nat.zero_le _, rfl, hS6, Lib.hid ⟨rfl, hA0.out⟩, hB6⟩
        case round =>
          clear hS6 hB6 hA0
          rename World => wy
          obtain ⟨q, M, hq, rfl, hSh, hM, hBy⟩ := hrel
          have hML := hM.out.1
          by_cases hq2 : q < nf
          · obtain ⟨bf, of_, x, rfl, hbf, hx2, g0, g1, g2, g3, g4, g5, g6⟩ := RFx_at7 (hRf.out _ (below_next K.bel hBy)) hq2
            have hstp := Lib.hid ((hAs.out q x hx2 M).symm.trans hM.out.2)
            have hnx := Lib.hid (fun (y : Fx) (h : f[q + 1]? = some y) => show lastF f[q + 1]? x = !samePl y x by rw [h]; rfl)
            have hn1 := Lib.hid (fun (h : f[q + 1]? = none) => show lastF f[q + 1]? x = true by rw [h]; rfl)
            have hhit := Lib.hid (show hitF key heat xl f[q + 1]? x = (lastF f[q + 1]? x && (decide (x.rc = key) && (decide (x.ht = heat) && decide (x.ln = xl)))) from rfl)
            have hpc := Lib.hid (fun W (h : ShB wr.heap.size A5 xn c5 M W) => put_c wr.heap.size A5 xn c5 M x W h hxn)
            have hpl9 := Lib.hid (show (putV x M).lane = xl from (putV_lane x M).trans hML)
            obtain ⟨LV, hLV⟩ : ∃ LV, lastF f[q + 1]? x = LV := ⟨_, rfl⟩
            rw [hLV] at hnx hn1 hhit
            obtain ⟨HV, hHV⟩ : ∃ HV, hitF key heat xl f[q + 1]? x = HV := ⟨_, rfl⟩
            rw [hHV] at hstp hhit
            generalize putV x M = PM at *
            obtain ⟨rc, ht, ln, le, tm, vr, by_⟩ := x
            dsimp only [fxE] at *
            have hm0 := heap_alloc_new wy (.cells #[.string rc, .int .i64 ht, .int .i64 ln, .int .i64 le, .int .i64 tm, .int .i64 vr, .string by_] 69)
            have hBm := below_new wy (.cells #[.string rc, .int .i64 ht, .int .i64 ln, .int .i64 le, .int .i64 tm, .int .i64 vr, .string by_] 69)
            clear hx2 hLV hHV hM
            go_upto_region 23 with (fail)
            clear g0 g1 g2 g3 g4 g5 g6
            go_cut [17] (fun s17 wz => s17 = .bool LV ∧ wz.heap[wy.heap.size]? = some (.cells #[.string rc, .int .i64 ht, .int .i64 ln, .int .i64 le, .int .i64 tm, .int .i64 vr, .string by_] 69 (0, 0)) ∧ Below wy.heap.size wy wz)
            case first =>
              have y0 := (blk_facts hm0).1 0
              have y1 := (blk_facts hm0).1 1
              have y2 := (blk_facts hm0).1 2
              have y3 := (blk_facts hm0).1 3
              have u1 : IntKind.i64.wrap ((q : Int) + 1) = (q : Int) + 1 := IntWalk.i64_in _ (by omega)
              by_cases hqe : q + 1 = nf
              · obtain rfl : LV = true := hn1.out (List.getElem?_eq_none (by rw [hfl.out]; omega))
                have e9 : ((q : Int) + 1 == (nf : Int)) = true := by rw [← hqe]; simp
                clear hqe
                go_quiet (fail)
                go_wp2
                go_meet
                case rel => exact ⟨rfl, hm0, below_drewN hBm _⟩
              · obtain ⟨bf2, of2, y, hAe2, hbf2, hy, d0, d1, d2, d3, _, _, _⟩ := RFx_at7 (hRf.out _ (below_next K.bel hBy)) (k := q + 1) (by omega)
                injection hAe2 with hAe2
                injection hAe2 with q1 q2
                subst q1 q2
                have hLy := hnx.out y hy
                unfold samePl at hLy
                obtain ⟨rc2, ht2, ln2, le2, tm2, vr2, by2⟩ := y
                dsimp only at *
                have v0 := (hBm.cell (p := ⟨bf, of_ + (q + 1) * 7, none⟩) hbf).trans d0
                have v1 := (hBm.cell (p := ⟨bf, of_ + (q + 1) * 7 + 1, none⟩) hbf).trans d1
                have v2 := (hBm.cell (p := ⟨bf, of_ + (q + 1) * 7 + 2, none⟩) hbf).trans d2
                have v3 := (hBm.cell (p := ⟨bf, of_ + (q + 1) * 7 + 3, none⟩) hbf).trans d3
                have e9 : ((q : Int) + 1 == (nf : Int)) = false := beq_eq_false_iff_ne.2 (by omega)
                have u2 : 0 ≤ (q : Int) + 1 := by omega
                have u3 : ((q : Int) + 1).toNat = q + 1 := by omega
                have u4 : (q : Int) + 1 < nf := by omega
                have hcs : ((rc2.toList == rc.toList) = false ∧ (rc2.toList != rc.toList) = true ∧ LV = true) ∨ (rc2 = rc ∧ (((ht2 == ht) = false ∧ (ht2 != ht) = true ∧ LV = true) ∨ (ht2 = ht ∧ (((ln2 == ln) = false ∧ (ln2 != ln) = true ∧ LV = true) ∨ (ln2 = ln ∧ (((le2 == le) = false ∧ (le2 != le) = true ∧ LV = true) ∨ (le2 = le ∧ LV = false))))))) := by
                  by_cases w1 : rc2 = rc
                  · refine .inr ⟨w1, ?_⟩
                    by_cases w2 : ht2 = ht
                    · refine .inr ⟨w2, ?_⟩
                      by_cases w3 : ln2 = ln
                      · refine .inr ⟨w3, ?_⟩
                        by_cases w4 : le2 = le
                        · exact .inr ⟨w4, by rw [hLy, w1, w2, w3, w4]; simp⟩
                        · exact .inl ⟨beq_eq_false_iff_ne.2 w4, by rw [bne_iff_ne]; exact w4, by rw [hLy]; simp [w4]⟩
                      · exact .inl ⟨beq_eq_false_iff_ne.2 w3, by rw [bne_iff_ne]; exact w3, by rw [hLy]; simp [w3]⟩
                    · exact .inl ⟨beq_eq_false_iff_ne.2 w2, by rw [bne_iff_ne]; exact w2, by rw [hLy]; simp [w2]⟩
                  · exact .inl ⟨str_neF w1, by rw [bne, str_neF w1]; rfl, by rw [hLy]; simp [w1]⟩
                clear hy d0 d1 d2 d3 hLy hqe hnx hn1
                rcases hcs with ⟨m1, m2, rfl⟩ | ⟨rfl, ⟨m1, m2, rfl⟩ | ⟨rfl, ⟨m1, m2, rfl⟩ | ⟨rfl, ⟨m1, m2, rfl⟩ | ⟨rfl, rfl⟩⟩⟩⟩
                all_goals
                  go_quiet (fail)
                  go_wp2
                  go_meet
                  case rel => exact ⟨rfl, hm0, below_drewN hBm _⟩
            case rest =>
              rename World => wz
              obtain ⟨rfl, hm3, hB3⟩ := hcut
              clear hm0 hBm hnx hn1
              have hSz := hSh.below hB3
              have hBz := below_next hBy hB3
              have y0 := (blk_facts hm3).1 0
              have y1 := (blk_facts hm3).1 1
              have y2 := (blk_facts hm3).1 2
              have y3 := (blk_facts hm3).1 3
              have y4 := (blk_facts hm3).1 4
              have y5 := (blk_facts hm3).1 5
              have y6 := (blk_facts hm3).1 6
              have r0 : wz.cell? ⟨w.heap.size, 0, none⟩ = some (.string key) := (blk_facts (blk_below K.rb hBz)).1 0
              have s0 : wz.cell? ⟨wr.heap.size, 0, none⟩ = some (.int .i64 M.lane) := (blk_facts hSz.bx).1 0
              rw [hML] at s0
              have hNo := Lib.hid (fun (h : HV = false) => show putsV (actF key heat xl (f.drop (q + 1))) M = TG by have h1 := hstp.out; rw [h] at h1; exact h1)
              have hYe := Lib.hid (fun (h : HV = true) => show putsV (actF key heat xl (f.drop (q + 1))) PM = TG by have h1 := hstp.out; rw [h] at h1; exact h1)
              have hcs : (LV = false ∧ HV = false) ∨ (LV = true ∧ (((rc.toList == key.toList) = false ∧ HV = false) ∨ (rc = key ∧ (((ht == heat) = false ∧ HV = false) ∨ (ht = heat ∧ (((ln == xl) = false ∧ HV = false) ∨ (ln = xl ∧ HV = true))))))) := by
                have h1 := hhit.out
                cases LV
                · exact .inl ⟨rfl, by rw [h1]; rfl⟩
                · refine .inr ⟨rfl, ?_⟩
                  by_cases w1 : rc = key
                  · refine .inr ⟨w1, ?_⟩
                    by_cases w2 : ht = heat
                    · refine .inr ⟨w2, ?_⟩
                      by_cases w3 : ln = xl
                      · exact .inr ⟨w3, by rw [h1, w1, w2, w3]; simp⟩
                      · exact .inl ⟨beq_eq_false_iff_ne.2 w3, by rw [h1]; simp [w3]⟩
                    · exact .inl ⟨beq_eq_false_iff_ne.2 w2, by rw [h1]; simp [w2]⟩
                  · exact .inl ⟨str_neF w1, by rw [h1]; simp [w1]⟩
              clear hstp hhit hSh hBy hm3 hB3
              rcases hcs with ⟨rfl, rfl⟩ | ⟨rfl, ⟨m1, rfl⟩ | ⟨rfl, ⟨m1, rfl⟩ | ⟨rfl, ⟨m1, rfl⟩ | ⟨rfl, rfl⟩⟩⟩⟩
              rotate_right
              · have b1 : (rc.toList == rc.toList) = true := beq_self_eq_true _
                have b2 : (ht == ht) = true := beq_self_eq_true _
                have b3 : (ln == ln) = true := beq_self_eq_true _
                clear hNo
                go_wp2_with fail
                refine (hpc.out _ hSz).mono ?_; rintro e w9 ⟨rfl, hS9, B9⟩
                have hB9 := hBz.trans B9
                clear hpc B9
                go_wp2
                go_roundw
                case rel => exact ⟨q + 1, PM, by omega, by go_num, hS9, Lib.hid ⟨hpl9.out, by first | exact hYe.out rfl | exact hYe.out trivial⟩, hB9⟩
                case measure => simp [intOf]; omega
              all_goals
                clear hpc hYe
                go_wp2
                go_roundw
                case rel => exact ⟨q + 1, M, by omega, by go_num, hSz, Lib.hid ⟨hML, by first | exact hNo.out rfl | exact hNo.out trivial⟩, hBz⟩
                case measure => simp [intOf]; omega
          · obtain rfl : q = nf := by omega
            have hMT : M = TG := by
              have h1 := hM.out.2
              rw [List.drop_of_length_le (by rw [hfl.out]; exact Nat.le_refl _), hAe0.out] at h1
              exact h1
            have Ky := K.below hBy
            have hol : wy.ownsRow w.heap.size 57 3 (.slice A5 xn c5) xn (M.laps.flatMap lpE) := own_mono (base' := w.heap.size) hSh.o (Nat.le_succ_of_le K.bel.size)
            have s0 : wy.cell? ⟨wr.heap.size, 0, none⟩ = some (.int .i64 M.lane) := (blk_facts hSh.bx).1 0
            have s1 : wy.cell? ⟨wr.heap.size, 1, none⟩ = some (.slice A5 xn c5) := (blk_facts hSh.bx).1 1
            have s2 : wy.cell? ⟨wr.heap.size, 2, none⟩ = some (.int .i64 M.time) := (blk_facts hSh.bx).1 2
            have s3 : wy.cell? ⟨wr.heap.size, 3, none⟩ = some (.int .i64 M.by_) := (blk_facts hSh.bx).1 3
            have hown := Ky.o
            have hsz := Ky.bel.size
            have hG2 := Lib.hid (show (acc ++ [(⟨M.lane, A5, xn, c5, M.laps, M.time, M.by_⟩ : Shc)]).map Shc.dat = ((S.map Shc.dat).take (k + 1)).map fun s => putsV (actF key heat s.lane f) s by
              rw [List.map_append, hG.out, List.take_add_one, List.getElem?_map, hx'.out, List.map_append]
              congr 1
              show [M] = [putsV (actF key heat xl f) ⟨xl, xp, xt, xb⟩]
              rw [hTG'.out, hMT])
            have hF2 := Lib.hid (show SE (prevL (S.map Shc.dat) (k + 1)) ((S.map Shc.dat).drop (k + 1)) = SE none (S.map Shc.dat) by rw [hpk.out]; exact hSk4.out)
            have hap := Lib.hid (fun (v : Value) (W : World) (ho : W.ownsRow w.heap.size 62 4 v (acc.length + 1) (acc.flatMap shE ++ [.int .i64 xl, .slice A5 xn c5, .int .i64 M.time, .int .i64 M.by_])) hg => FO.app (x := ⟨M.lane, A5, xn, c5, M.laps, M.time, M.by_⟩) Ky hol (by show W.ownsRow _ _ _ _ _ (_ ++ [.int .i64 M.lane, .slice A5 xn c5, .int .i64 M.time, .int .i64 M.by_]); rw [hML]; exact ho) hg)
            clear hG hTG' hSk4 hpk hM hMT hSh hBy K hol hAs hAe0 hx' hE5 hAt hS0 hpl hp0 Ky
            go_wp2_with (at_builtin; refine wpList_app rfl (.tmp 142) (.tmp 144) 63 rfl Tryz.underlying63 info_sheetX rfl (by omega) (by omega) hown rfl rfl (by first | rfl | (simp; done)) (by rfl) (by simp [Value.oneCell']) (by omega) hsz ?_; intro v6 w6 hown6 hg6)
            have K9 := hap.out v6 w6 hown6 hg6
            clear hap hown hown6 hg6
            go_wp2
            go_roundw
            case rel => exact ⟨k + 1, _, by omega, by go_num, by rw [List.length_append, hak]; rfl, K9, hF2, hG2⟩
            case measure => simp [intOf]; omega
    · obtain rfl : k = n := by omega
      have hdn : (S.map Shc.dat).drop k = [] := List.drop_of_length_le (by rw [List.length_map, hlen'.out]; exact Nat.le_refl _)
      have hE0 := Lib.hid (show E = 0 by rw [hE5.out, ← hF.out, hdn, hS0.out])
      have hL := Lib.hid (show acc.map Shc.dat = fixdL ⟨key, metres, stroke, course, legs, sex, young, old⟩ f heat (S.map Shc.dat) by
        rw [hG.out, List.take_of_length_le (by rw [List.length_map, hlen'.out]; exact Nat.le_refl _)]; rfl)
      obtain ⟨A9, c9, rfl⟩ := own_shape K.o
      obtain rfl := hE0.out
      clear hF hG hE5 hE0 hdn
      go_wp2
      go_ret2
      exact ⟨A9, acc.length, c9, acc, rfl, (fun e => absurd rfl e), (fun _ => hL.out), K.o, K.lp, K.bel⟩
end Go.Proofs.YtnkhdofcmanipaaGreatDoor
