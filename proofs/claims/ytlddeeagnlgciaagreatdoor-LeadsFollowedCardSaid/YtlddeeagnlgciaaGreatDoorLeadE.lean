import Derived.Test.YtlddeeagnlgciaaGreatDoorLeadT
import Derived.Test.YtlddeeagnlgciaaGreatDoorLeadL
import Derived.Deep.DeepCutAuto
import Derived.Test.YtlddeeagnlgciaaGreatDoorP21
import Derived.BigGuardPart
/- The reference's LeadsOf of a right field: the same phases. -/
namespace Go.Proofs.YtlddeeagnlgciaaGreatDoor
open Go.RowKit
set_option linter.unusedVariables false

theorem lastQ_at (P : List Ph) (y : Ph) : ((P ++ [y]).flatMap phE)[P.length * 3 + 1]? = some (.int .i64 y.t) ∧ ((P ++ [y]).flatMap phE)[P.length * 3 + 2]? = some (.slice y.A y.n y.c) :=
  ⟨flat_at phE_len _ _ y 1 _ (snoc_last P y) rfl, flat_at phE_len _ _ y 2 _ (snoc_last P y) rfl⟩
set_option maxHeartbeats 6400000 in
set_option maxRecDepth 100000 in
theorem leadsOf0_c (r : Race) (A : Option Addr) (n c M : Nat) (l : List Sw) (w : World) (h : RSw w A n l) (h0 : fieldErr r l = 0) (hn1 : 1 ≤ n) (hM : lenV r = M) (hM1 : 1 ≤ M) (hM2 : M ≤ 1000) (hx1 : ∀ x ∈ l, x.n = M) (hbx : ∀ x ∈ l, ∀ y ∈ x.sp, 0 ≤ y ∧ y ≤ 360000) (N : Nat) (hN : firstG M l = N) (hN2 : N ≤ 360000) :
    Calls Tryz.prog 46 #[r.val, .slice A n c] w fun e w' => ∃ A' c' P, e = .returned (.slice A' (P.length) c') ∧ LS w w.heap.size (w.heap.size + 1) r.cells (.slice A' P.length c') P w' ∧ PhIs r l N P := by
  have hn20 : n ≤ 20 := by rw [← h.len]; exact (fieldErr_ok h0).2.1
  have hFi := Lib.hid (fun W h => winning_c A n c M l W h hM1 hM2 hx1 hbx)
  rw [hN] at hFi
  have hLd := Lib.hid (fun (t : Nat) W hh (ht : t ≤ 360000) => leadersAt_c r A n c l t W hh (fieldErr_ok h0).2.2 (by omega) (by omega) (by omega))
  have hLI := Lib.hid (fun (t s : Nat) => show eqS (ldN (ldL r s l)) (ldN (ldL r t l)) = true → ldT r l t = ldT r l s from fun e => (ldN_inj h0 (by simpa [eqS] using e)).symm)
  have hLI2 := Lib.hid (fun (t s : Nat) => show ldT r l t = ldT r l s → eqS (ldN (ldL r s l)) (ldN (ldL r t l)) = true from fun e => by show eqS (ldN (ldT r l s)) (ldN (ldT r l t)) = true; rw [e]; simp [eqS])
  have hLl := Lib.hid (fun (t : Nat) => show (ldN (ldT r l t)).length ≤ 20 from by have := ldL_len r t l; have := h.len; unfold ldN ldT; rw [List.length_map]; omega)
  have hPz := PhIs.zero r l
  have hP1 := Lib.hid (fun (A : Option Addr) (n c : Nat) => PhIs.one r l A n c)
  have hPn := Lib.hid (fun (t : Nat) P hp hne A n c => PhIs.new (r := r) (l := l) (t := t) (P := P) hp hne A n c)
  have hPl := Lib.hid (fun (t : Nat) P hp => PhIs.last (r := r) (l := l) (t := t) (P := P) hp)
  have hPlen := Lib.hid (fun (t : Nat) P (hp : PhIs r l t P) => hp.len)
  have hTL : ∀ t : Nat, ldL r t l = ldT r l t := fun _ => rfl
  simp only [hTL] at hLd hLI hLI2
  clear hTL h0 hM hM1 hM2 hx1 hbx hN
  generalize PhIs r l = PI at *
  generalize ldT r l = LT at *
  obtain ⟨key, metres, stroke, course, legs, sex, young, old⟩ := r
  dsimp only [Race.val, Race.cells] at *
  have hb0 := heap_alloc_new w (.cells #[.string key, .int .i64 metres, .int .i64 stroke, .int .i64 course, .int .i64 legs, .int .i64 sex, .int .i64 young, .int .i64 old] 27)
  have hB0 := below_new w (.cells #[.string key, .int .i64 metres, .int .i64 stroke, .int .i64 course, .int .i64 legs, .int .i64 sex, .int .i64 young, .int .i64 old] 27)
  have hl := Lib.hid h.len
  go_enter Tryz.func46, Tryz.ntmps46
  go_wp2_with fail
  refine (hFi.out _ (h.alloc _)).mono ?_; rintro e w2 ⟨rfl, B2⟩
  have hS := (LS.start (blk_below hb0 B2) (below_next hB0 B2)).low (B1 := w.heap.size + 1) (by have := lt_of_heap hb0; have := B2.size; omega) (by omega) (by omega)
  clear hb0 hB0 B2 hFi
  go_wp2_with fail
  go_loopw [5, 14] (fun out i wr => ∃ (t : Nat) (P : List Ph), t ≤ N ∧ i = .int .i64 t ∧ LS w w.heap.size (w.heap.size + 1) #[.string key, .int .i64 metres, .int .i64 stroke, .int .i64 course, .int .i64 legs, .int .i64 sex, .int .i64 young, .int .i64 old] out P wr ∧ Hid (PI t P)) (fun _ i _ => N - (intOf i).toNat)
  case atStart => exact ⟨0, [], Nat.zero_le _, rfl, hS, Lib.hid hPz⟩
  case round =>
    clear hS
    obtain ⟨t, P, ht, rfl, hS, hPI⟩ := hrel
    by_cases hlt : t < N
    · have zr := (blk_facts hS.rc).1
      have hlr := lt_of_heap hS.rc
      go_wp2_with fail
      refine (hLd.out t _ (h.below hS.bel) (by omega)).mono ?_; rintro e w3 ⟨nA, m, nc, rfl, hnow3, B3⟩
      have hm : m = (ldN (LT t)).length := by have := hnow3.1; rw [List.length_map] at this; omega
      subst hm
      have hS3 := hS.below B3
      have hnow3 := own_low hnow3 hS.b3
      clear hS B3 zr hlr
      have hm20 := hLl.out t
      have wt : IntKind.i64.wrap ((t : Int) + 1) = (t : Int) + 1 := IntWalk.i64_in _ (by omega)
      have hPL := hPlen.out _ _ hPI.out
      obtain ⟨oA, oc, rfl⟩ := own_shape hS3.o
      go_upto_region 9 with (fail)
      go_cut [34] (fun v34 wx => ∃ b : Bool, v34 = .bool b ∧ Hid (b = true ↔ 0 < t ∧ LT t = LT (t - 1)) ∧ LS w w.heap.size (w.heap.size + 1) #[.string key, .int .i64 metres, .int .i64 stroke, .int .i64 course, .int .i64 legs, .int .i64 sex, .int .i64 young, .int .i64 old] (.slice oA P.length oc) P wx ∧ wx.ownsRow (w.heap.size + 1) 9 1 (.slice nA (ldN (LT t)).length nc) (ldN (LT t)).length ((ldN (LT t)).map Value.string))
      case first =>
        rcases t with _ | s
        · have hP0 : P = [] := List.eq_nil_of_length_eq_zero (by omega)
          subst hP0
          go_wp2
          go_meet
          case rel => exact ⟨false, rfl, Lib.hid (by simp), hS3, hnow3⟩
        · obtain ⟨P', y, rfl, hyw, _⟩ := hPl.out s P hPI.out
          obtain ⟨g, rfl⟩ : ∃ g, oA = some ⟨g, 0, none⟩ := by
            rcases hS3.o.2 with ⟨_, h9⟩ | ⟨g, cap, cur, hv, _⟩
            · simp at h9
            · injection hv with hv; exact ⟨g, hv⟩
          have r1 := Lib.hid (R1.of_own (hS3.wh y (by simp)) (by have h1 := (hS3.wh y (by simp)).1; rw [List.length_map, hyw] at h1; have := hLl.out s; omega))
          rw [hyw] at r1
          have r2 := Lib.hid (R1.of_own hnow3 (by omega))
          have hq := Lib.hid (show eqS (ldN (LT s)) (ldN (LT (s + 1))) = true ↔ 0 < s + 1 ∧ LT (s + 1) = LT (s + 1 - 1) from ⟨fun e => ⟨by omega, hLI.out _ _ e⟩, fun e => hLI2.out _ _ e.2⟩)
          have cc := (hS3.o.cellAt (P'.length * 3 + 2) (by simp; omega)).trans (lastQ_at P' y).2
          have hgx := (hS3.o.lt g rfl).2
          have hK2 : P'.length = (P' ++ [y]).length - 1 := by simp
          have hK1 : 1 ≤ (P' ++ [y]).length := by simp
          rw [hK2] at cc
          generalize hK : (P' ++ [y]).length = K at *
          clear hK2
          have e1 : IntKind.i64.wrap ((K : Int) - 1) = (K : Int) - 1 := IntWalk.i64_in _ (by omega)
          have e2 : 0 ≤ (K : Int) - 1 := by omega
          have e3 : ((K : Int) - 1).toNat = K - 1 := by omega
          have e4 : (K : Int) - 1 < K := by omega
          have e5 : 0 < K := by omega
          clear hyw hLd hLI hLI2 hPn hPl hP1
          go_wp2_with fail
          refine (equalSB_c _ _ _ _ _ _ _ _ _ r1.out r2.out).mono ?_; rintro e w4 ⟨rfl, q4, rfl⟩
          have B4 := below_drewN (Below.refl w3.heap.size w3) q4
          have hS4 := hS3.below B4
          have hnow4 := own_below hnow3 B4
          clear hS3 hnow3 B4 r1 r2
          generalize eqS (ldN (LT s)) (ldN (LT (s + 1))) = q at *
          go_wp2
          go_meet
          case rel => exact ⟨q, rfl, hq, hS4, hnow4⟩
      case rest =>
        clear hS3 hnow3
        rename World => wx
        obtain ⟨b, rfl, hb, hS, hnow⟩ := hcut
        cases b
        · have hnew : ¬ (0 < t ∧ LT t = LT (t - 1)) := fun h => absurd (hb.out.2 h) (by decide)
          have hNext := Lib.hid (show ∀ A n c, PI (t + 1) (P ++ [⟨(t : Int), (t : Int) + 1, A, n, c, ldN (LT t)⟩]) from by
            rcases t with _ | s
            · have hP0 : P = [] := List.eq_nil_of_length_eq_zero (by have := hPlen.out _ _ hPI.out; omega)
              subst hP0
              exact fun A n c => hP1.out A n c
            · exact fun A n c => hPn.out s P hPI.out (fun e => hnew ⟨by omega, e⟩) A n c)
          clear hnew hb hLd hLI hLI2 hPn hPl hP1
          go_wp2_with (at_builtin; refine wpList_app rfl (.tmp 42) (.tmp 48) 87 rfl Tryz.underlying87 info_ph rfl (by omega) (by omega) hS.o rfl rfl (by first | rfl | (simp; done)) rfl (by simp [Value.oneCell']) (by omega) hS.b3 ?_; intro v4 w4 hown4 hg4)
          have hS7 := hS.app (y := ⟨(t : Int), (t : Int) + 1, nA, (ldN (LT t)).length, nc, ldN (LT t)⟩) hown4 hg4 hnow
          clear hS hown4 hg4 hnow
          go_roundw
          case rel => exact ⟨t + 1, P ++ [⟨(t : Int), (t : Int) + 1, nA, (ldN (LT t)).length, nc, ldN (LT t)⟩], by omega, by go_num, hS7, Lib.hid (hNext.out _ _ _)⟩
          case measure => simp [intOf]; omega
        · obtain ⟨t0, hsm⟩ := hb.out.1 rfl
          obtain ⟨s, rfl⟩ : ∃ s, t = s + 1 := ⟨t - 1, by omega⟩
          obtain ⟨P', y, rfl, hyw, hnx⟩ := hPl.out s P hPI.out
          simp only [Nat.add_sub_cancel] at hsm
          have hnx' := Lib.hid (hnx hsm)
          clear hyw hnx hb hLd hLI hLI2 hP1 hPn hPl
          obtain ⟨g, rfl⟩ : ∃ g, oA = some ⟨g, 0, none⟩ := by
            rcases hS.o.2 with ⟨_, h9⟩ | ⟨g, cap, cur, hv, _⟩
            · simp at h9
            · injection hv with hv; exact ⟨g, hv⟩
          have hX := hS.ext (((s + 1 : Nat) : Int) + 1)
          have hgx := (hS.o.lt g rfl).2
          have cc := (hS.o.cellAt (P'.length * 3 + 1) (by simp; omega)).trans (lastQ_at P' y).1
          have ff := hS.o.frozenAt (P'.length * 3 + 1)
          have hX2 := Lib.hid hX
          clear hX hS hnow
          have hK2 : P'.length = (P' ++ [y]).length - 1 := by simp
          have hK1 : 1 ≤ (P' ++ [y]).length := by simp
          rw [hK2] at cc ff hX2
          generalize hK : (P' ++ [y]).length = K at *
          clear hK2
          have e1 : IntKind.i64.wrap ((K : Int) - 1) = (K : Int) - 1 := IntWalk.i64_in _ (by omega)
          have e2 : 0 ≤ (K : Int) - 1 := by omega
          have e3 : ((K : Int) - 1).toNat = K - 1 := by omega
          have e4 : (K : Int) - 1 < K := by omega
          go_wp2
          go_roundw
          case rel => exact ⟨s + 2, P' ++ [{ y with t := ((s + 1 : Nat) : Int) + 1 }], by omega, by go_num, hX2.out, hnx'⟩
          case measure => simp [intOf]; omega
    · obtain rfl : t = N := by omega
      obtain ⟨oA, oc, rfl⟩ := own_shape hS.o
      go_wp2
      go_ret
      exact ⟨oA, oc, P, rfl, hS, hPI.out⟩
end Go.Proofs.YtlddeeagnlgciaaGreatDoor

/- Leads with its errors; the reference's; slices.EqualFunc over phases. -/
namespace Go.Proofs.YtlddeeagnlgciaaGreatDoor
open Go.RowKit
set_option linter.unusedVariables false

def RPq (w : World) (A : Option Addr) (n : Nat) (P : List Ph) : Prop := RN 3 phE 92 w A n P ∧ ∀ x ∈ P, RS 9 w x.A x.n x.who
section
variable {w w' : World} {A : Option Addr} {n : Nat} {P : List Ph}
theorem RPq.len (h : RPq w A n P) : P.length = n := h.1.len
theorem RPq.below (h : RPq w A n P) (hb : Below w.heap.size w w') : RPq w' A n P := ⟨h.1.below hb, fun x hx => (h.2 x hx).below hb⟩
theorem RPq.of_ls {w0 : World} {b2 B0 c : Nat} {rc : Array Value} (h : LS w0 b2 B0 rc (.slice A P.length c) P w) (hn : P.length ≤ 1000000) (hx : ∀ x ∈ P, x.who.length ≤ 1000) : RPq w A P.length P :=
  ⟨RN.of_own phE_len h.o rfl (by omega), fun x hxm => R1.of_own (h.wh x hxm) (by have h1 := (h.wh x hxm).1; rw [List.length_map] at h1; have := hx x hxm; omega)⟩
theorem RPq.nil_ (w : World) : RPq w none 0 [] := ⟨RN.nil_ _ _ _ _ _, fun x hx => by cases hx⟩
theorem RPq.at3 (h : RPq w A n P) {k : Nat} (hk : k < n) : ∃ b off x, A = some ⟨b, off, none⟩ ∧ b < w.heap.size ∧ P[k]? = some x ∧ w.cell? ⟨b, off + k * 3, none⟩ = some (.int .i64 x.f) ∧ w.cell? ⟨b, off + k * 3 + 1, none⟩ = some (.int .i64 x.t) ∧ w.cell? ⟨b, off + k * 3 + 2, none⟩ = some (.slice x.A x.n x.c) ∧ RS 9 w x.A x.n x.who := by
  obtain ⟨b, off, x, hA, hb, hx, hc⟩ := h.1.at_ hk
  exact ⟨b, off, x, hA, hb, hx, hc 0 _ rfl, hc 1 _ rfl, hc 2 _ rfl, h.2 x (List.mem_of_getElem? hx)⟩
end
/-- the phases, as data -/
noncomputable def ldsD (r : Race) (l : List Sw) : List (Int × Int × List ByteArray) := if fieldErr r l = 0 ∧ l ≠ [] then phDs r l (firstG (lenV r).toNat l).toNat else []
theorem ph_who {r : Race} {l : List Sw} {N : Nat} {P : List Ph} (hl : l ≠ []) (h0 : fieldErr r l = 0) (hN : 0 < N) (h : PhIs r l N P) : ∀ x ∈ P, x.who.length ≤ 1000 := fun x hx => by
  obtain ⟨j, hj⟩ := List.mem_iff_getElem?.1 hx
  obtain ⟨_, h2, _, _, h5⟩ := (phases_ok hl h0 hN h).2.2.2.1 j x hj
  rw [h5 x.f (Int.le_refl _) h2]
  unfold ldN
  rw [List.length_map]
  have h6 := ldL_len r x.f l
  have h7 := (fieldErr_ok h0).2.1
  omega
theorem leadsA_c (r : Race) (A : Option Addr) (n c : Nat) (l : List Sw) (w : World) (h : RSw w A n l) :
    Calls Tryz.prog 44 #[r.val, .slice A n c] w fun e w' => ∃ A' n' c' P, e = .returned (.tuple #[.slice A' n' c', .int .i64 (fieldErr r l)]) ∧ RPq w' A' n' P ∧ P.map Ph.dat = ldsD r l ∧ Below w.heap.size w w' := by
  by_cases h0 : fieldErr r l = 0
  · by_cases hn : n = 0
    · subst hn
      have hl : l = [] := List.eq_nil_of_length_eq_zero h.len
      have hD : ldsD r l = [] := by unfold ldsD; rw [if_neg (by rintro ⟨_, h⟩; exact h hl)]
      rw [hD, h0]
      have hF := Lib.hid (fun W h => checkField_c r A 0 c l W h)
      rw [h0] at hF
      clear hD hl
      obtain ⟨key, metres, stroke, course, legs, sex, young, old⟩ := r
      dsimp only [Race.val, Race.cells] at *
      have hb0 := heap_alloc_new w (.cells #[.string key, .int .i64 metres, .int .i64 stroke, .int .i64 course, .int .i64 legs, .int .i64 sex, .int .i64 young, .int .i64 old] 27)
      have zz := (blk_facts hb0).1
      clear h0
      go_enter Tryz.func44, Tryz.ntmps44
      go_wp2_with fail
      refine (hF.out _ (h.alloc _)).mono ?_; rintro e w1 ⟨rfl, B1⟩
      have hB1 := below_box B1
      clear hb0 zz B1
      go_wp2
      go_ret2
      exact ⟨none, 0, 0, [], rfl, RPq.nil_ _, rfl, hB1⟩
    · have hl : l ≠ [] := by intro e; have := h.len; rw [e] at this; simp at this; omega
      obtain ⟨hx1, hbx⟩ := field_lens h h0
      have hlb := lenV_bd (fieldErr_ok h0).1
      obtain ⟨M, hM⟩ : ∃ M : Nat, lenV r = M := ⟨(lenV r).toNat, by omega⟩
      have hlen : ∀ x ∈ l, x.sp.length = M := fun x hx => by rw [(h.2 x hx).len, hx1 x hx, hM]; rfl
      obtain ⟨hN0, hN1⟩ := first_pos h0 hM hlen
      obtain ⟨N, hN⟩ : ∃ N : Nat, firstG M l = N := ⟨(firstG M l).toNat, by omega⟩
      rw [h0]
      refine (leads0_c r A n c M l w h h0 (by omega) hM (by omega) (by omega) (fun x hx => by rw [hx1 x hx, hM]; rfl) hbx N hN (by omega)).mono ?_
      rintro e w' ⟨A', c', P, he, hS, hP⟩
      refine ⟨A', P.length, c', P, he, RPq.of_ls hS (by have := hP.len; omega) (ph_who hl h0 (by omega) hP), ?_, hS.bel⟩
      unfold ldsD
      rw [if_pos ⟨h0, hl⟩, hM, Int.toNat_natCast, hN, Int.toNat_natCast]
      exact hP
  · have hD : ldsD r l = [] := by unfold ldsD; rw [if_neg (by rintro ⟨h, _⟩; exact h0 h)]
    rw [hD]
    have hF := Lib.hid (fun W h => checkField_c r A n c l W h)
    clear hD
    generalize fieldErr r l = E at *
    have hne : (E != 0) = true := by simpa using h0
    clear h0
    obtain ⟨key, metres, stroke, course, legs, sex, young, old⟩ := r
    dsimp only [Race.val, Race.cells] at *
    have hb0 := heap_alloc_new w (.cells #[.string key, .int .i64 metres, .int .i64 stroke, .int .i64 course, .int .i64 legs, .int .i64 sex, .int .i64 young, .int .i64 old] 27)
    have zz := (blk_facts hb0).1
    go_enter Tryz.func44, Tryz.ntmps44
    go_wp2_with fail
    refine (hF.out _ (h.alloc _)).mono ?_; rintro e w1 ⟨rfl, B1⟩
    have hB1 := below_box B1
    clear hb0 zz B1
    go_wp2
    go_ret2
    exact ⟨none, 0, 0, [], rfl, RPq.nil_ _, rfl, hB1⟩
theorem leadsOfA_c (r : Race) (A : Option Addr) (n c : Nat) (l : List Sw) (w : World) (h : RSw w A n l) (h0 : fieldErr r l = 0) :
    Calls Tryz.prog 46 #[r.val, .slice A n c] w fun e w' => ∃ A' n' c' P, e = .returned (.slice A' n' c') ∧ RPq w' A' n' P ∧ P.map Ph.dat = ldsD r l ∧ Below w.heap.size w w' := by
  by_cases hn : n = 0
  · subst hn
    have hl : l = [] := List.eq_nil_of_length_eq_zero h.len
    have hD : ldsD r l = [] := by unfold ldsD; rw [if_neg (by rintro ⟨_, h⟩; exact h hl)]
    rw [hD]
    clear hD hl h0
    obtain ⟨key, metres, stroke, course, legs, sex, young, old⟩ := r
    dsimp only [Race.val, Race.cells] at *
    have hB1 := below_new w (.cells #[.string key, .int .i64 metres, .int .i64 stroke, .int .i64 course, .int .i64 legs, .int .i64 sex, .int .i64 young, .int .i64 old] 27)
    go_enter Tryz.func46, Tryz.ntmps46
    go_wp2
    go_ret
    exact ⟨none, 0, 0, [], rfl, RPq.nil_ _, rfl, hB1⟩
  · have hl : l ≠ [] := by intro e; have := h.len; rw [e] at this; simp at this; omega
    obtain ⟨hx1, hbx⟩ := field_lens h h0
    have hlb := lenV_bd (fieldErr_ok h0).1
    obtain ⟨M, hM⟩ : ∃ M : Nat, lenV r = M := ⟨(lenV r).toNat, by omega⟩
    have hlen : ∀ x ∈ l, x.sp.length = M := fun x hx => by rw [(h.2 x hx).len, hx1 x hx, hM]; rfl
    obtain ⟨hN0, hN1⟩ := first_pos h0 hM hlen
    obtain ⟨N, hN⟩ : ∃ N : Nat, firstG M l = N := ⟨(firstG M l).toNat, by omega⟩
    refine (leadsOf0_c r A n c M l w h h0 (by omega) hM (by omega) (by omega) (fun x hx => by rw [hx1 x hx, hM]; rfl) hbx N hN (by omega)).mono ?_
    rintro e w' ⟨A', c', P, he, hS, hP⟩
    refine ⟨A', P.length, c', P, he, RPq.of_ls hS (by have := hP.len; omega) (ph_who hl h0 (by omega) hP), ?_, hS.bel⟩
    unfold ldsD
    rw [if_pos ⟨h0, hl⟩, hM, Int.toNat_natCast, hN, Int.toNat_natCast]
    exact hP
/-- the reference's SamePhase -/
theorem samePhase_c (x y : Ph) (w : World) (h1 : RS 9 w x.A x.n x.who) (h2 : RS 9 w y.A y.n y.who) :
    Calls Tryz.prog 47 #[.agg #[.int .i64 x.f, .int .i64 x.t, .slice x.A x.n x.c], .agg #[.int .i64 y.f, .int .i64 y.t, .slice y.A y.n y.c]] w fun e w' => e = .returned (.bool (decide (x.dat = y.dat))) ∧ Below w.heap.size w w' := by
  have hD : decide (x.dat = y.dat) = (decide (x.f = y.f) && (decide (x.t = y.t) && eqS x.who y.who)) := by
    unfold Ph.dat eqS
    rw [← Bool.decide_and, ← Bool.decide_and]
    congr 1
    simp [Prod.ext_iff]
  rw [hD]
  clear hD
  have hq := Lib.hid (fun W g1 g2 => equalSB_c x.A y.A x.n x.c y.n y.c x.who y.who W g1 g2)
  obtain ⟨xf, xt, xA, xn, xc, xw⟩ := x
  obtain ⟨yf, yt, yA, yn, yc, yw⟩ := y
  dsimp only at *
  have hB := (below_new w (.cells #[.int .i64 xf, .int .i64 xt, .slice xA xn xc] 92)).alloc (below_new w _).size (.cells #[.int .i64 yf, .int .i64 yt, .slice yA yn yc] 92)
  have g1 := (h1.alloc (.cells #[.int .i64 xf, .int .i64 xt, .slice xA xn xc] 92)).alloc (.cells #[.int .i64 yf, .int .i64 yt, .slice yA yn yc] 92)
  have g2 := (h2.alloc (.cells #[.int .i64 xf, .int .i64 xt, .slice xA xn xc] 92)).alloc (.cells #[.int .i64 yf, .int .i64 yt, .slice yA yn yc] 92)
  by_cases e1 : xf = yf
  · by_cases e2 : xt = yt
    · subst e1 e2
      have hr := Lib.hid (fun b : Bool => show (decide (xf = xf) && (decide (xt = xt) && b)) = b by simp)
      rw [hr.out]
      clear hr
      go_enter Tryz.func47, Tryz.ntmps47
      go_wp2_with fail
      refine (hq.out _ g1 g2).mono ?_; rintro e w5 ⟨rfl, q5, rfl⟩
      have hB5 := below_drewN hB q5
      go_wp2
      go_ret
      exact ⟨rfl, hB5⟩
    · subst e1
      have ht : (xt == yt) = false := beq_eq_false_iff_ne.2 e2
      have hr : (decide (xf = xf) && (decide (xt = yt) && eqS xw yw)) = false := by simp [e2]
      rw [hr]
      clear hr hq e2 g1 g2 h1 h2
      go_enter Tryz.func47, Tryz.ntmps47
      go_wp2
      go_ret
      exact ⟨rfl, hB⟩
  · have ht : (xf == yf) = false := beq_eq_false_iff_ne.2 e1
    have hr : (decide (xf = yf) && (decide (xt = yt) && eqS xw yw)) = false := by simp [e1]
    rw [hr]
    clear hr hq e1 g1 g2 h1 h2
    go_enter Tryz.func47, Tryz.ntmps47
    go_wp2
    go_ret
    exact ⟨rfl, hB⟩
set_option maxHeartbeats 1600000 in
set_option maxRecDepth 100000 in
/-- slices.EqualFunc of phases by SamePhase -/
theorem equalPh_c (A1 A2 : Option Addr) (n c m d : Nat) (P1 P2 : List Ph) (w : World) (h1 : RPq w A1 n P1) (h2 : RPq w A2 m P2) :
    Calls Tryz.prog 45 #[.slice A1 n c, .slice A2 m d, .func (.func 47) #[] #[]] w fun e w' => e = .returned (.bool (decide (P1.map Ph.dat = P2.map Ph.dat))) ∧ Below w.heap.size w w' := by
  have b1 := h1.1.bd
  have b2 := h2.1.bd
  by_cases hnm : n = m
  rotate_left
  · have hd : decide (P1.map Ph.dat = P2.map Ph.dat) = false := by
      refine decide_eq_false fun e => ?_
      have h3 := congrArg List.length e
      simp at h3
      have := h1.len; have := h2.len; omega
    have hne : ((n : Int) != (m : Int)) = true := by rw [bne_iff_ne]; omega
    rw [hd]
    clear hd
    go_enter Tryz.func45, Tryz.ntmps45
    go_wp2
    go_ret
    exact ⟨rfl, Below.refl _ _⟩
  subst hnm
  have hL1 := Lib.hid h1.len
  have hL2 := Lib.hid h2.len
  have hS := Lib.hid (fun x y W g1 g2 => samePhase_c x y W g1 g2)
  go_enter Tryz.func45, Tryz.ntmps45
  go_wp2
  go_loopw [17] (fun i wr => ∃ k : Nat, k ≤ n ∧ i = .int .i64 k ∧ Below w.heap.size w wr ∧ Hid (∀ j, j < k → (P1.map Ph.dat)[j]? = (P2.map Ph.dat)[j]?)) (fun i _ => n - (intOf i).toNat)
  case atStart => exact ⟨0, Nat.zero_le _, rfl, Below.refl _ _, Lib.hid (fun j h => absurd h (by omega))⟩
  case round =>
    obtain ⟨k, hk, rfl, hB, hF⟩ := hrel
    by_cases hlt : k < n
    · obtain ⟨bx, ox, x, rfl, hbx, hx, x0, x1, x2, hX⟩ := (h1.below hB).at3 hlt
      obtain ⟨by_, oy, y, rfl, hby, hy, y0, y1, y2, hY⟩ := (h2.below hB).at3 hlt
      have hS1 := Lib.hid (fun W g1 g2 => hS.out x y W g1 g2)
      have hT := Lib.hid (show (P1.map Ph.dat)[k]? = some x.dat ∧ (P2.map Ph.dat)[k]? = some y.dat from by rw [List.getElem?_map, List.getElem?_map, hx, hy]; exact ⟨rfl, rfl⟩)
      have hB5 := (hB.alloc hB.size (.cells #[.int .i64 x.f, .int .i64 x.t, .slice x.A x.n x.c] 92)).alloc (hB.alloc hB.size (.cells #[.int .i64 x.f, .int .i64 x.t, .slice x.A x.n x.c] 92)).size (.cells #[.int .i64 y.f, .int .i64 y.t, .slice y.A y.n y.c] 92)
      have g1 := (hX.alloc (.cells #[.int .i64 x.f, .int .i64 x.t, .slice x.A x.n x.c] 92)).alloc (.cells #[.int .i64 y.f, .int .i64 y.t, .slice y.A y.n y.c] 92)
      have g2 := (hY.alloc (.cells #[.int .i64 x.f, .int .i64 x.t, .slice x.A x.n x.c] 92)).alloc (.cells #[.int .i64 y.f, .int .i64 y.t, .slice y.A y.n y.c] 92)
      have dd := Lib.hid (show ∀ b, decide (x.dat = y.dat) = b → b = true → x.dat = y.dat from fun b h h' => of_decide_eq_true (h.trans h'))
      have dn := Lib.hid (show decide (x.dat = y.dat) = false → x.dat ≠ y.dat from fun h => of_decide_eq_false h)
      obtain ⟨xf, xt, xA, xn, xc, xw⟩ := x
      obtain ⟨yf, yt, yA, yn, yc, yw⟩ := y
      dsimp only at *
      clear hx hy
      go_wp2_with fail
      refine (hS1.out _ g1 g2).mono ?_; rintro e w5 ⟨rfl, B5⟩
      have hB6 := below_next hB5 B5
      clear g1 g2 hB5 hX hY hS1 B5
      generalize hb : decide (Ph.dat ⟨xf, xt, xA, xn, xc, xw⟩ = Ph.dat ⟨yf, yt, yA, yn, yc, yw⟩) = b at *
      have hb' := Lib.hid hb
      clear hb
      cases b
      · have hd : decide (P1.map Ph.dat = P2.map Ph.dat) = false := by
          refine decide_eq_false fun e => ?_
          have h3 := congrArg (fun q => q[k]?) e
          simp only [hT.out.1, hT.out.2] at h3
          injection h3 with h3
          exact of_decide_eq_false hb'.out h3
        have hd' := Lib.hid hd
        clear hd dd dn
        go_wp2
        go_ret
        exact ⟨ret_b hd'.out.symm, hB6⟩
      · have he : Hid (Ph.dat ⟨xf, xt, xA, xn, xc, xw⟩ = Ph.dat ⟨yf, yt, yA, yn, yc, yw⟩) := Lib.hid (of_decide_eq_true hb'.out)
        clear dd dn
        go_wp2
        go_roundw
        case rel => exact ⟨k + 1, by omega, by go_num, hB6, Lib.hid (fun j hj => by
          by_cases hjk : j = k
          · subst hjk
            rw [hT.out.1, hT.out.2, he.out]
          · exact hF.out j (by omega))⟩
        case measure => simp [intOf]; omega
    · obtain rfl : k = n := by omega
      have hd : decide (P1.map Ph.dat = P2.map Ph.dat) = true := by
        refine decide_eq_true (List.ext_getElem? fun j => ?_)
        by_cases hj : j < k
        · exact hF.out j hj
        · rw [List.getElem?_eq_none (by rw [List.length_map, hL1.out]; omega), List.getElem?_eq_none (by rw [List.length_map, hL2.out]; omega)]
      have hd' := Lib.hid hd
      clear hd
      go_wp2
      go_ret
      exact ⟨ret_b hd'.out.symm, hB⟩
end Go.Proofs.YtlddeeagnlgciaaGreatDoor
