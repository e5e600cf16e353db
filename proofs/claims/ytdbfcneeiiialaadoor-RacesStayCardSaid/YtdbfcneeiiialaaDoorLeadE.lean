import Derived.Test.YtdbfcneeiiialaaDoorLeadT
import Derived.Test.YtdbfcneeiiialaaDoorLeadL
import Derived.Deep.DeepCutAuto
import Derived.Test.YtdbfcneeiiialaaDoorP21
import Derived.BigGuardPart
/- The reference's LeadsOf of a right field: the same phases. -/
namespace Go.Proofs.YtdbfcneeiiialaaDoor
open Go.RowKit
set_option linter.unusedVariables false

theorem lastQ_at (P : List Ph) (y : Ph) : ((P ++ [y]).flatMap phE)[P.length * 3 + 1]? = some (.int .i64 y.t) ∧ ((P ++ [y]).flatMap phE)[P.length * 3 + 2]? = some (.slice y.A y.n y.c) :=
  ⟨flat_at phE_len _ _ y 1 _ (snoc_last P y) rfl, flat_at phE_len _ _ y 2 _ (snoc_last P y) rfl⟩
end Go.Proofs.YtdbfcneeiiialaaDoor

/- Leads with its errors; the reference's; slices.EqualFunc over phases. -/
namespace Go.Proofs.YtdbfcneeiiialaaDoor
open Go.RowKit
set_option linter.unusedVariables false

def RPq (w : World) (A : Option Addr) (n : Nat) (P : List Ph) : Prop := RN 3 phE 40 w A n P ∧ ∀ x ∈ P, RS 9 w x.A x.n x.who
section
variable {w w' : World} {A : Option Addr} {n : Nat} {P : List Ph}
theorem RPq.len (h : RPq w A n P) : P.length = n := h.1.len
theorem RPq.below (h : RPq w A n P) (hb : Below w.heap.size w w') : RPq w' A n P := ⟨h.1.below hb, fun x hx => (h.2 x hx).below hb⟩
theorem RPq.of_ls {w0 : World} {b2 B0 c : Nat} {rc : Array Value} (h : LS w0 b2 B0 rc (.slice A P.length c) P w) (hn : P.length ≤ 1000000) (hx : ∀ x ∈ P, x.who.length ≤ 1000) : RPq w A P.length P :=
  ⟨RN.of_own phE_len h.o rfl (by omega), fun x hxm => R1.of_own (h.wh x hxm) (by have h1 := (h.wh x hxm).1; rw [List.length_map] at h1; have := hx x hxm; omega)⟩
theorem RPq.nil_ (w : World) : RPq w none 0 [] := ⟨RN.nil_ _ _ _ _ _, fun x hx => by cases hx⟩
theorem RPq.at3 (h : RPq w A n P) {k : Nat} (hk : k < n) : ∃ b off x, A = some ⟨b, off, none⟩ ∧ b < w.heap.size ∧ P[k]? = some x ∧ w.cell? ⟨b, off + k * 3, none⟩ = some (.int .i64 x.f) ∧ w.cell? ⟨b, off + k * 3 + 1, none⟩ = some (.int .i64 x.t) ∧ w.cell? ⟨b, off + k * 3 + 2, none⟩ = some (.slice x.A x.n x.c) ∧ RS 9 w x.A x.n x.who := by
  obtain ⟨b, off, x, hA, hb, hx, hc⟩ := h.1.at_ hk
  exact ⟨b, off, x, hA, hb, hx, hc 0 _ rfl, hc 1 _ rfl, hc 2 _ rfl, h.2 x (List.mem_of_getElem? hx)⟩
end
/-- the phases, as data -/
noncomputable def ldsD (r : Race) (l : List Sw) : List (Int × Int × List ByteArray) := if fieldErr r l = 0 ∧ l ≠ [] then phDs r l (firstG (lenV r).toNat l).toNat else []
theorem ph_who {r : Race} {l : List Sw} {N : Nat} {P : List Ph} (hl : l ≠ []) (h0 : fieldErr r l = 0) (hN : 0 < N) (h : PhIs r l N P) : ∀ x ∈ P, x.who.length ≤ 1000 := fun x hx => by
  obtain ⟨j, hj⟩ := List.mem_iff_getElem?.1 hx
  obtain ⟨_, h2, _, _, h5⟩ := (phases_ok hl h0 hN h).2.2.2.1 j x hj
  rw [h5 x.f (Int.le_refl _) h2]
  unfold ldN
  rw [List.length_map]
  have h6 := ldL_len r x.f l
  have h7 := (fieldErr_ok h0).2.1
  omega
theorem leadsA_c (r : Race) (A : Option Addr) (n c : Nat) (l : List Sw) (w : World) (h : RSw w A n l) :
    Calls Tryd.prog 8 #[r.val, .slice A n c] w fun e w' => ∃ A' n' c' P, e = .returned (.tuple #[.slice A' n' c', .int .i64 (fieldErr r l)]) ∧ RPq w' A' n' P ∧ P.map Ph.dat = ldsD r l ∧ Below w.heap.size w w' := by
  by_cases h0 : fieldErr r l = 0
  · by_cases hn : n = 0
    · subst hn
      have hl : l = [] := List.eq_nil_of_length_eq_zero h.len
      have hD : ldsD r l = [] := by unfold ldsD; rw [if_neg (by rintro ⟨_, h⟩; exact h hl)]
      rw [hD, h0]
      have hF := Lib.hid (fun W h => checkField_c r A 0 c l W h)
      rw [h0] at hF
      clear hD hl
      obtain ⟨key, metres, stroke, course, legs, sex, young, old⟩ := r
      dsimp only [Race.val, Race.cells] at *
      have hb0 := heap_alloc_new w (.cells #[.string key, .int .i64 metres, .int .i64 stroke, .int .i64 course, .int .i64 legs, .int .i64 sex, .int .i64 young, .int .i64 old] 27)
      have zz := (blk_facts hb0).1
      clear h0
      go_enter Tryd.func8, Tryd.ntmps8
      go_wp2_with fail
      refine (hF.out _ (h.alloc _)).mono ?_; rintro e w1 ⟨rfl, B1⟩
      have hB1 := below_box B1
      clear hb0 zz B1
      go_wp2
      go_ret2
      exact ⟨none, 0, 0, [], rfl, RPq.nil_ _, rfl, hB1⟩
    · have hl : l ≠ [] := by intro e; have := h.len; rw [e] at this; simp at this; omega
      obtain ⟨hx1, hbx⟩ := field_lens h h0
      have hlb := lenV_bd (fieldErr_ok h0).1
      obtain ⟨M, hM⟩ : ∃ M : Nat, lenV r = M := ⟨(lenV r).toNat, by omega⟩
      have hlen : ∀ x ∈ l, x.sp.length = M := fun x hx => by rw [(h.2 x hx).len, hx1 x hx, hM]; rfl
      obtain ⟨hN0, hN1⟩ := first_pos h0 hM hlen
      obtain ⟨N, hN⟩ : ∃ N : Nat, firstG M l = N := ⟨(firstG M l).toNat, by omega⟩
      rw [h0]
      refine (leads0_c r A n c M l w h h0 (by omega) hM (by omega) (by omega) (fun x hx => by rw [hx1 x hx, hM]; rfl) hbx N hN (by omega)).mono ?_
      rintro e w' ⟨A', c', P, he, hS, hP⟩
      refine ⟨A', P.length, c', P, he, RPq.of_ls hS (by have := hP.len; omega) (ph_who hl h0 (by omega) hP), ?_, hS.bel⟩
      unfold ldsD
      rw [if_pos ⟨h0, hl⟩, hM, Int.toNat_natCast, hN, Int.toNat_natCast]
      exact hP
  · have hD : ldsD r l = [] := by unfold ldsD; rw [if_neg (by rintro ⟨h, _⟩; exact h0 h)]
    rw [hD]
    have hF := Lib.hid (fun W h => checkField_c r A n c l W h)
    clear hD
    generalize fieldErr r l = E at *
    have hne : (E != 0) = true := by simpa using h0
    clear h0
    obtain ⟨key, metres, stroke, course, legs, sex, young, old⟩ := r
    dsimp only [Race.val, Race.cells] at *
    have hb0 := heap_alloc_new w (.cells #[.string key, .int .i64 metres, .int .i64 stroke, .int .i64 course, .int .i64 legs, .int .i64 sex, .int .i64 young, .int .i64 old] 27)
    have zz := (blk_facts hb0).1
    go_enter Tryd.func8, Tryd.ntmps8
    go_wp2_with fail
    refine (hF.out _ (h.alloc _)).mono ?_; rintro e w1 ⟨rfl, B1⟩
    have hB1 := below_box B1
    clear hb0 zz B1
    go_wp2
    go_ret2
    exact ⟨none, 0, 0, [], rfl, RPq.nil_ _, rfl, hB1⟩
end Go.Proofs.YtdbfcneeiiialaaDoor
