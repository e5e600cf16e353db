/- Library functions on slices of ints, in this family's words: Contains, Equal, Clone; cmp.Or. -/
import Derived.Test.YtjfppcejcbfngaaDoorShelf
import Derived.Test.YtjfppcejcbfngaaDoorApp
import Derived.BigGuardPart
namespace Go.Proofs.YtjfppcejcbfngaaDoor
open Go.RowKit
set_option linter.unusedVariables false

theorem RI.shelf {e : TypeId} {w : World} {A : Option Addr} {n : Nat} {l : List Int} (h : RI e w A n l) (hn : 0 < n) :
    ∃ b off, A = some ⟨b, off, none⟩ ∧ b < w.heap.size ∧ ∀ j, j < l.length → w.cell? ⟨b, off + j, none⟩ = some (.int .i64 (l.getD j 0)) := by
  obtain ⟨b, off, cs, fz, ha, hb, hc⟩ := h.2.2 hn
  refine ⟨b, off, ha, lt_of_heap hb, fun j hj => ?_⟩
  rw [cell_of_row w b _ cs e fz hb, hc j _ (List.getElem?_eq_getElem hj), List.getD_eq_getElem?_getD, List.getElem?_eq_getElem hj]
  rfl
def hasB (l : List Int) (x : Int) : Bool := l.contains x
theorem contains_c (A : Option Addr) (n c : Nat) (l : List Int) (x : Int) (w : World) (h : RI 3 w A n l) :
    Calls Tryd.prog 102 #[.slice A n c, .int .i64 x] w fun e w' => e = .returned (.bool (hasB l x)) ∧ w = w' := by
  have hl := h.len
  have hb := h.bd
  rcases Nat.eq_zero_or_pos n with h0 | hp
  · subst h0
    obtain rfl : l = [] := List.eq_nil_of_length_eq_zero hl
    exact (Tryd.slices_Contains_int_empty A c x w).mono fun _ _ ⟨he, hw⟩ => ⟨he, hw.symm⟩
  · obtain ⟨b, off, rfl, _, hc⟩ := h.shelf hp
    refine (Tryd.slices_Contains_int b off n c l x w (by omega) (by omega) hc).mono fun _ _ ⟨he, hw⟩ => ⟨?_, hw.symm⟩
    rw [he, List.take_of_length_le (by omega)]; rfl
def eqB (a b : List Int) : Bool := a == b
theorem equal_c (A1 A2 : Option Addr) (n c m d : Nat) (l1 l2 : List Int) (w : World) (h1 : RI 3 w A1 n l1) (h2 : RI 3 w A2 m l2) :
    Calls Tryd.prog 30 #[.slice A1 n c, .slice A2 m d] w fun e w' => e = .returned (.bool (eqB l1 l2)) ∧ Below w.heap.size w w' := by
  have hl1 := h1.len
  have hb1 := h1.bd
  have hl2 := h2.len
  have hb2 := h2.bd
  by_cases hnm : n = m
  · subst hnm
    rcases Nat.eq_zero_or_pos n with h0 | hp
    · subst h0
      obtain rfl : l1 = [] := List.eq_nil_of_length_eq_zero hl1
      obtain rfl : l2 = [] := List.eq_nil_of_length_eq_zero hl2
      exact (Tryd.slices_Equal_int_empty A1 A2 c 0 d w (by omega)).mono fun _ _ ⟨he, hw⟩ => ⟨he, by rw [hw]; exact Below.refl _ _⟩
    · obtain ⟨b1, o1, rfl, _, hc1⟩ := h1.shelf hp
      obtain ⟨b2, o2, rfl, _, hc2⟩ := h2.shelf hp
      refine (Tryd.slices_Equal_int b1 o1 n c b2 o2 n d l1 l2 w (by omega) (by omega) (by omega) (by omega) hc1 hc2).mono fun _ _ ⟨he, q, hw⟩ => ⟨?_, by rw [hw]; exact below_drewN (Below.refl _ _) q⟩
      rw [he, List.take_of_length_le (by omega), List.take_of_length_le (by omega)]; rfl
  · refine (Tryd.slices_Equal_int_lens A1 A2 n c m d w hnm).mono fun _ _ ⟨he, hw⟩ => ⟨?_, by rw [hw]; exact Below.refl _ _⟩
    rw [he]
    congr 2
    symm
    unfold eqB
    rw [beq_eq_false_iff_ne]
    rintro rfl
    omega
theorem clone_c (A : Option Addr) (n c : Nat) (l : List Int) (w : World) (h : RI 3 w A n l) (hn : n ≤ 1000000) :
    Calls Tryd.prog 122 #[.slice A n c] w fun e w' => ∃ A' c', e = .returned (.slice A' n c') ∧ w'.ownsRow w.heap.size 3 1 (.slice A' n c') n (ints l) ∧ Below w.heap.size w w' := by
  have hl := h.len
  rcases A with _ | ad
  · have h0 : n = 0 := by
      rcases Nat.eq_zero_or_pos n with h0 | hp
      · exact h0
      · obtain ⟨b, off, e, _⟩ := h.shelf hp
        cases e
    subst h0
    obtain rfl : l = [] := List.eq_nil_of_length_eq_zero hl
    exact (Tryd.slices_Clone_int_nil 0 c w).mono fun _ _ ⟨he, hw⟩ => ⟨none, 0, he, by rw [hw]; exact World.ownsRow_nil _ _ _ _, by rw [hw]; exact Below.refl _ _⟩
  · rcases Nat.eq_zero_or_pos n with h0 | hp
    · subst h0
      obtain rfl : l = [] := List.eq_nil_of_length_eq_zero hl
      refine (Tryd.slices_Clone_int_zero ad c w).mono fun _ _ ⟨v, he, ho, _, hB⟩ => ?_
      obtain ⟨A', c', rfl⟩ := own_shape ho
      exact ⟨A', c', he, ho, hB⟩
    · obtain ⟨b, off, hA, _, hc⟩ := h.shelf hp
      injection hA with hA
      subst hA
      refine (Tryd.slices_Clone_int b off n c l w (by omega) (by omega) hc).mono fun _ _ ⟨v, he, ho, _, hB⟩ => ?_
      obtain ⟨A', c', rfl⟩ := own_shape ho
      rw [List.take_of_length_le (by omega)] at ho
      exact ⟨A', c', he, ho, hB⟩
def orV : List Int → Int
  | [] => 0
  | x :: r => if x ≠ 0 then x else orV r
theorem orV_two (a b : Int) : orV [a, b] = if a ≠ 0 then a else b := by
  simp only [orV]; split
  · rfl
  · split <;> omega
theorem orV_at {l : List Int} {k : Nat} {x : Int} (h : l[k]? = some x) : orV (l.drop k) = if x ≠ 0 then x else orV (l.drop (k + 1)) := by rw [drop_at h]; rfl
theorem orE_c (A : Option Addr) (n c : Nat) (l : List Int) (w : World) (h : RI 29 w A n l) :
    Calls Tryd.prog 27 #[.slice A n c] w fun e w' => e = .returned (.int .i64 (orV l)) ∧ w = w' := by
  have hl := h.len
  have hb := h.bd
  go_enter Tryd.func27, Tryd.ntmps27
  go_wp2
  go_loop [8] (fun i => ∃ k : Nat, k ≤ n ∧ i = .int .i64 k ∧ Hid (orV (l.drop k) = orV l)) (fun i => n - (intOf i).toNat)
  case atStart => exact ⟨0, Nat.zero_le _, rfl, Lib.hid rfl⟩
  case round =>
    obtain ⟨k, hk, rfl, hF⟩ := hrel
    by_cases hlt : k < n
    · obtain ⟨b, off, x, rfl, _, hx, hcell⟩ := h.at_ hlt
      have hS := Lib.hid (orV_at hx)
      clear hx h hl
      go_wp2
      · go_ret
        exact ⟨ret_i (by rw [← hF.out, hS.out, if_pos (by first | omega | (simp_all; done) | (simp_all; omega))]), rfl⟩
      · go_round
        case rel => exact ⟨k + 1, by omega, by go_num, Lib.hid (by rw [← hF.out, hS.out, if_neg (by first | omega | (simp_all; done) | (simp_all; omega))])⟩
        case measure => simp [intOf]; omega
    · have hS : Hid (orV l = 0) := Lib.hid (by rw [← hF.out, drop_end (by omega)]; rfl)
      clear hl
      go_wp2
      go_ret
      exact ⟨ret_i (by rw [hS.out]), rfl⟩
end Go.Proofs.YtjfppcejcbfngaaDoor
