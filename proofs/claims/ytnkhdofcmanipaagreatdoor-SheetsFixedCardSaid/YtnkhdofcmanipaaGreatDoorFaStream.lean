/- The stream of numbers: what its methods hand out, as plain functions of the list and of how many were taken; their contracts. -/
import Derived.Test.YtnkhdofcmanipaaGreatDoorProg
import Derived.Test.YtnkhdofcmanipaaGreatDoorFaStructs
namespace Go.Proofs.YtnkhdofcmanipaaGreatDoor
open Go.RowKit
set_option linter.unusedVariables false

def belowV (x n : Int) : Int := if n < 1 then 0 else x % n
theorem belowV_bd {x n : Int} (h : 1 ≤ n) : 0 ≤ belowV x n ∧ belowV x n < n := by
  unfold belowV; rw [if_neg (by omega)]; exact ⟨Int.emod_nonneg _ (by omega), Int.emod_lt_of_pos _ (by omega)⟩
theorem belowV_of {x n : Int} (h : 1 ≤ n) : belowV x n = x % n := by unfold belowV; rw [if_neg (by omega)]

theorem below_c (x n : Int) (w : World) (h0 : -9223372036854775808 ≤ x) (h1 : x ≤ 9223372036854775807) (h2 : n ≤ 4611686018427387904) (h3 : 1 ≤ n) :
    Calls Tryz.prog 97 #[.int .i64 x, .int .i64 n] w fun e w' => e = .returned (.int .i64 (belowV x n)) ∧ w = w' := by
  have H := Lib.hid (belowV_of (x := x) h3)
  have e1 : x.tmod n < 0 → x % n = x.tmod n + n := by
    intro h
    have := Int.tmod_eq_emod (a := x) (b := n)
    have hb := Int.emod_nonneg x (b := n) (by omega)
    split at this <;> omega
  have e2 : ¬ x.tmod n < 0 → x % n = x.tmod n := by
    intro h
    have := Int.tmod_eq_emod (a := x) (b := n)
    have hb := Int.emod_lt_of_pos x (b := n) (by omega)
    split at this <;> omega
  have b1 := Int.tmod_lt_of_pos x (b := n) (by omega)
  have b2 := Int.lt_tmod_of_pos x (b := n) (by omega)
  have E1 := Lib.hid e1
  have E2 := Lib.hid e2
  clear e1 e2
  go_enter Tryz.func97, Tryz.ntmps97
  go_wp2
  all_goals (go_ret; refine ⟨ret_i ?_, rfl⟩; rw [H.out])
  · rw [E1.out (by assumption)]
  · rw [E2.out (by omega)]

/-- the numbers of a stream, and a bound that their block lies below (so that two streams over one list do not disturb each other) -/
structure Zs where
  l : List Int
  lim : Nat
/-- the stream's block -/
def St (w : World) (g : Nat) (zs : Zs) (k : Nat) : Prop :=
  ∃ A n c, w.heap[g]? = some (.cells #[.slice A n c, .int .i64 k] 25 (0, 0)) ∧ zs.l.length = n ∧ n ≤ 9223372036854775807 ∧
    (∀ (j : Nat) x, zs.l[j]? = some x → -9223372036854775808 ≤ x ∧ x ≤ 9223372036854775807) ∧ zs.lim ≤ g ∧
    (0 < n → ∃ ad : Addr, A = some ad ∧ ad.block < zs.lim ∧ ∀ (j : Nat) x, zs.l[j]? = some x → w.cell? (ad.add j) = some (.int .i64 x))

theorem block_add (a : Addr) (n : Nat) : (a.add n).block = a.block := by unfold Addr.add; split <;> rfl

section
variable {w w' : World} {g : Nat} {zs : Zs} {k : Nat}
theorem St.lt (h : St w g zs k) : g < w.heap.size := by
  obtain ⟨A, n, c, hg, _⟩ := h
  exact lt_of_heap hg
theorem St.grown {row : Option Nat} (h : St w g zs k) (hg : w.grownBy w' row) (hr : ∀ i, row = some i → g < i) : St w' g zs k := by
  obtain ⟨A, n, c, hb, h1, h2, h3, hL, h4⟩ := h
  have hlt := lt_of_heap hb
  have hother : ∀ i, i ≤ g → w'.heap[i]? = w.heap[i]? := fun i hi => hg.block i (by omega) (fun e => by have := hr i e.symm; omega)
  refine ⟨A, n, c, (hother g (Nat.le_refl _)).trans hb, h1, h2, h3, hL, fun hn => ?_⟩
  obtain ⟨ad, ha, hl, hc⟩ := h4 hn
  exact ⟨ad, ha, hl, fun j x hx => (World.cell?_of_block (hother _ (by rw [block_add]; omega))).trans (hc j x hx)⟩
/-- another stream over the same list goes on: this one stays -/
theorem St.other {a : Nat} (h : St w g zs k) (hg : w.grownBy w' (some a)) (ha : zs.lim ≤ a) (hne : a ≠ g) : St w' g zs k := by
  obtain ⟨A, n, c, hb, h1, h2, h3, hL, h4⟩ := h
  have hlt := lt_of_heap hb
  have hother : ∀ i, i ≤ g → i ≠ a → w'.heap[i]? = w.heap[i]? := fun i hi hne => hg.block i (by omega) (fun e => hne (Option.some.inj e))
  refine ⟨A, n, c, (hother g (Nat.le_refl _) (Ne.symm hne)).trans hb, h1, h2, h3, hL, fun hn => ?_⟩
  obtain ⟨ad, ha', hl, hc⟩ := h4 hn
  exact ⟨ad, ha', hl, fun j x hx => (World.cell?_of_block (hother _ (by rw [block_add]; omega) (by rw [block_add]; omega))).trans (hc j x hx)⟩
theorem St.below (h : St w g zs k) (hb : Below w.heap.size w w') : St w' g zs k := h.grown (row := none) (grown_of_below hb) (fun _ e => by cases e)
theorem St.alloc (h : St w g zs k) (o : Obj) : St (w.alloc o) g zs k := h.below ((Below.refl _ _).alloc (Nat.le_refl _) o)
theorem St.setOther (h : St w g zs k) {p : Addr} (hp : g < p.block) (v : Value) : St (w.setCell p v) g zs k :=
  h.grown (row := some p.block) ⟨rfl, rfl, rfl, by simp [World.setCell], fun i _ hne => Below.heap_setCell w p v i (fun e => hne (by rw [e]))⟩ (fun i e => by injection e with e; omega)
theorem St.setAt (h : St w g zs k) {b o : Nat} (hp : g < b) (v : Value) : St (w.setCell ⟨b, o, none⟩ v) g zs k := h.setOther hp v
theorem St.drew (h : St w g zs k) : St w.drew g zs k := h
theorem St.drewN (h : St w g zs k) (n : Nat) : St (w.drewN n) g zs k := h
theorem St.keep (h : St w g zs k) (hg : w.grownBy w' (some g)) : Keep 25 w w' := by
  obtain ⟨A, n, c, hb, _⟩ := h
  exact Keep.of_grown hb hg
theorem St.set_ (h : St w g zs k) (k' : Nat) : St (w.setCell ⟨g, 1, none⟩ (.int .i64 k')) g zs k' := by
  obtain ⟨A, n, c, hb, h1, h2, h3, hL, h4⟩ := h
  refine ⟨A, n, c, ?_, h1, h2, h3, hL, fun hn => ?_⟩
  · simp [World.setCell, Array.getElem?_modify, hb]
  · obtain ⟨ad, ha, hl, hc⟩ := h4 hn
    exact ⟨ad, ha, hl, fun j x hx => (World.cell?_of_block (Below.heap_setCell _ _ _ _ (by rw [block_add]; show ad.block ≠ g; omega))).trans (hc j x hx)⟩
end

def nextV (zs : Zs) (k : Nat) (n : Int) : Int :=
  match zs.l[k % zs.l.length]? with
  | none => belowV ((k + 1 : Int) * 7919) n
  | some x => belowV (belowV x 1073741824 + ((k : Int) / (zs.l.length : Int)) * (7919 + (k : Int) % (zs.l.length : Int))) n
theorem nextV_bd {zs : Zs} {k : Nat} {n : Int} (h : 1 ≤ n) : 0 ≤ nextV zs k n ∧ nextV zs k n < n := by
  unfold nextV; split <;> exact belowV_bd h

theorem round_bd (k m q : Nat) (hm : 0 < m) : ((k : Int) / (m : Int)) * ((q : Int) + (k : Int) % (m : Int)) ≤ k * (q : Int) + k ∧ 0 ≤ ((k : Int) / (m : Int)) * ((q : Int) + (k : Int) % (m : Int)) := by
  have hml : k % m < m := Nat.mod_lt _ hm
  have hdl : k / m ≤ k := Nat.div_le_self _ _
  have h1 : k / m * (k % m) ≤ k / m * m := Nat.mul_le_mul_left _ (Nat.le_of_lt hml)
  have h2 : k / m * m ≤ k := Nat.div_mul_le_self _ _
  have h3 : k / m * q ≤ k * q := Nat.mul_le_mul_right _ hdl
  have h4 : k / m * (q + k % m) ≤ k * q + k := by rw [Nat.mul_add]; omega
  constructor
  · have := Int.ofNat_le.2 h4
    simpa only [Int.natCast_mul, Int.natCast_add, Int.natCast_ediv, Int.natCast_emod] using this
  · have := Int.natCast_nonneg (k / m * (q + k % m))
    simpa only [Int.natCast_mul, Int.natCast_add, Int.natCast_ediv, Int.natCast_emod] using this

theorem next_c (g : Nat) (zs : Zs) (k : Nat) (n : Int) (w : World) (h : St w g zs k) (hk : k ≤ 1099511627776) (h1 : 1 ≤ n) (h2 : n ≤ 4611686018427387904) :
    Calls Tryz.prog 45 #[.pointer (some ⟨g, 0, none⟩), .int .i64 n] w fun e w' => e = .returned (.int .i64 (nextV zs k n)) ∧ St w' g zs (k + 1) ∧ w.grownBy w' (some g) := by
  have hs := h.set_ (k + 1)
  obtain ⟨A, m, c, hb, hl, hm, hz, hL, hc⟩ := h
  have c0 : w.cell? ⟨g, 0, none⟩ = some (.slice A m c) := by rw [cell_of_row w g 0 _ _ _ hb]; rfl
  have c1 : w.cell? ⟨g, 1, none⟩ = some (.int .i64 k) := by rw [cell_of_row w g 1 _ _ _ hb]; rfl
  have f1 : w.frozen? ⟨g, 1, none⟩ = false := frozen_of_row w g 1 _ _ hb
  have hgr : w.grownBy (w.setCell ⟨g, 1, none⟩ (.int .i64 ((k + 1 : Nat) : Int))) (some g) := grown_setCell (grown_refl w _) (.inl rfl) _
  by_cases hm0 : m = 0
  · subst hm0
    have hzs := Lib.hid (List.eq_nil_of_length_eq_zero hl : zs.l = [])
    have hs' := Lib.hid hs; clear hs hl hb hz hc
    have hgr' := Lib.hid hgr; clear hgr
    go_enter Tryz.func45, Tryz.ntmps45
    go_wp2_with (first | (go_at_call 97; refine (below_c _ _ _ (by omega) (by omega) (by omega) (by omega)).mono ?_; rintro e w' ⟨rfl, rfl⟩))
    go_ret
    refine ⟨ret_i (by simp [nextV, hzs.out]), ?_, ?_⟩
    · have := hs'.out; simpa using this
    · have := hgr'.out; simpa using this
  · obtain ⟨ad, rfl, hbl, hcell⟩ := hc (by omega)
    have hmp : 0 < m := by omega
    obtain ⟨x, hx⟩ := at_of_lt (l := zs.l) (k := k % m) (by rw [hl]; exact Nat.mod_lt _ hmp)
    have hxb := hz _ x hx
    have hcx : (w.setCell ⟨g, 1, none⟩ (.int .i64 (k + 1))).cell? (ad.add (k % m)) = some (.int .i64 x) :=
      (World.cell?_of_block (Below.heap_setCell _ _ _ _ (by rw [block_add]; show ad.block ≠ g; omega))).trans (hcell _ x hx)
    have hs' := Lib.hid hs; clear hs hb hz hc hcell
    have hgr' := Lib.hid hgr; clear hgr
    have hx' := Lib.hid hx; clear hx
    have hl' := Lib.hid hl; clear hl
    have hml : k % m < m := Nat.mod_lt _ hmp
    have hdl : k / m ≤ k := Nat.div_le_self _ _
    have hB := @belowV_bd x 1073741824 (by omega)
    obtain ⟨hmul', hmul0⟩ := round_bd k m 7919 hmp
    have e79 : ((7919 : Nat) : Int) = 7919 := rfl
    rw [e79] at hmul' hmul0
    clear e79
    have hq0 : 0 ≤ (k : Int) / (m : Int) := Int.ediv_nonneg (by omega) (by omega)
    have hq1 : (k : Int) / (m : Int) ≤ k := Int.ediv_le_self _ (by omega)
    have hr0 : 0 ≤ (k : Int) % (m : Int) := Int.emod_nonneg _ (by omega)
    have hr1 : (k : Int) % (m : Int) < m := Int.emod_lt_of_pos _ (by omega)
    have hr2 : (k : Int) % (m : Int) ≤ k := by have := Nat.mod_le k m; exact_mod_cast this
    have heq : (m == 0) = false := by simp; omega
    have heq' : ((m : Int) == 0) = false := by simp; omega
    go_enter Tryz.func45, Tryz.ntmps45
    go_wp2
    go_quiet (fail)
    go_wp2
    go_quiet (fail)
    go_wp2_with fail
    refine (below_c _ _ _ (by omega) (by omega) (by omega) (by omega)).mono ?_; rintro e w' ⟨rfl, rfl⟩
    go_wp2_with fail
    refine (below_c _ _ _ (by omega) (by omega) (by omega) (by omega)).mono ?_; rintro e w' ⟨rfl, rfl⟩
    go_wp2
    go_ret
    refine ⟨ret_i ?_, ?_, ?_⟩
    · unfold nextV; rw [hl'.out, hx'.out]
    · have := hs'.out; exact (by simpa using this : St (w.setCell ⟨g, 1, none⟩ (.int .i64 (k + 1))) g zs (k + 1)).drewN _
    · have := hgr'.out; exact grown_drewN (by simpa using this : w.grownBy (w.setCell ⟨g, 1, none⟩ (.int .i64 (k + 1))) (some g)) _

theorem range_c (g : Nat) (zs : Zs) (k : Nat) (a b : Int) (w : World) (h : St w g zs k) (hk : k ≤ 1099511627776) (h0 : a ≤ b) (h1 : -4398046511104 ≤ a) (h2 : b ≤ 4398046511104) :
    Calls Tryz.prog 13 #[.pointer (some ⟨g, 0, none⟩), .int .i64 a, .int .i64 b] w fun e w' => e = .returned (.int .i64 (a + nextV zs k (b - a + 1))) ∧ St w' g zs (k + 1) ∧ w.grownBy w' (some g) := by
  have H := @nextV_bd zs k (b - a + 1) (by omega)
  go_enter Tryz.func13, Tryz.ntmps13
  go_wp2_with (go_at_call 45; refine (next_c g zs k _ _ h hk (by omega) (by omega)).mono ?_; rintro e w' ⟨rfl, hs, hg⟩)
  go_ret
  exact ⟨rfl, hs, hg⟩

theorem flip_c (g : Nat) (zs : Zs) (k : Nat) (n : Int) (w : World) (h : St w g zs k) (hk : k ≤ 1099511627776) (h1 : 1 ≤ n) (h2 : n ≤ 4611686018427387904) :
    Calls Tryz.prog 46 #[.pointer (some ⟨g, 0, none⟩), .int .i64 n] w fun e w' => e = .returned (.bool (nextV zs k n == 0)) ∧ St w' g zs (k + 1) ∧ w.grownBy w' (some g) := by
  go_enter Tryz.func46, Tryz.ntmps46
  go_wp2_with (go_at_call 45; refine (next_c g zs k _ _ h hk (by omega) (by omega)).mono ?_; rintro e w' ⟨rfl, hs, hg⟩)
  go_ret
  exact ⟨rfl, hs, hg⟩

/-- one of some: the element whose number the stream gives -/
def pickV {α : Type} [Inhabited α] (zs : Zs) (k : Nat) (l : List α) : α := l.getD (nextV zs k l.length).toNat default
theorem pickV_mem {α : Type} [Inhabited α] {zs : Zs} {k : Nat} {l : List α} (h : l ≠ []) : pickV zs k l ∈ l := by
  have hl : 1 ≤ l.length := by cases l <;> simp_all
  obtain ⟨h0, h1⟩ := @nextV_bd zs k l.length (by omega)
  have hlt : (nextV zs k l.length).toNat < l.length := by omega
  unfold pickV
  rw [List.getD_eq_getElem?_getD, List.getElem?_eq_getElem hlt]
  exact List.getElem_mem hlt

theorem pick_c (g : Nat) (zs : Zs) (k : Nat) (A : Option Addr) (n c : Nat) (l : List Int) (w : World) (h : St w g zs k) (hk : k ≤ 1099511627776) (hr : RI 3 w A n l) (hn : 1 ≤ n) :
    Calls Tryz.prog 21 #[.pointer (some ⟨g, 0, none⟩), .slice A n c] w fun e w' => e = .returned (.int .i64 (pickV zs k l)) ∧ St w' g zs (k + 1) ∧ w.grownBy w' (some g) := by
  have hb := hr.bd
  have hl := hr.len
  obtain ⟨h0, h1⟩ := @nextV_bd zs k n (by omega)
  have hv : pickV zs k l = l.getD (nextV zs k n).toNat 0 := by unfold pickV; rw [hl]; rfl
  have hlt : (nextV zs k n).toNat < n := by omega
  go_enter Tryz.func21, Tryz.ntmps21
  go_wp2_with fail
  refine (next_c g zs k _ _ h hk (by omega) (by omega)).mono ?_; rintro e w' ⟨rfl, hs, hg⟩
  obtain ⟨b, off, x, rfl, hbl, hx, hc⟩ := (hr.keep (T := 25) (by decide) (h.keep hg)).at_ hlt
  have hv' := Lib.hid hv; clear hv
  have hx' := Lib.hid hx; clear hx
  have hl' := Lib.hid hl; clear hl
  go_wp2
  go_ret
  refine ⟨ret_i ?_, hs, hg⟩
  rw [hv'.out, List.getD_eq_getElem?_getD, hx'.out]; rfl
end Go.Proofs.YtnkhdofcmanipaaGreatDoor
