/- heat.Sizes, heat.Lanes, tumblaw1.heated: for all pools. KX: what a law carries from call to call. -/
import Derived.Test.YtjafcnblgeibpaaGreatDoorSizeC
import Derived.Test.YtjafcnblgeibpaaGreatDoorOrdC
namespace Go.Proofs.YtjafcnblgeibpaaGreatDoor
open Go.RowKit
set_option linter.unusedVariables false

/-- what a law carries: facts that live on behind a call -/
structure KX (w : World) (X : World → Prop) (wx : World) : Prop where
  x : X wx
  kp : ∀ a b, X a → Below a.heap.size a b → X b
  bel : Below w.heap.size w wx
section
variable {w wx w' : World} {X Y : World → Prop}
theorem KX.below (h : KX w X wx) (B : Below wx.heap.size wx w') : KX w X w' := ⟨h.kp _ _ h.x B, h.kp, below_next h.bel B⟩
theorem KX.add (h : KX w X wx) (hy : Y wx) (hk : ∀ a b, Y a → Below a.heap.size a b → Y b) : KX w (fun v => X v ∧ Y v) wx := ⟨⟨h.x, hy⟩, fun a b q B => ⟨h.kp a b q.1 B, hk a b q.2 B⟩, h.bel⟩
theorem KX.weak (h : KX w X wx) (hy : ∀ v, X v → Y v) (hk : ∀ a b, Y a → Below a.heap.size a b → Y b) : KX w Y wx := ⟨hy _ h.x, hk, h.bel⟩
theorem KX.drewN (h : KX w X wx) (n : Nat) : KX w X (wx.drewN n) := h.below (below_drewN (Below.refl _ _) n)
end
def PoolB (b : Nat) (p : Pl) (v : World) : Prop := v.heap[b]? = some (.cells p.cells 78 (0, 0))
theorem PoolB.keep {b : Nat} {p : Pl} (a v : World) (h : PoolB b p a) (B : Below a.heap.size a v) : PoolB b p v := blk_below h B
theorem PoolB.at_ {b : Nat} {p : Pl} {v : World} (h : PoolB b p v) : v.cell? ⟨b, 0, none⟩ = some (.int .i64 p.lo) ∧ v.cell? ⟨b, 1, none⟩ = some (.int .i64 p.hi) ∧ v.cell? ⟨b, 2, none⟩ = some (.int .i64 p.le) ∧ v.cell? ⟨b, 3, none⟩ = some (.int .i64 p.ci) :=
  ⟨(blk_facts h).1 0, (blk_facts h).1 1, (blk_facts h).1 2, (blk_facts h).1 3⟩
def PlBd (p : Pl) : Prop := (-1099511627776 ≤ p.lo ∧ p.lo ≤ 1099511627776) ∧ (-1099511627776 ≤ p.hi ∧ p.hi ≤ 1099511627776)
def sizeErr (p : Pl) (many : Int) : Int := if poolErr p ≠ 0 then poolErr p else if 0 ≤ many ∧ many ≤ 300 then szErr (p.hi - p.lo + 1) many else 1
def sizeL (p : Pl) (many : Int) : List Int := if poolErr p = 0 ∧ (0 ≤ many ∧ many ≤ 300) then szV (p.hi - p.lo + 1) p.le many else []
def laneT (p : Pl) : List Int := if poolErr p = 0 then laneV p.lo p.hi else []
def RetI (w : World) (E : Int) (L : List Int) (e : Ending) (w' : World) : Prop := ∃ A n c, e = .returned (.tuple #[.slice A n c, .int .i64 E]) ∧ RI 3 w' A n L ∧ Below w.heap.size w w'
set_option maxHeartbeats 1600000 in
theorem sizesTop_c (p : Pl) (hb : PlBd p) (many : Int) (w : World) : Calls Tryz.prog 71 #[p.val, .int .i64 many] w (RetI w (sizeErr p many) (sizeL p many)) := by
  have hCP := Lib.hid (fun W => checkPool_c p hb W)
  have hE := Lib.hid (show sizeErr p many = if poolErr p ≠ 0 then poolErr p else if 0 ≤ many ∧ many ≤ 300 then szErr (p.hi - p.lo + 1) many else 1 from rfl)
  have hL := Lib.hid (show sizeL p many = if poolErr p = 0 ∧ (0 ≤ many ∧ many ≤ 300) then szV (p.hi - p.lo + 1) p.le many else [] from rfl)
  have hS := Lib.hid (fun h hm W => sizesP_c p (poolErr_ok h) many hm W)
  have hP0 : PoolB w.heap.size p (w.alloc (.cells p.cells 78)) := heap_alloc_new w _
  have hB := below_new w (.cells p.cells 78)
  have hAt := Lib.hid (fun v (h : PoolB w.heap.size p v) => h.at_)
  generalize szErr (p.hi - p.lo + 1) many = E2 at *
  generalize szV (p.hi - p.lo + 1) p.le many = L2 at *
  generalize sizeErr p many = E at *
  generalize sizeL p many = L at *
  generalize poolErr p = P at *
  obtain ⟨lo, hi, le, ci⟩ := p
  dsimp only [Pl.val, Pl.cells] at *
  obtain ⟨z0, z1, z2, z3⟩ := hAt.out _ hP0
  by_cases h0 : P = 0
  rotate_left
  · obtain rfl : E = P := by rw [hE.out, if_pos h0]
    obtain rfl : L = [] := by rw [hL.out, if_neg (fun h => h0 h.1)]
    have hd : (E != 0) = true := by simpa using h0
    clear hE hL hS h0
    go_enter Tryz.func71, Tryz.ntmps71
    go_wp2_with fail
    refine (hCP.out _).mono ?_; rintro e w1 ⟨rfl, B1⟩
    have hB1 := below_next hB B1
    clear hCP hAt
    go_wp2
    go_ret2
    exact ⟨none, 0, 0, rfl, R1.nil_ _ _ _ _, hB1⟩
  subst h0
  by_cases hm : 0 ≤ many ∧ many ≤ 300
  rotate_left
  · obtain rfl : E = 1 := by rw [hE.out, if_neg (by simp), if_neg hm]
    obtain rfl : L = [] := by rw [hL.out, if_neg (fun h => hm h.2)]
    have hd : decide (0 ≤ many ∧ many ≤ 300) = false := decide_eq_false hm
    clear hE hL hS hm
    go_enter Tryz.func71, Tryz.ntmps71
    go_wp2_with fail
    refine (hCP.out _).mono ?_; rintro e w1 ⟨rfl, B1⟩
    have hB1 := below_next hB B1
    clear hCP hAt
    go_wp2_with (go_at_call 82; refine (within_c _ _ _ _).mono ?_; rintro e w' ⟨rfl, rfl⟩; rw [hd])
    go_ret2
    exact ⟨none, 0, 0, rfl, R1.nil_ _ _ _ _, hB1⟩
  obtain rfl : E = E2 := by rw [hE.out, if_neg (by simp), if_pos hm]
  obtain rfl : L = L2 := by rw [hL.out, if_pos ⟨rfl, hm⟩]
  have hd : decide (0 ≤ many ∧ many ≤ 300) = true := decide_eq_true hm
  have hS' := Lib.hid (fun W => hS.out rfl hm W)
  clear hE hL hS hm
  go_enter Tryz.func71, Tryz.ntmps71
  go_wp2_with fail
  refine (hCP.out _).mono ?_; rintro e w1 ⟨rfl, B1⟩
  have hB1 := below_next hB B1
  obtain ⟨z0, z1, z2, z3⟩ := hAt.out _ (hP0.keep _ _ B1)
  clear hCP hAt
  go_wp2_with (first | (go_at_call 82; refine (within_c _ _ _ _).mono ?_; rintro e w' ⟨rfl, rfl⟩; rw [hd]) | (go_at_call 146; refine (hS'.out _).mono ?_; rintro e w2 ⟨A, n, c, rfl, hR, B2⟩))
  have hB2 := below_next hB1 B2
  go_ret2
  exact ⟨A, n, c, rfl, hR, hB2⟩
set_option maxHeartbeats 1600000 in
theorem lanesTop_c (p : Pl) (hb : PlBd p) (w : World) : Calls Tryz.prog 93 #[p.val] w (RetI w (poolErr p) (laneT p)) := by
  have hCP := Lib.hid (fun W => checkPool_c p hb W)
  have hL := Lib.hid (show laneT p = if poolErr p = 0 then laneV p.lo p.hi else [] from rfl)
  have hS := Lib.hid (fun h W => lanesOfP_c p (poolErr_ok h) W)
  have hn := Lib.hid (fun h => show ((laneV p.lo p.hi).length : Int) ≤ 10 by
    have h2 := poolErr_ok (p := p) h
    have := laneV_len h2.1.2
    have := h2.2.1
    have := h2.1.1
    omega)
  have hP0 : PoolB w.heap.size p (w.alloc (.cells p.cells 78)) := heap_alloc_new w _
  have hB := below_new w (.cells p.cells 78)
  have hAt := Lib.hid (fun v (h : PoolB w.heap.size p v) => h.at_)
  generalize laneV p.lo p.hi = L2 at *
  generalize laneT p = L at *
  generalize poolErr p = P at *
  obtain ⟨lo, hi, le, ci⟩ := p
  dsimp only [Pl.val, Pl.cells] at *
  obtain ⟨z0, z1, z2, z3⟩ := hAt.out _ hP0
  by_cases h0 : P = 0
  rotate_left
  · obtain rfl : L = [] := by rw [hL.out, if_neg h0]
    have hd : (P != 0) = true := by simpa using h0
    clear hL hS h0
    go_enter Tryz.func93, Tryz.ntmps93
    go_wp2_with fail
    refine (hCP.out _).mono ?_; rintro e w1 ⟨rfl, B1⟩
    have hB1 := below_next hB B1
    clear hCP hAt
    go_wp2
    go_ret2
    exact ⟨none, 0, 0, rfl, R1.nil_ _ _ _ _, hB1⟩
  subst h0
  obtain rfl : L = L2 := by rw [hL.out, if_pos rfl]
  have hS' := Lib.hid (fun W => hS.out rfl W)
  have hn' := Lib.hid (hn.out rfl)
  clear hL hS hn
  go_enter Tryz.func93, Tryz.ntmps93
  go_wp2_with fail
  refine (hCP.out _).mono ?_; rintro e w1 ⟨rfl, B1⟩
  have hB1 := below_next hB B1
  obtain ⟨z0, z1, z2, z3⟩ := hAt.out _ (hP0.keep _ _ B1)
  clear hCP hAt
  go_wp2_with fail
  refine (hS'.out _).mono ?_; rintro e w2 ⟨A, n, c, rfl, hR, hl, B2⟩
  have hB2 := below_next hB1 B2
  have hRR : RI 3 w2 A n L := R1.of_own hR (by have := hn'.out; omega)
  clear hR
  go_wp2
  go_ret2
  exact ⟨A, n, c, rfl, hRR, hB2⟩
set_option maxHeartbeats 1600000 in
theorem heated_c (w : World) : Calls Tryz.prog 20 #[] w fun e w' => e = .returned (.bool true) ∧ Below w.heap.size w w' := by
  have hP : poolErr ⟨1, 5, 1, 1⟩ = 0 := by decide
  have hLv : laneT ⟨1, 5, 1, 1⟩ = [3, 4, 2, 5, 1] := by decide
  have hL := Lib.hid (fun W => lanesTop_c ⟨1, 5, 1, 1⟩ ⟨⟨by decide, by decide⟩, by decide, by decide⟩ W)
  rw [hP, hLv] at hL
  have he : eqB [3, 4, 2, 5, 1] [3, 4, 2, 5, 1] = true := by decide
  clear hP hLv
  go_enter Tryz.func20, Tryz.ntmps20
  go_wp2_with fail
  refine (hL.out _).mono ?_; rintro e w1 ⟨A, n, c, rfl, hR, B1⟩
  have hq := Lib.hid (fun A2 c2 W h1 h2 => equal_c A A2 n c 5 c2 [3, 4, 2, 5, 1] [3, 4, 2, 5, 1] W h1 h2)
  rw [he] at hq
  clear hL he
  go_wp2_with (go_at_call 94; refine (hq.out _ _ _ (hR.alloc _) (R1.litAt _ _ _ [3, 4, 2, 5, 1] (by first | rfl | simp) rfl (le_big (by simp)))).mono ?_; rintro e w2 ⟨rfl, B2⟩)
  have hB2 := below_next (B1.alloc B1.size _) B2
  go_ret
  exact ⟨rfl, hB2⟩
end Go.Proofs.YtjafcnblgeibpaaGreatDoor
