/- Races as data; the races that the stream makes. -/
import Derived.Test.YtjafcnblgeibpaaGreatDoorStream
import Derived.Test.YtjafcnblgeibpaaGreatDoorStructs
namespace Go.Proofs.YtjafcnblgeibpaaGreatDoor
open Go.RowKit
set_option linter.unusedVariables false

theorem some_c (g : Nat) (zs : List Int) (k : Nat) (A : Option Addr) (n c : Nat) (l : List ByteArray) (w : World) (h : St w g zs k) (hk : k ≤ 1099511627776) (hr : RS 9 w A n l) (hn : 1 ≤ n) :
    Calls Tryz.prog 38 #[.pointer (some ⟨g, 0, none⟩), .slice A n c] w fun e w' => e = .returned (.string (pickV zs k l)) ∧ St w' g zs (k + 1) ∧ w.grownBy w' (some g) := by
  have hb := hr.bd
  have hl := hr.len
  obtain ⟨h0, h1⟩ := @nextV_bd zs k n (by omega)
  have hv : pickV zs k l = l.getD (nextV zs k n).toNat default := by unfold pickV; rw [hl]
  have hlt : (nextV zs k n).toNat < n := by omega
  go_enter Tryz.func38, Tryz.ntmps38
  go_wp2_with fail
  refine (next_c g zs k _ _ h hk (by omega) (by omega)).mono ?_; rintro e w' ⟨rfl, hs, hg⟩
  obtain ⟨b, off, x, rfl, hbl, hx, hc⟩ := (hr.keep (T := 25) (by decide) (h.keep hg)).at_ hlt
  have hv' := Lib.hid hv; clear hv
  have hx' := Lib.hid hx; clear hx
  have hl' := Lib.hid hl; clear hl
  go_wp2
  go_ret
  refine ⟨ret_s ?_, hs, hg⟩
  rw [hv'.out, List.getD_eq_getElem?_getD, hx'.out]; rfl

def oddV (zs : List Int) (k : Nat) (a b : Int) : Int := if nextV zs k 12 == 0 then pickV zs (k + 1) [a - 1, b + 1, a, b, -1099511627776, 1099511627776] else a + nextV zs (k + 1) (b - a + 1)
theorem odd_c (g : Nat) (zs : List Int) (k : Nat) (a b : Int) (w : World) (h : St w g zs k) (hk : k + 2 ≤ 1099511627776) (h0 : a ≤ b) (h1 : -4398046511 ≤ a) (h2 : b ≤ 4398046511) :
    Calls Tryz.prog 77 #[.pointer (some ⟨g, 0, none⟩), .int .i64 a, .int .i64 b] w fun e w' =>
      e = .returned (.int .i64 (oddV zs k a b)) ∧ St w' g zs (k + 2) ∧ w.grownBy w' (some g) := by
  have H := @nextV_bd zs (k + 1) (b - a + 1) (by omega)
  have H2 : b - a ≤ 8796093022 := by omega
  go_enter Tryz.func77, Tryz.ntmps77
  go_wp2_with fail
  refine (flip_c g zs k _ _ h (by omega) (by omega) (by omega)).mono ?_; rintro e w1 ⟨rfl, hs, hg⟩
  by_cases hf : nextV zs k 12 == 0
  · go_wp2_with fail
    refine (pick_c g zs (k + 1) _ _ _ [a - 1, b + 1, a, b, -1099511627776, 1099511627776] _ (hs.alloc _) (by omega) (R1.litAt _ _ _ _ (by simp) rfl (le_big (by simp))) (by simp)).mono ?_; rintro e w2 ⟨rfl, hs2, hg2⟩
    go_wp2
    go_ret
    exact ⟨ret_i (by unfold oddV; rw [if_pos hf]), hs2, grown_trans (grown_alloc hg _) hg2⟩
  · go_wp2_with fail
    refine (range_c g zs (k + 1) _ _ _ hs (by omega) h0 (by omega) (by omega)).mono ?_; rintro e w2 ⟨rfl, hs2, hg2⟩
    go_wp2
    go_ret
    exact ⟨ret_i (by unfold oddV; rw [if_neg hf]), hs2, grown_trans hg hg2⟩

def ra : ByteArray := ⟨#[114, 97]⟩
def rb : ByteArray := ⟨#[114, 98]⟩
def plainRace (zs : List Int) (k : Nat) : Race × Nat :=
  let course := pickV zs (k + 1) [25, 50]
  if nextV zs (k + 8) 6 == 0 then
    (⟨pickV zs k [ra, rb], 4 * course, 5, course, 1, nextV zs (k + 4) 3, pickV zs (k + 5) [0, 11], pickV zs (k + 6) [12, 18, 120]⟩, k + 9)
  else
    (⟨pickV zs k [ra, rb], course * (1 + nextV zs (k + 7) 4), 1 + nextV zs (k + 2) 4, course, pickV zs (k + 3) [1, 1, 1, 2, 4], nextV zs (k + 4) 3, pickV zs (k + 5) [0, 11], pickV zs (k + 6) [12, 18, 120]⟩, k + 9)

theorem plainRace_2 (zs : List Int) (k : Nat) : (plainRace zs k).2 = k + 9 := by unfold plainRace; dsimp only; split <;> rfl

end Go.Proofs.YtjafcnblgeibpaaGreatDoor
