/- The fastest and the slowest length: race.Turns, the reference's TurnsOf; halves and race.Fade. -/
import Derived.Test.YtjfppcejcbfngaaDoorHalves
namespace Go.Proofs.YtjfppcejcbfngaaDoor
open Go.RowKit
set_option linter.unusedVariables false

def tGo (L : List Int) : List Int → Nat → Nat → Nat → Nat × Nat
  | [], _, f, s => (f, s)
  | x :: r, k, f, s => tGo L r (k + 1) (if x < L.getD f 0 then k else f) (if L.getD s 0 < x then k else s)
def turnsP (L : List Int) : Nat × Nat := tGo L L 0 0 0
theorem tGo_at {L l : List Int} {k f s : Nat} {x y z : Int} (h : l[k]? = some x) (hf : L[f]? = some y) (hs : L[s]? = some z) : tGo L (l.drop k) k f s = tGo L (l.drop (k + 1)) (k + 1) (if x < y then k else f) (if z < x then k else s) := by
  rw [drop_at h, tGo, getD_of hf, getD_of hs]
theorem tGo_lt {L : List Int} : ∀ (l : List Int) (k f s n : Nat), k + l.length = n → f < n → s < n → (tGo L l k f s).1 < n ∧ (tGo L l k f s).2 < n
  | [], k, f, s, n, _, h1, h2 => ⟨h1, h2⟩
  | x :: l, k, f, s, n, h, h1, h2 => by
    rw [List.length_cons] at h
    unfold tGo
    exact tGo_lt l (k + 1) _ _ n (by omega) (by split <;> omega) (by split <;> omega)
theorem lapsL_len (l : List Int) : (lapsL l).length = l.length := by unfold lapsL listOf; simp

set_option maxRecDepth 100000 in
set_option maxHeartbeats 1600000 in
theorem turnsOf_c (A : Option Addr) (n c : Nat) (l : List Int) (w : World) (h : RI 3 w A n l) (hn1 : 1 ≤ n) (hn : n ≤ 240) (hbd : ∀ x ∈ l, 0 ≤ x ∧ x ≤ 360000) :
    Calls Tryd.prog 37 #[.slice A n c] w fun e w' => e = .returned (.tuple #[.int .i64 ((turnsP (lapsL l)).1 + 1 : Nat), .int .i64 ((turnsP (lapsL l)).2 + 1 : Nat)]) ∧ Below w.heap.size w w' := by
  have hL := Lib.hid (lapsOf_c A n c l w h hn hbd)
  have hll : (lapsL l).length = n := by rw [lapsL_len, h.len]
  have hT : turnsP (lapsL l) = tGo (lapsL l) ((lapsL l).drop 0) 0 0 0 := by rw [List.drop_zero]; rfl
  generalize lapsL l = L at *
  generalize turnsP L = P at *
  have hT' := Lib.hid hT
  clear hT h hbd
  go_enter Tryd.func37, Tryd.ntmps37
  go_wp2_with fail
  refine hL.out.mono ?_; rintro e w1 ⟨A', c', rfl, hown, hB⟩
  have hr : RI 3 w1 A' n L := R1.of_own hown (by omega)
  clear hown hL
  go_wp2_with fail
  go_loop [5, 6, 13] (fun f s i => ∃ k f' s' : Nat, k ≤ n ∧ i = .int .i64 k ∧ f = .int .i64 f' ∧ s = .int .i64 s' ∧ f' < n ∧ s' < n ∧ Hid (tGo L (L.drop k) k f' s' = P)) (fun _ _ i => n - (intOf i).toNat)
  case atStart => exact ⟨0, 0, 0, Nat.zero_le _, rfl, rfl, rfl, by omega, by omega, Lib.hid hT'.out.symm⟩
  case round =>
    obtain ⟨k, f, s, hk, rfl, rfl, rfl, hf, hs, hK⟩ := hrel
    by_cases hlt : k < n
    · obtain ⟨b, off, x, rfl, _, hx, hcx⟩ := hr.at_ hlt
      obtain ⟨b', off', y, e, _, hy, hcy⟩ := hr.at_ hf
      obtain ⟨rfl, rfl⟩ : b = b' ∧ off = off' := by injection e with e; injection e with e1 e2; exact ⟨e1, e2⟩
      obtain ⟨b', off', z, e, _, hz, hcz⟩ := hr.at_ hs
      obtain ⟨rfl, rfl⟩ : b = b' ∧ off = off' := by injection e with e; injection e with e1 e2; exact ⟨e1, e2⟩
      have hS := Lib.hid (hK.out.symm.trans (tGo_at hx hy hz))
      clear hx hy hz hr e hT'
      by_cases c1 : x < y <;> by_cases c2 : z < x
      · go_wp2
        go_round
        case rel => exact ⟨k + 1, k, k, by omega, by go_num, rfl, rfl, hlt, hlt, Lib.hid (by rw [hS.out, if_pos c1, if_pos c2])⟩
        case measure => simp [intOf]; omega
      · go_wp2
        go_round
        case rel => exact ⟨k + 1, k, s, by omega, by go_num, rfl, rfl, hlt, hs, Lib.hid (by rw [hS.out, if_pos c1, if_neg c2])⟩
        case measure => simp [intOf]; omega
      · go_wp2
        go_round
        case rel => exact ⟨k + 1, f, k, by omega, by go_num, rfl, rfl, hf, hlt, Lib.hid (by rw [hS.out, if_neg c1, if_pos c2])⟩
        case measure => simp [intOf]; omega
      · go_wp2
        go_round
        case rel => exact ⟨k + 1, f, s, by omega, by go_num, rfl, rfl, hf, hs, Lib.hid (by rw [hS.out, if_neg c1, if_neg c2])⟩
        case measure => simp [intOf]; omega
    · have hL := hK.out
      rw [drop_end (by omega)] at hL
      simp only [tGo] at hL
      subst hL
      clear hr hT' hK
      go_wp2
      go_ret2
      exact ⟨rfl, hB⟩
end Go.Proofs.YtjfppcejcbfngaaDoor
