/- Halves, and how the second one compares: timing.Halves, race.Fade; the reference's HalvesOf. -/
import Derived.Test.YtjfppcejcbfngaaDoorFarR
namespace Go.Proofs.YtjfppcejcbfngaaDoor
open Go.RowKit
set_option linter.unusedVariables false

def halfE (l : List Int) : Int := if l.length % 2 = 1 then 3 else if l.getD (l.length / 2 - 1) 0 = 0 then 8 else 0
def halfA (l : List Int) : Int := if halfE l = 0 then l.getD (l.length / 2 - 1) 0 else 0
def halfB (l : List Int) : Int := if halfE l = 0 then l.getLastD 0 - halfA l else 0
def halfV (l : List Int) : Value := .tuple #[.int .i64 (halfA l), .int .i64 (halfB l), .int .i64 (halfE l)]
theorem half_odd {l : List Int} {n : Nat} (h : l.length = n) (h1 : n % 2 = 1) : halfV l = .tuple #[.int .i64 0, .int .i64 0, .int .i64 3] := by
  have e : halfE l = 3 := by unfold halfE; rw [if_pos (by rw [h]; exact h1)]
  unfold halfV halfB halfA; rw [e]; rfl
theorem half_none {l : List Int} {n : Nat} {x : Int} (h : l.length = n) (h1 : n % 2 = 0) (hx : l[n / 2 - 1]? = some x) (h2 : x = 0) : halfV l = .tuple #[.int .i64 0, .int .i64 0, .int .i64 8] := by
  subst h
  have e : halfE l = 8 := by unfold halfE; rw [if_neg (by omega), getD_of hx, if_pos h2]
  unfold halfV halfB halfA; rw [e]; rfl
theorem half_ok {l : List Int} {n : Nat} {x y : Int} (h : l.length = n) (h1 : n % 2 = 0) (hx : l[n / 2 - 1]? = some x) (hy : l[n - 1]? = some y) (h2 : x ≠ 0) (hn : 0 < n) : halfV l = .tuple #[.int .i64 x, .int .i64 (y - x), .int .i64 0] := by
  have hla := last_at h hn
  subst h
  rw [hla] at hy
  obtain rfl := Option.some.inj hy
  have e : halfE l = 0 := by unfold halfE; rw [if_neg (by omega), getD_of hx, if_neg h2]
  have e2 : halfA l = x := by unfold halfA; rw [if_pos e, getD_of hx]
  unfold halfV halfB; rw [e, e2]; rfl

theorem halvesOf_c (A : Option Addr) (n c : Nat) (l : List Int) (w : World) (h : RI 3 w A n l) (hn1 : 1 ≤ n) (hn : n ≤ 240) (hbd : ∀ x ∈ l, 0 ≤ x ∧ x ≤ 360000) :
    Calls Tryd.prog 38 #[.slice A n c] w fun e w' => e = .returned (halfV l) ∧ ∃ q, w' = w.drewN q := by
  have hlen := h.len
  by_cases hodd : n % 2 = 1
  · have E := Lib.hid (half_odd hlen hodd)
    clear h hlen hbd
    go_enter Tryd.func38, Tryd.ntmps38
    go_wp2
    refine bodyPost_ret (v := .tuple #[.int .i64 0, .int .i64 0, .int .i64 3]) (by simp [results, Tryd.results38, go_sem]) rfl ⟨by rw [E.out], 0, rfl⟩
  · obtain ⟨b, off, x, rfl, _, hx, hcx⟩ := h.at_ (k := n / 2 - 1) (by omega)
    obtain ⟨b', off', y, e, _, hy, hcy⟩ := h.at_ (k := n - 1) (by omega)
    obtain ⟨rfl, rfl⟩ : b = b' ∧ off = off' := by injection e with e; injection e with e1 e2; exact ⟨e1, e2⟩
    have hxb := hbd x (mem_of_at hx)
    have hyb := hbd y (mem_of_at hy)
    have E1 := Lib.hid (half_none hlen (by omega) hx)
    have E2 := Lib.hid (half_ok hlen (by omega) hx hy)
    have e1 : (((n / 2 - 1 : Nat)) : Int) = (n : Int) / 2 - 1 := by omega
    have hnp : 2 ≤ n := by omega
    clear h hlen hbd hx hy e
    go_enter Tryd.func38, Tryd.ntmps38
    by_cases h0 : x = 0
    · have E := Lib.hid (E1.out h0)
      subst h0
      clear E1 E2
      go_wp2
      refine bodyPost_ret (v := .tuple #[.int .i64 0, .int .i64 0, .int .i64 8]) (by simp [results, Tryd.results38, go_sem]) rfl ⟨by rw [E.out], 0, rfl⟩
    · have E := Lib.hid (E2.out h0 (by omega))
      clear E1 E2
      go_wp2
      go_quiet (fail)
      go_wp2
      refine bodyPost_ret (v := .tuple #[.int .i64 x, .int .i64 (y - x), .int .i64 0]) (by simp [results, Tryd.results38, go_sem]) rfl ⟨by rw [E.out], _, rfl⟩
end Go.Proofs.YtjfppcejcbfngaaDoor
