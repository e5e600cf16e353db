/- The field of any right race: bounds. -/
import Derived.Test.YtamcmehmcbjgjaaGreatDoorFldS
namespace Go.Proofs.YtamcmehmcbjgjaaGreatDoor
open Go.RowKit Go.Lib
set_option linter.unusedVariables false

theorem ksL_bdR {zs : Zs} : ∀ (m k : Nat) (t : Int), 0 ≤ t → ∀ y ∈ ksL zs m k t, 0 ≤ y ∧ y ≤ t + 1699 * m
  | 0, _, _, _, y, hy => by cases hy
  | m + 1, k, t, ht, y, hy => by
    have hs := ks_step zs k
    unfold ksL at hy
    rcases List.mem_cons.1 hy with rfl | hy
    · constructor
      · omega
      · push_cast; omega
    · have ih := ksL_bdR m _ _ (by omega) y hy
      push_cast
      omega
theorem rightF_bd {zs : Zs} {r : Race} {l : List Sw} (hr : raceErr r = 0) (h : RightF zs r l) : (fdText (l.map swD)).length ≤ 43000 ∧ ∀ x ∈ l, x.sp.length ≤ 300 ∧ ∀ y ∈ x.sp, 0 ≤ y ∧ y ≤ 999999 := by
  obtain ⟨h1, h2⟩ := h
  have hb := lenV_bd hr
  have hx : ∀ x ∈ l, x.sp.length ≤ 300 ∧ ∀ y ∈ x.sp, 0 ≤ y ∧ y ≤ 999999 := fun x hx => by
    obtain ⟨k', e⟩ := h2 x hx
    rw [e]
    unfold knownSplits
    refine ⟨by rw [ks_length]; omega, fun y hy => ?_⟩
    have := ksL_bdR _ _ _ (Int.le_refl 0) y hy
    omega
  have hl : l.length ≤ 4 := by have := h1.length_le; rw [List.length_map] at this; exact this
  refine ⟨?_, hx⟩
  have h9 := fdText_len (l.map swD) fun d hd => by
    obtain ⟨x, hxm, rfl⟩ := List.mem_map.1 hd
    have hw := h1.subset (List.mem_map.2 ⟨x, hxm, rfl⟩)
    refine ⟨?_, hx x hxm⟩
    show x.who.size ≤ 40
    simp only [keys4, List.mem_cons, List.not_mem_nil, or_false] at hw
    rcases hw with e | e | e | e <;> rw [e] <;> decide
  rw [List.length_map] at h9
  omega
end Go.Proofs.YtamcmehmcbjgjaaGreatDoor
