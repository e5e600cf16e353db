import Derived.Test.YtklggnglaeagpaaGreatDoorPTimeR
import Derived.Test.YtklggnglaeagpaaGreatDoorPDraws
import Derived.BigRegion
/- The stream's Changed: some string; the reference's Written. -/
namespace Go.Proofs.YtklggnglaeagpaaGreatDoor
open Go.RowKit
set_option linter.unusedVariables false

theorem enc_size (r : Int) : (Utf8.encode r).size ≤ 4 := by
  unfold Utf8.encode
  simp only []
  (repeat' split) <;> simp [ByteArray.size]
/-- what a maker of a string hands back -/
def RetSt (w : World) (g : Nat) (zs : Zs) (N K : Nat) (e : Ending) (w' : World) : Prop := ∃ (t : ByteArray) (k' : Nat), e = .returned (.string t) ∧ t.size ≤ N ∧ St w' g zs k' ∧ k' ≤ K ∧ w.grownBy w' (some g)
end Go.Proofs.YtklggnglaeagpaaGreatDoor

/- The stream's Changed of any text. -/
namespace Go.Proofs.YtklggnglaeagpaaGreatDoor
open Go.RowKit
set_option linter.unusedVariables false

set_option maxRecDepth 100000 in
theorem changedL_c (g : Nat) (zs : Zs) (k : Nat) (t wi : ByteArray) (w : World) (h : St w g zs k) (hk : k + 100 ≤ 1099511627776) (ht : t.size ≤ 1000000) (hw1 : 1 ≤ wi.size) (hw2 : wi.size ≤ 100) :
    Calls Tryz.prog 179 #[.pointer (some ⟨g, 0, none⟩), .string t, .string wi] w (RetSt w g zs (max (t.size + 4) wi.size) (k + 3)) := by
  have hlw : wi.toList.length = wi.size := by rw [ByteArray.toList_eq]; exact (Lib.size_eq wi).symm
  have hw3 : wi.toList.isEmpty = false := by
    cases hc : wi.toList.isEmpty
    · rfl
    · rw [List.isEmpty_iff] at hc; rw [hc] at hlw; simp at hlw; omega
  have hw4 : wi.toList ≠ [] := fun hc => by rw [hc] at hlw; simp at hlw; omega
  have hw5 : (wi.toList == ([] : List UInt8)) = false := by simpa using hw4
  clear hlw
  have hlen : t.toList.length = t.size := by rw [ByteArray.toList_eq]; exact (Lib.size_eq t).symm
  by_cases h0 : t.size = 0
  · have h1 : t.toList.isEmpty = true := by rw [List.isEmpty_iff]; exact List.eq_nil_of_length_eq_zero (by omega)
    go_enter Tryz.func179, Tryz.ntmps179
    go_wp2
    go_ret
    exact ⟨_, k, rfl, by omega, h, by omega, grown_refl _ _⟩
  · have h1 : t.toList.isEmpty = false := by
      cases hc : t.toList.isEmpty
      · rfl
      · rw [List.isEmpty_iff] at hc; rw [hc] at hlen; simp at hlen; omega
    go_enter Tryz.func179, Tryz.ntmps179
    go_wp2_with fail
    refine (nextE_c g zs k t.size _ h (by omega) (by omega) (by omega)).mono ?_; rintro e w1 ⟨v, rfl, v0, v1, s1, g1⟩
    obtain ⟨q, rfl⟩ : ∃ q : Nat, v = q := ⟨v.toNat, by omega⟩
    clear h
    go_wp2_with fail
    refine (nextE_c g zs _ wi.size _ s1 (by omega) (by omega) (by omega)).mono ?_; rintro e w2 ⟨v, rfl, v2, v3, s2, g2⟩
    obtain ⟨p, rfl⟩ : ∃ p : Nat, v = p := ⟨v.toNat, by omega⟩
    have gr2 := grown_trans g1 g2
    clear s1 g1 g2
    go_wp2_with fail
    have hp6 : p < wi.size := by omega
    generalize (wi[p]'hp6).toNat = c
    have hE := enc_size (IntKind.i32.wrap (c : Int))
    have y1 : ¬ 9223372036854775807 < q + (Utf8.encode (IntKind.i32.wrap (c : Int))).size := by omega
    have y2 : ¬ 9223372036854775807 < q + (Utf8.encode (IntKind.i32.wrap (c : Int))).size + (t.size - (q + 1)) := by omega
    have y3 : ¬ 9223372036854775807 < q + (Utf8.encode (IntKind.i32.wrap (c : Int))).size + (t.size - q) := by omega
    have hE2 := enc_size (wrap32 (c : Int))
    have y5 : ¬ 9223372036854775807 < q + (Utf8.encode (wrap32 (c : Int))).size := by omega
    have y6 : ¬ 9223372036854775807 < q + (Utf8.encode (wrap32 (c : Int))).size + (t.size - (q + 1)) := by omega
    have y7 : ¬ 9223372036854775807 < q + (Utf8.encode (wrap32 (c : Int))).size + (t.size - q) := by omega
    have y4 : ¬ 9223372036854775807 < q + (t.size - (q + 1)) := by omega
    refine (nextE_c g zs _ 3 _ s2 (by omega) (by decide) (by decide)).mono ?_; rintro e w3 ⟨v, rfl, v4, v5, s3, g3⟩
    have gr3 := grown_trans gr2 g3
    clear s2 g3 gr2
    have q1 : (q : Int) + 1 ≤ t.size := by omega
    have q2 : q + 1 ≤ t.size := by omega
    have q5 : (0 : Int) ≤ (q : Int) + 1 := by omega
    have q3 : q ≤ t.size := by omega
    have q4 : IntKind.i64.wrap ((q : Int) + 1) = (q : Int) + 1 := IntWalk.i64_in _ (by omega)
    have hv : v = 0 ∨ v = 1 ∨ v = 2 := by omega
    rcases hv with rfl | rfl | rfl
    · go_wp2_with fail
      go_region
      go_wp2
      go_ret
      exact ⟨_, _, rfl, by simp only [ByteArray.size_append, ByteArray.size_extract]; omega, s3.drew, by omega, grown_drew gr3⟩
    · go_wp2_with fail
      go_region
      go_wp2
      go_ret
      exact ⟨_, _, rfl, by simp only [ByteArray.size_append, ByteArray.size_extract]; omega, s3.drew, by omega, grown_drew gr3⟩
    · go_wp2_with fail
      go_region
      go_wp2
      go_ret
      exact ⟨_, _, rfl, by simp only [ByteArray.size_append, ByteArray.size_extract]; omega, s3.drew, by omega, grown_drew gr3⟩
end Go.Proofs.YtklggnglaeagpaaGreatDoor
