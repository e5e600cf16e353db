import Derived.Test.YtklggnglaeagpaaGreatDoorTimeR
import Derived.Test.YtklggnglaeagpaaGreatDoorDraws
import Derived.BigRegion
/- The stream's Changed: some string; the reference's Written. -/
namespace Go.Proofs.YtklggnglaeagpaaGreatDoor
open Go.RowKit
set_option linter.unusedVariables false

theorem enc_size (r : Int) : (Utf8.encode r).size ≤ 4 := by
  unfold Utf8.encode
  simp only []
  (repeat' split) <;> simp [ByteArray.size]
/-- what a maker of a string hands back -/
def RetSt (w : World) (g : Nat) (zs : Zs) (N K : Nat) (e : Ending) (w' : World) : Prop := ∃ (t : ByteArray) (k' : Nat), e = .returned (.string t) ∧ t.size ≤ N ∧ St w' g zs k' ∧ k' ≤ K ∧ w.grownBy w' (some g)
set_option maxRecDepth 100000 in
theorem twoR_c (n : Int) (w : World) (h0 : 0 ≤ n) (h1 : n < 100) : Calls Tryz.prog 285 #[.int .i64 n] w fun e w' => e = .returned (.string ⟨(digP (n / 10).toNat ++ digP (n % 10).toNat).toArray⟩) ∧ w' = w := by
  have i1 := Lib.hid (fun W => itoaD_c (n / 10) (by omega) (by omega) W)
  have i2 := Lib.hid (fun W => itoaD_c (n % 10) (by omega) (by omega) W)
  have z1 : (⟨(digP (n / 10).toNat).toArray⟩ : ByteArray).size ≤ 2 := by
    show (digP (n / 10).toNat).toArray.size ≤ 2
    rw [List.size_toArray]; exact digP_len _
  have z2 : (⟨(digP (n % 10).toNat).toArray⟩ : ByteArray).size ≤ 2 := by
    show (digP (n % 10).toNat).toArray.size ≤ 2
    rw [List.size_toArray]; exact digP_len _
  rw [← str_app]
  generalize (⟨(digP (n / 10).toNat).toArray⟩ : ByteArray) = D at *
  generalize (⟨(digP (n % 10).toNat).toArray⟩ : ByteArray) = S at *
  have y1 : ¬ (D.size + S.size > 9223372036854775807) := by omega
  have y2 : D.size + S.size ≤ 9223372036854775807 := by omega
  go_enter Tryz.func285, Tryz.ntmps285
  go_wp2_with fail
  refine (i1.out _).mono ?_; rintro e w' ⟨rfl, rfl⟩
  go_wp2_with fail
  refine (i2.out _).mono ?_; rintro e w' ⟨rfl, rfl⟩
  go_wp2
  go_ret
  exact ⟨rfl, rfl⟩
set_option maxRecDepth 100000 in
theorem writtenS_c (n : Int) (w : World) (h0 : 1 ≤ n) (h1 : n ≤ 360000) : Calls Tryz.prog 217 #[.int .i64 n] w fun e w' => ∃ t : ByteArray, e = .returned (.string t) ∧ t.size ≤ 8 ∧ w' = w := by
  have i1 := Lib.hid (fun W => itoaD_c (n / 100 % 60) (by omega) (by omega) W)
  have i2 := Lib.hid (fun W => itoaD_c (n / 6000) (by omega) (by omega) W)
  have t1 := Lib.hid (fun W => twoR_c (n % 100) W (by omega) (by omega))
  have t2 := Lib.hid (fun W => twoR_c (n / 100 % 60) W (by omega) (by omega))
  have zd : ∀ m, (⟨(digP m).toArray⟩ : ByteArray).size ≤ 2 := fun m => by
    show (digP m).toArray.size ≤ 2
    rw [List.size_toArray]; exact digP_len _
  have z1 : ∀ a b, a < 10 → b < 10 → (⟨(digP a ++ digP b).toArray⟩ : ByteArray).size = 2 := fun a b ha hb => by
    show (digP a ++ digP b).toArray.size = 2
    rw [List.size_toArray, List.length_append]
    unfold digP
    rw [if_pos ha, if_pos hb]; rfl
  have za := z1 (n % 100 / 10).toNat (n % 100 % 10).toNat (by omega) (by omega)
  have zb := z1 (n / 100 % 60 / 10).toNat (n / 100 % 60 % 10).toNat (by omega) (by omega)
  have zc := zd (n / 100 % 60).toNat
  have ze := zd (n / 6000).toNat
  generalize (⟨(digP (n % 100 / 10).toNat ++ digP (n % 100 % 10).toNat).toArray⟩ : ByteArray) = S1 at *
  generalize (⟨(digP (n / 100 % 60 / 10).toNat ++ digP (n / 100 % 60 % 10).toNat).toArray⟩ : ByteArray) = S2 at *
  generalize (⟨(digP (n / 100 % 60).toNat).toArray⟩ : ByteArray) = D1 at *
  generalize (⟨(digP (n / 6000).toNat).toArray⟩ : ByteArray) = D2 at *
  clear zd z1
  have y1 : D1.size + 1 ≤ 9223372036854775807 := by omega
  have y2 : D1.size + 1 + 2 ≤ 9223372036854775807 := by omega
  have y3 : D2.size + 1 ≤ 9223372036854775807 := by omega
  have y4 : D2.size + 1 + 2 ≤ 9223372036854775807 := by omega
  have y5 : D2.size + 1 + 2 + 1 ≤ 9223372036854775807 := by omega
  have y6 : D2.size + 1 + 2 + 1 + 2 ≤ 9223372036854775807 := by omega
  have hx : (D1 ++ ⟨#[46]⟩ ++ S1).size ≤ 8 := by simp only [ByteArray.size_append, za]; show D1.size + 1 + 2 ≤ 8; omega
  have hy : (D2 ++ ⟨#[58]⟩ ++ S2 ++ ⟨#[46]⟩ ++ S1).size ≤ 8 := by simp only [ByteArray.size_append, za, zb]; show D2.size + 1 + 2 + 1 + 2 ≤ 8; omega
  have hx' := Lib.hid hx
  have hy' := Lib.hid hy
  clear hx hy zc ze
  go_enter Tryz.func217, Tryz.ntmps217
  go_wp2_with fail
  refine (i1.out _).mono ?_; rintro e w' ⟨rfl, rfl⟩
  go_wp2_with fail
  refine (t1.out _).mono ?_; rintro e w' ⟨rfl, rfl⟩
  by_cases hl : n < 6000
  · go_wp2
    go_ret
    exact ⟨_, rfl, hx'.out, rfl⟩
  · go_wp2_with fail
    refine (i2.out _).mono ?_; rintro e w' ⟨rfl, rfl⟩
    go_wp2_with fail
    refine (t2.out _).mono ?_; rintro e w' ⟨rfl, rfl⟩
    go_wp2_with fail
    refine (t1.out _).mono ?_; rintro e w' ⟨rfl, rfl⟩
    go_wp2
    go_ret
    exact ⟨_, rfl, hy'.out, rfl⟩
set_option maxRecDepth 100000 in
theorem changed_c (g : Nat) (zs : Zs) (k : Nat) (t : ByteArray) (w : World) (h : St w g zs k) (hk : k + 100 ≤ 1099511627776) (ht : t.size ≤ 14) :
    Calls Tryz.prog 179 #[.pointer (some ⟨g, 0, none⟩), .string t, .string ⟨#[48, 58, 46, 49, 57, 45]⟩] w (RetSt w g zs (max (t.size + 4) 6) (k + 3)) := by
  have hlen : t.toList.length = t.size := by rw [ByteArray.toList_eq]; exact (Lib.size_eq t).symm
  by_cases h0 : t.size = 0
  · have h1 : t.toList.isEmpty = true := by rw [List.isEmpty_iff]; exact List.eq_nil_of_length_eq_zero (by omega)
    go_enter Tryz.func179, Tryz.ntmps179
    go_wp2
    go_ret
    exact ⟨_, k, rfl, by show 6 ≤ _; omega, h, by omega, grown_refl _ _⟩
  · have h1 : t.toList.isEmpty = false := by
      cases hc : t.toList.isEmpty
      · rfl
      · rw [List.isEmpty_iff] at hc; rw [hc] at hlen; simp at hlen; omega
    go_enter Tryz.func179, Tryz.ntmps179
    go_wp2_with fail
    refine (nextE_c g zs k t.size _ h (by omega) (by omega) (by omega)).mono ?_; rintro e w1 ⟨v, rfl, v0, v1, s1, g1⟩
    obtain ⟨q, rfl⟩ : ∃ q : Nat, v = q := ⟨v.toNat, by omega⟩
    clear h
    go_wp2_with fail
    refine (nextE_c g zs _ 6 _ s1 (by omega) (by decide) (by decide)).mono ?_; rintro e w2 ⟨v, rfl, v2, v3, s2, g2⟩
    obtain ⟨p, rfl⟩ : ∃ p : Nat, v = p := ⟨v.toNat, by omega⟩
    have gr2 := grown_trans g1 g2
    clear s1 g1 g2
    go_wp2_with fail
    have hp6 : p < (ByteArray.mk #[48, 58, 46, 49, 57, 45]).size := by show p < 6; omega
    generalize ((ByteArray.mk #[48, 58, 46, 49, 57, 45])[p]'hp6).toNat = c
    have hE := enc_size (IntKind.i32.wrap (c : Int))
    have y1 : ¬ 9223372036854775807 < q + (Utf8.encode (IntKind.i32.wrap (c : Int))).size := by omega
    have y2 : ¬ 9223372036854775807 < q + (Utf8.encode (IntKind.i32.wrap (c : Int))).size + (t.size - (q + 1)) := by omega
    have y3 : ¬ 9223372036854775807 < q + (Utf8.encode (IntKind.i32.wrap (c : Int))).size + (t.size - q) := by omega
    have hE2 := enc_size (wrap32 (c : Int))
    have y5 : ¬ 9223372036854775807 < q + (Utf8.encode (wrap32 (c : Int))).size := by omega
    have y6 : ¬ 9223372036854775807 < q + (Utf8.encode (wrap32 (c : Int))).size + (t.size - (q + 1)) := by omega
    have y7 : ¬ 9223372036854775807 < q + (Utf8.encode (wrap32 (c : Int))).size + (t.size - q) := by omega
    have y4 : ¬ 9223372036854775807 < q + (t.size - (q + 1)) := by omega
    refine (nextE_c g zs _ 3 _ s2 (by omega) (by decide) (by decide)).mono ?_; rintro e w3 ⟨v, rfl, v4, v5, s3, g3⟩
    have gr3 := grown_trans gr2 g3
    clear s2 g3 gr2
    have q1 : (q : Int) + 1 ≤ t.size := by omega
    have q2 : q + 1 ≤ t.size := by omega
    have q5 : (0 : Int) ≤ (q : Int) + 1 := by omega
    have q3 : q ≤ t.size := by omega
    have q4 : IntKind.i64.wrap ((q : Int) + 1) = (q : Int) + 1 := IntWalk.i64_in _ (by omega)
    have hv : v = 0 ∨ v = 1 ∨ v = 2 := by omega
    rcases hv with rfl | rfl | rfl
    · go_wp2_with fail
      go_region
      go_wp2
      go_ret
      exact ⟨_, _, rfl, by simp only [ByteArray.size_append, ByteArray.size_extract]; omega, s3.drew, by omega, grown_drew gr3⟩
    · go_wp2_with fail
      go_region
      go_wp2
      go_ret
      exact ⟨_, _, rfl, by simp only [ByteArray.size_append, ByteArray.size_extract]; omega, s3.drew, by omega, grown_drew gr3⟩
    · go_wp2_with fail
      go_region
      go_wp2
      go_ret
      exact ⟨_, _, rfl, by simp only [ByteArray.size_append, ByteArray.size_extract]; omega, s3.drew, by omega, grown_drew gr3⟩
end Go.Proofs.YtklggnglaeagpaaGreatDoor

/- The stream's Changed of any text. -/
namespace Go.Proofs.YtklggnglaeagpaaGreatDoor
open Go.RowKit
set_option linter.unusedVariables false

set_option maxRecDepth 100000 in
theorem changedL_c (g : Nat) (zs : Zs) (k : Nat) (t wi : ByteArray) (w : World) (h : St w g zs k) (hk : k + 100 ≤ 1099511627776) (ht : t.size ≤ 1000000) (hw1 : 1 ≤ wi.size) (hw2 : wi.size ≤ 100) :
    Calls Tryz.prog 179 #[.pointer (some ⟨g, 0, none⟩), .string t, .string wi] w (RetSt w g zs (max (t.size + 4) wi.size) (k + 3)) := by
  have hlw : wi.toList.length = wi.size := by rw [ByteArray.toList_eq]; exact (Lib.size_eq wi).symm
  have hw3 : wi.toList.isEmpty = false := by
    cases hc : wi.toList.isEmpty
    · rfl
    · rw [List.isEmpty_iff] at hc; rw [hc] at hlw; simp at hlw; omega
  have hw4 : wi.toList ≠ [] := fun hc => by rw [hc] at hlw; simp at hlw; omega
  have hw5 : (wi.toList == ([] : List UInt8)) = false := by simpa using hw4
  clear hlw
  have hlen : t.toList.length = t.size := by rw [ByteArray.toList_eq]; exact (Lib.size_eq t).symm
  by_cases h0 : t.size = 0
  · have h1 : t.toList.isEmpty = true := by rw [List.isEmpty_iff]; exact List.eq_nil_of_length_eq_zero (by omega)
    go_enter Tryz.func179, Tryz.ntmps179
    go_wp2
    go_ret
    exact ⟨_, k, rfl, by omega, h, by omega, grown_refl _ _⟩
  · have h1 : t.toList.isEmpty = false := by
      cases hc : t.toList.isEmpty
      · rfl
      · rw [List.isEmpty_iff] at hc; rw [hc] at hlen; simp at hlen; omega
    go_enter Tryz.func179, Tryz.ntmps179
    go_wp2_with fail
    refine (nextE_c g zs k t.size _ h (by omega) (by omega) (by omega)).mono ?_; rintro e w1 ⟨v, rfl, v0, v1, s1, g1⟩
    obtain ⟨q, rfl⟩ : ∃ q : Nat, v = q := ⟨v.toNat, by omega⟩
    clear h
    go_wp2_with fail
    refine (nextE_c g zs _ wi.size _ s1 (by omega) (by omega) (by omega)).mono ?_; rintro e w2 ⟨v, rfl, v2, v3, s2, g2⟩
    obtain ⟨p, rfl⟩ : ∃ p : Nat, v = p := ⟨v.toNat, by omega⟩
    have gr2 := grown_trans g1 g2
    clear s1 g1 g2
    go_wp2_with fail
    have hp6 : p < wi.size := by omega
    generalize (wi[p]'hp6).toNat = c
    have hE := enc_size (IntKind.i32.wrap (c : Int))
    have y1 : ¬ 9223372036854775807 < q + (Utf8.encode (IntKind.i32.wrap (c : Int))).size := by omega
    have y2 : ¬ 9223372036854775807 < q + (Utf8.encode (IntKind.i32.wrap (c : Int))).size + (t.size - (q + 1)) := by omega
    have y3 : ¬ 9223372036854775807 < q + (Utf8.encode (IntKind.i32.wrap (c : Int))).size + (t.size - q) := by omega
    have hE2 := enc_size (wrap32 (c : Int))
    have y5 : ¬ 9223372036854775807 < q + (Utf8.encode (wrap32 (c : Int))).size := by omega
    have y6 : ¬ 9223372036854775807 < q + (Utf8.encode (wrap32 (c : Int))).size + (t.size - (q + 1)) := by omega
    have y7 : ¬ 9223372036854775807 < q + (Utf8.encode (wrap32 (c : Int))).size + (t.size - q) := by omega
    have y4 : ¬ 9223372036854775807 < q + (t.size - (q + 1)) := by omega
    refine (nextE_c g zs _ 3 _ s2 (by omega) (by decide) (by decide)).mono ?_; rintro e w3 ⟨v, rfl, v4, v5, s3, g3⟩
    have gr3 := grown_trans gr2 g3
    clear s2 g3 gr2
    have q1 : (q : Int) + 1 ≤ t.size := by omega
    have q2 : q + 1 ≤ t.size := by omega
    have q5 : (0 : Int) ≤ (q : Int) + 1 := by omega
    have q3 : q ≤ t.size := by omega
    have q4 : IntKind.i64.wrap ((q : Int) + 1) = (q : Int) + 1 := IntWalk.i64_in _ (by omega)
    have hv : v = 0 ∨ v = 1 ∨ v = 2 := by omega
    rcases hv with rfl | rfl | rfl
    · go_wp2_with fail
      go_region
      go_wp2
      go_ret
      exact ⟨_, _, rfl, by simp only [ByteArray.size_append, ByteArray.size_extract]; omega, s3.drew, by omega, grown_drew gr3⟩
    · go_wp2_with fail
      go_region
      go_wp2
      go_ret
      exact ⟨_, _, rfl, by simp only [ByteArray.size_append, ByteArray.size_extract]; omega, s3.drew, by omega, grown_drew gr3⟩
    · go_wp2_with fail
      go_region
      go_wp2
      go_ret
      exact ⟨_, _, rfl, by simp only [ByteArray.size_append, ByteArray.size_extract]; omega, s3.drew, by omega, grown_drew gr3⟩
end Go.Proofs.YtklggnglaeagpaaGreatDoor
