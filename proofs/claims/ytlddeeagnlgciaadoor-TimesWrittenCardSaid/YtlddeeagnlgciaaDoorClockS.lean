/- The stream's ClockString: some string of at most 16 bytes. -/
import Derived.Test.YtlddeeagnlgciaaDoorTimeW
import Derived.Test.YtlddeeagnlgciaaDoorDraws
import Derived.BigRegion
namespace Go.Proofs.YtlddeeagnlgciaaDoor
open Go.RowKit
set_option linter.unusedVariables false

theorem enc_size (r : Int) : (Utf8.encode r).size ≤ 4 := by
  unfold Utf8.encode
  simp only []
  (repeat' split) <;> simp [ByteArray.size]
/-- what a maker of a string hands back -/
def RetSt (w : World) (g : Nat) (zs : List Int) (N K : Nat) (e : Ending) (w' : World) : Prop := ∃ (t : ByteArray) (k' : Nat), e = .returned (.string t) ∧ t.size ≤ N ∧ St w' g zs k' ∧ k' ≤ K ∧ w.grownBy w' (some g)
set_option maxRecDepth 100000 in
theorem twoR_c (n : Int) (w : World) (h0 : 0 ≤ n) (h1 : n < 100) : Calls Tryd.prog 58 #[.int .i64 n] w fun e w' => e = .returned (.string ⟨(digP (n / 10).toNat ++ digP (n % 10).toNat).toArray⟩) ∧ w' = w := by
  have i1 := Lib.hid (fun W => itoaD_c (n / 10) (by omega) (by omega) W)
  have i2 := Lib.hid (fun W => itoaD_c (n % 10) (by omega) (by omega) W)
  have z1 : (⟨(digP (n / 10).toNat).toArray⟩ : ByteArray).size ≤ 2 := by
    show (digP (n / 10).toNat).toArray.size ≤ 2
    rw [List.size_toArray]; exact digP_len _
  have z2 : (⟨(digP (n % 10).toNat).toArray⟩ : ByteArray).size ≤ 2 := by
    show (digP (n % 10).toNat).toArray.size ≤ 2
    rw [List.size_toArray]; exact digP_len _
  rw [← str_app]
  generalize (⟨(digP (n / 10).toNat).toArray⟩ : ByteArray) = D at *
  generalize (⟨(digP (n % 10).toNat).toArray⟩ : ByteArray) = S at *
  have y1 : ¬ (D.size + S.size > 9223372036854775807) := by omega
  have y2 : D.size + S.size ≤ 9223372036854775807 := by omega
  go_enter Tryd.func58, Tryd.ntmps58
  go_wp2_with fail
  refine (i1.out _).mono ?_; rintro e w' ⟨rfl, rfl⟩
  go_wp2_with fail
  refine (i2.out _).mono ?_; rintro e w' ⟨rfl, rfl⟩
  go_wp2
  go_ret
  exact ⟨rfl, rfl⟩
set_option maxRecDepth 100000 in
theorem writtenS_c (n : Int) (w : World) (h0 : 1 ≤ n) (h1 : n ≤ 360000) : Calls Tryd.prog 11 #[.int .i64 n] w fun e w' => ∃ t : ByteArray, e = .returned (.string t) ∧ t.size ≤ 8 ∧ w' = w := by
  have i1 := Lib.hid (fun W => itoaD_c (n / 100 % 60) (by omega) (by omega) W)
  have i2 := Lib.hid (fun W => itoaD_c (n / 6000) (by omega) (by omega) W)
  have t1 := Lib.hid (fun W => twoR_c (n % 100) W (by omega) (by omega))
  have t2 := Lib.hid (fun W => twoR_c (n / 100 % 60) W (by omega) (by omega))
  have zd : ∀ m, (⟨(digP m).toArray⟩ : ByteArray).size ≤ 2 := fun m => by
    show (digP m).toArray.size ≤ 2
    rw [List.size_toArray]; exact digP_len _
  have z1 : ∀ a b, a < 10 → b < 10 → (⟨(digP a ++ digP b).toArray⟩ : ByteArray).size = 2 := fun a b ha hb => by
    show (digP a ++ digP b).toArray.size = 2
    rw [List.size_toArray, List.length_append]
    unfold digP
    rw [if_pos ha, if_pos hb]; rfl
  have za := z1 (n % 100 / 10).toNat (n % 100 % 10).toNat (by omega) (by omega)
  have zb := z1 (n / 100 % 60 / 10).toNat (n / 100 % 60 % 10).toNat (by omega) (by omega)
  have zc := zd (n / 100 % 60).toNat
  have ze := zd (n / 6000).toNat
  generalize (⟨(digP (n % 100 / 10).toNat ++ digP (n % 100 % 10).toNat).toArray⟩ : ByteArray) = S1 at *
  generalize (⟨(digP (n / 100 % 60 / 10).toNat ++ digP (n / 100 % 60 % 10).toNat).toArray⟩ : ByteArray) = S2 at *
  generalize (⟨(digP (n / 100 % 60).toNat).toArray⟩ : ByteArray) = D1 at *
  generalize (⟨(digP (n / 6000).toNat).toArray⟩ : ByteArray) = D2 at *
  clear zd z1
  have y1 : D1.size + 1 ≤ 9223372036854775807 := by omega
  have y2 : D1.size + 1 + 2 ≤ 9223372036854775807 := by omega
  have y3 : D2.size + 1 ≤ 9223372036854775807 := by omega
  have y4 : D2.size + 1 + 2 ≤ 9223372036854775807 := by omega
  have y5 : D2.size + 1 + 2 + 1 ≤ 9223372036854775807 := by omega
  have y6 : D2.size + 1 + 2 + 1 + 2 ≤ 9223372036854775807 := by omega
  have hx : (D1 ++ ⟨#[46]⟩ ++ S1).size ≤ 8 := by simp only [ByteArray.size_append, za]; show D1.size + 1 + 2 ≤ 8; omega
  have hy : (D2 ++ ⟨#[58]⟩ ++ S2 ++ ⟨#[46]⟩ ++ S1).size ≤ 8 := by simp only [ByteArray.size_append, za, zb]; show D2.size + 1 + 2 + 1 + 2 ≤ 8; omega
  have hx' := Lib.hid hx
  have hy' := Lib.hid hy
  clear hx hy zc ze
  go_enter Tryd.func11, Tryd.ntmps11
  go_wp2_with fail
  refine (i1.out _).mono ?_; rintro e w' ⟨rfl, rfl⟩
  go_wp2_with fail
  refine (t1.out _).mono ?_; rintro e w' ⟨rfl, rfl⟩
  by_cases hl : n < 6000
  · go_wp2
    go_ret
    exact ⟨_, rfl, hx'.out, rfl⟩
  · go_wp2_with fail
    refine (i2.out _).mono ?_; rintro e w' ⟨rfl, rfl⟩
    go_wp2_with fail
    refine (t2.out _).mono ?_; rintro e w' ⟨rfl, rfl⟩
    go_wp2_with fail
    refine (t1.out _).mono ?_; rintro e w' ⟨rfl, rfl⟩
    go_wp2
    go_ret
    exact ⟨_, rfl, hy'.out, rfl⟩
set_option maxRecDepth 100000 in
theorem changed_c (g : Nat) (zs : List Int) (k : Nat) (t : ByteArray) (w : World) (h : St w g zs k) (hk : k + 100 ≤ 1099511627776) (ht : t.size ≤ 14) :
    Calls Tryd.prog 51 #[.pointer (some ⟨g, 0, none⟩), .string t, .string ⟨#[48, 58, 46, 49, 57, 45]⟩] w (RetSt w g zs (max (t.size + 4) 6) (k + 3)) := by
  have hlen : t.toList.length = t.size := by rw [ByteArray.toList_eq]; exact (Lib.size_eq t).symm
  by_cases h0 : t.size = 0
  · have h1 : t.toList.isEmpty = true := by rw [List.isEmpty_iff]; exact List.eq_nil_of_length_eq_zero (by omega)
    go_enter Tryd.func51, Tryd.ntmps51
    go_wp2
    go_ret
    exact ⟨_, k, rfl, by show 6 ≤ _; omega, h, by omega, grown_refl _ _⟩
  · have h1 : t.toList.isEmpty = false := by
      cases hc : t.toList.isEmpty
      · rfl
      · rw [List.isEmpty_iff] at hc; rw [hc] at hlen; simp at hlen; omega
    go_enter Tryd.func51, Tryd.ntmps51
    go_wp2_with fail
    refine (nextE_c g zs k t.size _ h (by omega) (by omega) (by omega)).mono ?_; rintro e w1 ⟨v, rfl, v0, v1, s1, g1⟩
    obtain ⟨q, rfl⟩ : ∃ q : Nat, v = q := ⟨v.toNat, by omega⟩
    clear h
    go_wp2_with fail
    refine (nextE_c g zs _ 6 _ s1 (by omega) (by decide) (by decide)).mono ?_; rintro e w2 ⟨v, rfl, v2, v3, s2, g2⟩
    obtain ⟨p, rfl⟩ : ∃ p : Nat, v = p := ⟨v.toNat, by omega⟩
    have gr2 := grown_trans g1 g2
    clear s1 g1 g2
    go_wp2_with fail
    have hp6 : p < (ByteArray.mk #[48, 58, 46, 49, 57, 45]).size := by show p < 6; omega
    generalize ((ByteArray.mk #[48, 58, 46, 49, 57, 45])[p]'hp6).toNat = c
    have hE := enc_size (IntKind.i32.wrap (c : Int))
    have y1 : ¬ 9223372036854775807 < q + (Utf8.encode (IntKind.i32.wrap (c : Int))).size := by omega
    have y2 : ¬ 9223372036854775807 < q + (Utf8.encode (IntKind.i32.wrap (c : Int))).size + (t.size - (q + 1)) := by omega
    have y3 : ¬ 9223372036854775807 < q + (Utf8.encode (IntKind.i32.wrap (c : Int))).size + (t.size - q) := by omega
    have hE2 := enc_size (wrap32 (c : Int))
    have y5 : ¬ 9223372036854775807 < q + (Utf8.encode (wrap32 (c : Int))).size := by omega
    have y6 : ¬ 9223372036854775807 < q + (Utf8.encode (wrap32 (c : Int))).size + (t.size - (q + 1)) := by omega
    have y7 : ¬ 9223372036854775807 < q + (Utf8.encode (wrap32 (c : Int))).size + (t.size - q) := by omega
    have y4 : ¬ 9223372036854775807 < q + (t.size - (q + 1)) := by omega
    refine (nextE_c g zs _ 3 _ s2 (by omega) (by decide) (by decide)).mono ?_; rintro e w3 ⟨v, rfl, v4, v5, s3, g3⟩
    have gr3 := grown_trans gr2 g3
    clear s2 g3 gr2
    have q1 : (q : Int) + 1 ≤ t.size := by omega
    have q2 : q + 1 ≤ t.size := by omega
    have q5 : (0 : Int) ≤ (q : Int) + 1 := by omega
    have q3 : q ≤ t.size := by omega
    have q4 : IntKind.i64.wrap ((q : Int) + 1) = (q : Int) + 1 := IntWalk.i64_in _ (by omega)
    have hv : v = 0 ∨ v = 1 ∨ v = 2 := by omega
    rcases hv with rfl | rfl | rfl
    · go_wp2_with fail
      go_region
      go_wp2
      go_ret
      exact ⟨_, _, rfl, by simp only [ByteArray.size_append, ByteArray.size_extract]; omega, s3.drew, by omega, grown_drew gr3⟩
    · go_wp2_with fail
      go_region
      go_wp2
      go_ret
      exact ⟨_, _, rfl, by simp only [ByteArray.size_append, ByteArray.size_extract]; omega, s3.drew, by omega, grown_drew gr3⟩
    · go_wp2_with fail
      go_region
      go_wp2
      go_ret
      exact ⟨_, _, rfl, by simp only [ByteArray.size_append, ByteArray.size_extract]; omega, s3.drew, by omega, grown_drew gr3⟩
set_option maxHeartbeats 1600000 in
set_option maxRecDepth 100000 in
theorem clockString_c (g : Nat) (zs : List Int) (k : Nat) (w : World) (h : St w g zs k) (hk : k + 1000 ≤ 1099511627776) :
    Calls Tryd.prog 7 #[.pointer (some ⟨g, 0, none⟩)] w (RetSt w g zs 16 (k + 20)) := by
  have hglt := h.lt
  go_enter Tryd.func7, Tryd.ntmps7
  go_wp2_with fail
  refine (pickE_c g zs k _ _ _ [200, 7000, 360000] _ (h.alloc _) (by omega) (R1.litAt _ _ _ _ (by first | rfl | (simp; done)) (by simp) (by simp)) (by decide)).mono ?_; rintro e w1 ⟨v, rfl, hv, s1, g1⟩
  have hv2 : 200 ≤ v ∧ v ≤ 360000 := by simp at hv; omega
  have gr1 := grown_trans (grown_alloc (grown_refl w (some g)) _) g1
  clear h g1 hv
  go_wp2_with fail
  refine (rangeE_c g zs _ 1 v _ s1 (by omega) (by omega) (by omega) (by omega)).mono ?_; rintro e w2 ⟨n, rfl, n0, n1, s2, g2⟩
  have gr2 := grown_trans gr1 g2
  clear s1 g2 gr1
  go_wp2_with fail
  refine (writtenS_c n _ n0 (by omega)).mono ?_; rintro e w' ⟨t, rfl, ht, rfl⟩
  go_wp2_with fail
  refine (pickE_c g zs _ _ _ _ [0, 0, 1, 1, 2] _ (s2.alloc _) (by omega) (R1.litAt _ _ _ _ (by first | rfl | (simp; done)) (by simp) (by simp)) (by decide)).mono ?_; rintro e w3 ⟨m, rfl, hm, s3, g3⟩
  have hm2 : 0 ≤ m ∧ m ≤ 2 := by simp at hm; omega
  have gr3 := grown_trans (grown_alloc gr2 _) g3
  obtain ⟨N, rfl⟩ : ∃ N : Nat, m = N := ⟨m.toNat, by omega⟩
  clear s2 g3 gr2 hm
  go_wp2_with fail
  go_loopw [3, 13] (fun u i wr => ∃ (j k2 : Nat) (t : ByteArray), j ≤ N ∧ i = .int .i64 j ∧ u = .string t ∧ t.size ≤ 8 + 4 * j ∧ k2 ≤ k + 3 + 3 * j ∧ St wr g zs k2 ∧ w.grownBy wr (some g)) (fun _ i _ => N - (intOf i).toNat)
  case atStart => exact ⟨0, _, t, Nat.zero_le _, rfl, rfl, by omega, by omega, s3, gr3⟩
  case round =>
    clear s3 gr3 ht
    obtain ⟨j, k2, t, hj, rfl, rfl, ht, hk2, hst, hgr⟩ := hrel
    by_cases hlt : j < N
    · go_wp2_with fail
      refine (changed_c g zs k2 t _ hst (by omega) (by omega)).mono ?_; rintro e w5 ⟨t2, k3, rfl, ht2, s5, hk3, g5⟩
      have gr5 := grown_trans hgr g5
      clear hst hgr g5
      go_wp2_with fail
      go_roundw
      case rel => exact ⟨j + 1, k3, t2, by omega, by go_num, rfl, by omega, by omega, s5, gr5⟩
      case measure => simp [intOf]; omega
    · obtain rfl : j = N := by omega
      go_wp2
      go_ret
      exact ⟨t, k2, rfl, by omega, hst, by omega, hgr⟩
end Go.Proofs.YtlddeeagnlgciaaDoor
