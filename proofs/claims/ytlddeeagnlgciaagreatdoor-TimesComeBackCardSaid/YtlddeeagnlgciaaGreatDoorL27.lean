/- TimesComeBack: a time that is written is read as it was; what is read is written so: the walk. -/
import Derived.Test.YtlddeeagnlgciaaGreatDoorClockS
import Derived.Test.YtlddeeagnlgciaaGreatDoorReady
namespace Go.Proofs.YtlddeeagnlgciaaGreatDoor
open Go.RowKit
set_option linter.unusedVariables false

theorem mx_of_shape {W : World} (h : W.ShapedOpen Tryz.prog) : Mx W := Tryz.laysM145.s1_3 W h
theorem write_size (n : Nat) (h : n ≤ 360000) : (⟨(writeP n).toArray⟩ : ByteArray).size ≤ 18 := by
  show (writeP n).toArray.size ≤ 18
  rw [List.size_toArray]
  unfold writeP
  have h1 := digP_len (n / 100)
  have h2 := digP_len (n / 6000)
  split <;> simp [twoP] <;> omega
set_option maxHeartbeats 1600000 in
set_option maxRecDepth 100000 in
theorem timesComeBack_walk (a0 : Option Addr) (len0 cap0 : Nat) (z0 : List Int) (w : World) (w0 : IsRow .i64 w a0 len0 cap0 z0) (hmx : Mx w) :
    Calls Tryz.prog 8 #[.slice a0 len0 cap0] w fun e w' => e = .returned (.bool true) ∧ Below w.heap.size w w' := by
  have hs := law_start w0
  clear w0
  generalize z0.take len0 = zs at *
  go_enter Tryz.func8, Tryz.ntmps8
  go_wp2_with fail
  have hs' : St (w.alloc (.cells #[.slice a0 len0 cap0, .int .i64 0] 25)) w.heap.size zs 0 := hs
  refine (rangeE_c _ zs 0 1 360000 _ hs' (by omega) (by decide) (by decide) (by decide)).mono ?_; rintro e w1 ⟨n, rfl, n0, n1, s1, g1⟩
  have hB1 := (below_new w (.cells #[.slice a0 len0 cap0, .int .i64 0] 25)).trans (grown_below g1 (Nat.le_refl _) (by simp))
  clear hs hs' g1
  go_wp2_with fail
  refine (clockString_c _ zs _ _ s1 (by omega)).mono ?_; rintro e w2 ⟨t, k2, rfl, ht, s2, hk2, g2⟩
  have hB2 := hB1.trans (grown_below g2 (Nat.le_refl _) hB1.size)
  have hm2 := hmx.below hB2
  clear s1 g2 s2 hB1 hmx hk2
  have hw1 := Lib.hid (fun W => write_c n W n0 n1)
  have hp1 := Lib.hid (fun W h => parse_c ⟨(writeP n.toNat).toArray⟩ W (write_size n.toNat (by omega)) h)
  have he : parseP (⟨(writeP n.toNat).toArray⟩ : ByteArray).data.toList = (n, 0) := by
    have := write_parse (n := n.toNat) (by omega) (by omega)
    rw [show ((n.toNat : Nat) : Int) = n by omega] at this
    simpa using this
  rw [he] at hp1
  have hp2 := Lib.hid (fun W h => parse_c t W (by omega) h)
  have hpw := Lib.hid (fun v (h : parseP t.data.toList = (v, 0)) => parse_write h)
  clear he
  generalize (⟨(writeP n.toNat).toArray⟩ : ByteArray) = tn at *
  go_wp2_with fail
  refine (hw1.out _).mono ?_; rintro e w3 ⟨rfl, B3⟩
  have hm3 := hm2.below B3
  have hB3 := below_next hB2 B3
  clear hm2 hB2 B3 hw1
  go_wp2_with fail
  refine (hp1.out _ hm3).mono ?_; rintro e w4 ⟨rfl, B4⟩
  have hm4 := hm3.below B4
  have hB4 := below_next hB3 B4
  clear hm3 hB3 B4 hp1
  go_wp2_with fail
  refine (hp2.out _ hm4).mono ?_; rintro e w5 ⟨rfl, B5⟩
  have hB5 := below_next hB4 B5
  clear hm4 hB4 B5 hp2
  rcases hP : parseP t.data.toList with ⟨v, f⟩
  rw [hP] at hpw
  dsimp only
  clear hP
  by_cases hf : f = 0
  · subst hf
    obtain ⟨v1, v2, v3⟩ := hpw.out v rfl
    have hw2 := Lib.hid (fun W => write_c v W v1 v2)
    have ht2 : (⟨(writeP v.toNat).toArray⟩ : ByteArray) = t := by rw [v3]
    rw [ht2] at hw2
    clear hpw v3 ht2
    go_wp2_with fail
    refine (hw2.out _).mono ?_; rintro e w6 ⟨rfl, B6⟩
    have hB6 := below_next hB5 B6
    clear hB5 B6 hw2
    go_wp2_with fail
    refine (ready_c _).mono ?_; rintro e w7 ⟨rfl, B7⟩
    have hBB := below_next hB6 B7
    go_wp2
    go_ret
    exact ⟨rfl, hBB⟩
  · have hf2 : (f == 0) = false := beq_eq_false_iff_ne.2 hf
    clear hpw
    go_wp2_with fail
    refine (ready_c _).mono ?_; rintro e w7 ⟨rfl, B7⟩
    have hBB := below_next hB5 B7
    go_wp2
    go_ret
    exact ⟨rfl, hBB⟩
end Go.Proofs.YtlddeeagnlgciaaGreatDoor
