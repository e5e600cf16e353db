/- The stream's StartString; bounds of right starts. -/
import Derived.Test.YtklggnglaeagpaaGreatDoorPStaB
import Derived.Test.YtklggnglaeagpaaGreatDoorPTxtL
import Derived.Test.YtklggnglaeagpaaGreatDoorPTxtV
namespace Go.Proofs.YtklggnglaeagpaaGreatDoor
open Go.RowKit Go.Lib
set_option linter.unusedVariables false

theorem itoa64_len {y : Int} (h0 : -9223372036854775808 ≤ y) (h1 : y ≤ 9223372036854775807) : (itoa y).length ≤ 20 := by
  have h := dd_le (u := y.natAbs) (k := 19) (by decide) (by have e : (10 : Nat) ^ 19 = 10000000000000000000 := rfl; omega)
  unfold itoa
  split
  · simp only [List.length_cons]; have : (-y).toNat = y.natAbs := by omega
    first | (rw [this]; omega) | omega
  · have : y.toNat = y.natAbs := by omega
    rw [this]; omega
theorem stText_len : ∀ (L : List Sp), (∀ x ∈ L, SpBd x) → (stText L).length ≤ 143 * L.length
  | [], _ => by simp [stText]
  | d :: L, h => by
    obtain ⟨h1, h2, h3⟩ := h d (List.mem_cons_self ..)
    have ih := stText_len L fun z hz => h z (List.mem_cons_of_mem _ hz)
    have hs : d.who.data.toList.length = d.who.size := Array.length_toList
    have g2 := itoa64_len h2.1 h2.2
    have g3 := itoa64_len h3.1 h3.2
    have e : stText (d :: L) = (stLine d ++ [10]) ++ stText L := rfl
    rw [e]
    unfold stLine
    simp only [List.length_append, List.length_cons, List.length_nil]
    omega
theorem startsGo_all {p : Pl} : ∀ (l : List Sp) (seen : List ByteArray) (tw gap : Bool) (last : Int) (prev : Option Sp), startsGo p seen tw gap last prev l = 0 → ∀ x ∈ l, keyB x.who = true ∧ (1 ≤ x.heat ∧ x.heat ≤ 60) ∧ (p.lo ≤ x.lane ∧ x.lane ≤ p.hi)
  | [], _, _, _, _, _, _, x, hx => by cases hx
  | y :: l, seen, tw, gap, last, prev, h, x, hx => by
    unfold startsGo at h
    by_cases h1 : stErr p prev y ≠ 0
    · rw [if_pos h1] at h; exact absurd h h1
    · rw [if_neg h1] at h
      rcases List.mem_cons.1 hx with rfl | hx
      · exact stErr_ok (Decidable.not_not.1 h1)
      · exact startsGo_all l _ _ _ _ _ h x hx
/-- right starts: within bounds, their text short, and they are read as they were -/
theorem starts_txt {p : Pl} {l : List Sp} (h : startsErr p l = 0) : poolErr p = 0 ∧ (stText l).length ≤ 42900 ∧ (∀ x ∈ l, SpBd x) ∧ ∀ x ∈ l, keyB x.who = true ∧ x.heat.natAbs < 10 ^ 4 ∧ x.lane.natAbs < 10 ^ 4 := by
  have h9 := h
  unfold startsErr at h
  by_cases h1 : poolErr p ≠ 0
  · rw [if_pos h1] at h; exact absurd h h1
  rw [if_neg h1] at h
  have hp := poolErr_ok (Decidable.not_not.1 h1)
  by_cases h2 : 300 < l.length
  · rw [if_pos h2] at h; cases h
  rw [if_neg h2] at h
  have hal := startsGo_all l _ _ _ _ _ h
  have hpl := hp.1
  have hph := hp.2.1
  have hb : ∀ x ∈ l, SpBd x := fun x hx => by
    obtain ⟨k1, k2, k3⟩ := hal x hx
    have := (key_small k1).2
    exact ⟨by omega, by omega, by omega⟩
  have e4 : (10 : Nat) ^ 4 = 10000 := rfl
  refine ⟨Decidable.not_not.1 h1, ?_, hb, fun x hx => ?_⟩
  · have := stText_len l hb
    omega
  · obtain ⟨k1, k2, k3⟩ := hal x hx
    rw [e4]
    exact ⟨k1, by omega, by omega⟩
set_option maxHeartbeats 1600000 in
set_option maxRecDepth 100000 in
theorem startString_c (p : Pl) (hpb : PlBd p) (g : Nat) (zs : Zs) (k : Nat) (w w0 : World) (h : St w g zs k) (hk : k + 30000 ≤ 1099511627776) (hT : Tb w0) (hb0 : Below w0.heap.size w0 w) (hg0 : w0.heap.size ≤ g) :
    Calls Tryz.prog 91 #[.pointer (some ⟨g, 0, none⟩), p.val] w (RetSt w g zs 100000 (k + 3000)) := by
  have hSL := Lib.hid (fun W (hs : St W g zs k) (hg : w.grownBy W (some g)) => startListB_c p hpb g zs k W w0 hs (by omega) hT (hb0.trans (grown_below hg hg0 hb0.size)) hg0)
  have hTb := Lib.hid (fun W (B : Below w0.heap.size w0 W) => hT.below B)
  have E0 := Env1.new h p.cells 131
  have hgl := h.lt
  clear hT hpb
  obtain ⟨lo, hi, le, ci⟩ := p
  dsimp only [Pl.val, Pl.cells] at *
  obtain ⟨z, y⟩ := E0.facts
  have z0 := z 0
  have z1 := z 1
  have z2 := z 2
  have z3 := z 3
  clear z y h
  unfold RetSt
  unfold RetSB at hSL
  go_enter Tryz.func91, Tryz.ntmps91
  go_wp2_with fail
  refine (hSL.out _ E0.st E0.gr).mono ?_; rintro e w2 ⟨A, n, c, l, k2, rfl, ho, hn, hB, s2, hk2, g2⟩
  have hl := own_len spE_len (by decide) ho
  have rs : RSp w2 A n l := RN.of_own spE_len ho hl (by omega)
  have gr2 := grown_trans E0.gr g2
  have hb2 := hb0.trans (grown_below gr2 hg0 hb0.size)
  have ht0 := stText_len l hB
  have ht1 : (stText l).length ≤ 2860 := by rw [hl] at ht0; omega
  have hSw := Lib.hid (startLines_c A n c l w2 rs (hTb.out _ hb2) (by omega) hB)
  have t1' := Lib.hid ht1
  clear hSL hTb z0 z1 z2 z3 g2 ho rs ht0 ht1 hB E0 hl
  go_wp2_with fail
  refine hSw.out.mono ?_; rintro e w3 ⟨rfl, B3⟩
  have s3 := s2.below B3
  have gr3 := grown_trans gr2 (grown_of_below B3)
  have hts : (⟨(stText l).toArray⟩ : ByteArray).size ≤ 2860 := by show (stText l).toArray.size ≤ _; rw [List.size_toArray]; exact t1'.out
  generalize (⟨(stText l).toArray⟩ : ByteArray) = T at *
  clear hSw B3 s2 t1' gr2
  go_wp2_with fail
  refine (pickE_c g zs k2 _ _ _ [0, 0, 1, 2] _ (s3.alloc _) (by omega) (R1.litAt _ _ _ _ (by first | rfl | (simp; done)) (by simp) (by simp)) (by decide)).mono ?_; rintro e w4 ⟨v, rfl, hv, s4, g4⟩
  have gr4 := grown_trans (grown_alloc gr3 _) g4
  obtain ⟨N, rfl, hN⟩ : ∃ N : Nat, v = N ∧ N ≤ 2 := by simp at hv; exact ⟨v.toNat, by omega, by omega⟩
  clear hv s3 g4 gr3
  go_wp2_with fail
  go_loopw [5, 13] (fun u i wr => ∃ (j kk : Nat) (t : ByteArray), j ≤ N ∧ i = .int .i64 j ∧ u = .string t ∧ t.size ≤ 3000 + 10 * j ∧ kk ≤ k2 + 1 + 3 * j ∧ St wr g zs kk ∧ w.grownBy wr (some g)) (fun _ i _ => N - (intOf i).toNat)
  case atStart => exact ⟨0, k2 + 1, T, Nat.zero_le _, rfl, rfl, by omega, by omega, s4, gr4⟩
  case round =>
    clear s4 gr4
    rename World => wr
    obtain ⟨j, kk, t, hj, rfl, rfl, ht, hkk, hs, hgr⟩ := hrel
    by_cases hlt : j < N
    · have hCh := Lib.hid (changedL_c g zs kk t ⟨#[32, 10, 48, 49, 115, 45]⟩ wr hs (by omega) (by omega) (by decide) (by decide))
      unfold RetSt at hCh
      clear hs
      go_wp2_with fail
      refine hCh.out.mono ?_; rintro e w6 ⟨t6, k6, rfl, ht6, s6, hk6, g6⟩
      have gr6 := grown_trans hgr g6
      have ht7 : t6.size ≤ 3000 + 10 * (j + 1) := by
        have h7 : (⟨#[32, 10, 48, 49, 115, 45]⟩ : ByteArray).size = 6 := rfl
        rw [h7] at ht6
        omega
      clear hCh ht6 g6 hgr
      go_wp2
      go_roundw
      case rel => exact ⟨j + 1, k6, t6, by omega, by go_num, rfl, ht7, by omega, s6, gr6⟩
      case measure => simp [intOf]; omega
    · obtain rfl : j = N := by omega
      go_wp2
      go_ret
      exact ⟨t, kk, rfl, by omega, hs, by omega, hgr⟩
end Go.Proofs.YtklggnglaeagpaaGreatDoor
