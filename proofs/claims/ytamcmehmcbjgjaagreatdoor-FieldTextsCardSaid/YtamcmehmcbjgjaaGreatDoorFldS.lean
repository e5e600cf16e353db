/- The stream's FieldString. -/
import Derived.Test.YtamcmehmcbjgjaaGreatDoorTxtZ
import Derived.Test.YtamcmehmcbjgjaaGreatDoorTxtQ
import Derived.Test.YtamcmehmcbjgjaaGreatDoorTxtV
import Derived.Test.YtamcmehmcbjgjaaGreatDoorP17
namespace Go.Proofs.YtamcmehmcbjgjaaGreatDoor
open Go.RowKit Go.Lib
set_option linter.unusedVariables false

theorem fieldGo_key (r : Race) : ∀ (p : Option ByteArray) (l : List Sw), fieldGo r p l = 0 → ∀ x ∈ l, keyB x.who = true
  | p, [], _, x, hx => by cases hx
  | p, y :: l, h, x, hx => by
    unfold fieldGo at h
    by_cases h1 : keyB y.who = false
    · rw [if_pos h1] at h; cases h
    · rw [if_neg h1] at h
      by_cases h2 : leO y.who p = true
      · rw [if_pos h2] at h; cases h
      · rw [if_neg h2] at h
        by_cases h3 : wholeErr r y.sp ≠ 0
        · rw [if_pos h3] at h; exact absurd h h3
        · rw [if_neg h3] at h
          rcases List.mem_cons.1 hx with rfl | hx
          · simpa using h1
          · exact fieldGo_key r _ l h x hx
/-- the text of a right field: short, and its parts within bounds -/
theorem field_txt0 {r : Race} {l : List Sw} (h : fieldErr r l = 0) : (fdText (l.map swD)).length ≤ 43000 ∧ ∀ x ∈ l, (keyB x.who = true ∧ x.sp ≠ []) ∧ x.sp.length ≤ 300 ∧ ∀ y ∈ x.sp, 0 ≤ y ∧ y ≤ 999999 := by
  obtain ⟨h0, h20, hall⟩ := fieldErr_ok h
  have hx : ∀ x ∈ l, keyB x.who = true ∧ wholeErr r x.sp = 0 := fun x hx => by
    refine ⟨?_, hall x hx⟩
    have h9 := h
    unfold fieldErr at h9
    rw [if_neg (not_not_intro h0), if_neg (by omega)] at h9
    exact fieldGo_key r none l h9 x hx
  have hb := fun x h => splits_bd (wholeErr_ok (hx x h).2).1
  have hb3 : ∀ x ∈ l, ∀ y ∈ x.sp, 0 ≤ y ∧ y ≤ 999999 := fun x h y hy => by have := (hb x h).2.2 y hy; omega
  refine ⟨?_, fun x h => ⟨⟨(hx x h).1, fun e => by have := (hb x h).1; rw [e] at this; simp at this⟩, by have := (hb x h).2.1; omega, hb3 x h⟩⟩
  have h9 := fdText_len (l.map swD) fun d hd => by
    obtain ⟨x, hxm, rfl⟩ := List.mem_map.1 hd
    exact ⟨(key_bytes (hx x hxm).1).2.1, by have := (hb x hxm).2.1; show x.sp.length ≤ 300; omega, hb3 x hxm⟩
  rw [List.length_map] at h9
  omega
theorem field_txt {r : Race} {l : List Sw} (h : fieldErr r l = 0) (hn : ∀ x ∈ l, x.sp.length = x.n) : (fdText (l.map swD)).length ≤ 43000 ∧ (∀ x ∈ l, x.n ≤ 1000 ∧ ∀ y ∈ x.sp, 0 ≤ y ∧ y ≤ 999999) ∧ ∀ x ∈ l, keyB x.who = true ∧ x.sp ≠ [] := by
  obtain ⟨h1, h2⟩ := field_txt0 h
  exact ⟨h1, fun x hx => ⟨by have := (h2 x hx).2.1; rw [hn x hx] at this; omega, (h2 x hx).2.2⟩, fun x hx => (h2 x hx).1⟩
set_option maxHeartbeats 1600000 in
set_option maxRecDepth 100000 in
theorem fieldString_c (g : Nat) (zs : Zs) (k : Nat) (r : Race) (w w0 : World) (h : St w g zs k) (hk : k + 4000 ≤ 1099511627776) (hr : raceErr r = 0) (hRf : ∀ l, RightF zs r l → (fdText (l.map swD)).length ≤ 43000 ∧ ∀ x ∈ l, x.sp.length ≤ 300 ∧ ∀ y ∈ x.sp, 0 ≤ y ∧ y ≤ 999999) (hT : Tb w0) (hb0 : Below w0.heap.size w0 w) (hg0 : w0.heap.size ≤ g) :
    Calls Tryz.prog 14 #[.pointer (some ⟨g, 0, none⟩), r.val] w (RetSt w g zs 100000 (k + 3000)) := by
  have hRi := Lib.hid (fun W h => rightField_c g zs k r W h (by omega) hr)
  have hE := Lib.hid (fun (l : List Sw) (h : RightF zs r l) (hn : ∀ x ∈ l, x.sp.length = x.n) => show (fdText (l.map swD)).length ≤ 43000 ∧ (∀ x ∈ l, x.n ≤ 1000 ∧ ∀ y ∈ x.sp, 0 ≤ y ∧ y ≤ 999999) ∧ True from ⟨(hRf l h).1, fun x hx => ⟨by have := ((hRf l h).2 x hx).1; rw [hn x hx] at this; omega, ((hRf l h).2 x hx).2⟩, trivial⟩)
  have hTb := Lib.hid (fun W (B : Below w0.heap.size w0 W) => hT.below B)
  generalize RightF zs r = RF at *
  clear hRf hr hT
  have hb1 := heap_alloc_new w (.cells r.cells 27)
  have s1 := h.alloc (.cells r.cells 27)
  have g1 := grown_alloc (grown_refl w (some g)) (.cells r.cells 27)
  obtain ⟨key, metres, stroke, course, legs, sex, young, old⟩ := r
  dsimp only [Race.val, Race.cells] at *
  have z0 := (blk_facts hb1).1 0
  have z1 := (blk_facts hb1).1 1
  have z2 := (blk_facts hb1).1 2
  have z3 := (blk_facts hb1).1 3
  have z4 := (blk_facts hb1).1 4
  have z5 := (blk_facts hb1).1 5
  have z6 := (blk_facts hb1).1 6
  have z7 := (blk_facts hb1).1 7
  have hgl := h.lt
  unfold RetSt
  clear h hb1
  go_enter Tryz.func14, Tryz.ntmps14
  go_wp2_with fail
  refine (hRi.out _ s1).mono ?_; rintro e w2 ⟨A, n, c, l, k2, rfl, ho, hl, hn, hri, hF, s2, hk2, g2⟩
  have rs := RSw.of_own ho hl (by omega) hri
  obtain ⟨t1, t2, _⟩ := hE.out l hF (fun x hx => (rs.2 x hx).len)
  have gr2 := grown_trans g1 g2
  have hb2 := hb0.trans (grown_below gr2 hg0 hb0.size)
  have hSw := Lib.hid (swimLines_c A n c l w2 rs (hTb.out _ hb2) (by omega) t2)
  have t1' := Lib.hid t1
  clear hRi hE hTb z0 z1 z2 z3 z4 z5 z6 z7 s1 g1 g2 ho hri hF rs t1 t2
  go_wp2_with fail
  refine hSw.out.mono ?_; rintro e w3 ⟨rfl, B3⟩
  have s3 := s2.below B3
  have gr3 := grown_trans gr2 (grown_of_below B3)
  have hts : (⟨(fdText (l.map swD)).toArray⟩ : ByteArray).size ≤ 43000 := by show (fdText (l.map swD)).toArray.size ≤ _; rw [List.size_toArray]; exact t1'.out
  generalize (⟨(fdText (l.map swD)).toArray⟩ : ByteArray) = T at *
  clear hSw B3 s2 t1' gr2
  go_wp2_with fail
  refine (pickE_c g zs k2 _ _ _ [0, 0, 1, 2] _ (s3.alloc _) (by omega) (R1.litAt _ _ _ _ (by first | rfl | (simp; done)) (by simp) (by simp)) (by decide)).mono ?_; rintro e w4 ⟨v, rfl, hv, s4, g4⟩
  have gr4 := grown_trans (grown_alloc gr3 _) g4
  obtain ⟨N, rfl, hN⟩ : ∃ N : Nat, v = N ∧ N ≤ 2 := by simp at hv; exact ⟨v.toNat, by omega, by omega⟩
  clear hv s3 g4 gr3
  go_wp2_with fail
  go_loopw [5, 13] (fun u i wr => ∃ (j kk : Nat) (t : ByteArray), j ≤ N ∧ i = .int .i64 j ∧ u = .string t ∧ t.size ≤ 43000 + 10 * j ∧ kk ≤ k2 + 1 + 3 * j ∧ St wr g zs kk ∧ w.grownBy wr (some g)) (fun _ i _ => N - (intOf i).toNat)
  case atStart => exact ⟨0, k2 + 1, T, Nat.zero_le _, rfl, rfl, by omega, by omega, s4, gr4⟩
  case round =>
    clear s4 gr4
    rename World => wr
    obtain ⟨j, kk, t, hj, rfl, rfl, ht, hkk, hs, hgr⟩ := hrel
    by_cases hlt : j < N
    · have hCh := Lib.hid (changedL_c g zs kk t ⟨#[32, 10, 48, 49, 115, 44, 45]⟩ wr hs (by omega) (by omega) (by decide) (by decide))
      unfold RetSt at hCh
      clear hs
      go_wp2_with fail
      refine hCh.out.mono ?_; rintro e w6 ⟨t6, k6, rfl, ht6, s6, hk6, g6⟩
      have gr6 := grown_trans hgr g6
      have ht7 : t6.size ≤ 43000 + 10 * (j + 1) := by
        have h7 : (⟨#[32, 10, 48, 49, 115, 44, 45]⟩ : ByteArray).size = 7 := rfl
        rw [h7] at ht6
        omega
      clear hCh ht6 g6 hgr
      go_wp2
      go_roundw
      case rel => exact ⟨j + 1, k6, t6, by omega, by go_num, rfl, ht7, by omega, s6, gr6⟩
      case measure => simp [intOf]; omega
    · obtain rfl : j = N := by omega
      go_wp2
      go_ret
      exact ⟨t, kk, rfl, by omega, hs, by omega, hgr⟩
end Go.Proofs.YtamcmehmcbjgjaaGreatDoor
