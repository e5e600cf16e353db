/- tumbref1.PlaceNames, (*Stream).Taken, tumbref1.GoneFault. -/
import Derived.Test.YtdbfcneeiiialaaGreatDoorFinC
import Derived.Test.YtdbfcneeiiialaaGreatDoorDraws
namespace Go.Proofs.YtdbfcneeiiialaaGreatDoor
open Go.RowKit
set_option linter.unusedVariables false

theorem shelfN {e : TypeId} {w : World} {A : Option Addr} {n : Nat} {l : List ByteArray} (h : RS e w A n l) (hp : 0 < n) : ∃ b off, A = some ⟨b, off, none⟩ ∧ ∀ j, j < l.length → w.cell? ⟨b, off + j, none⟩ = some (.string (l.getD j ⟨#[]⟩)) := by
  obtain ⟨b, off, cs, fz, hA, hb, hc⟩ := h.2.2 hp
  refine ⟨b, off, hA, fun j hj => ?_⟩
  have hx : l[j]? = some (l.getD j ⟨#[]⟩) := by rw [List.getD_eq_getElem?_getD, List.getElem?_eq_getElem hj]; rfl
  rw [cell_of_row w b _ cs e fz hb]
  exact hc j _ hx
theorem containsN_c (A : Option Addr) (n c : Nat) (l : List ByteArray) (x : ByteArray) (w : World) (h : RS 9 w A n l) :
    Calls Tryz.prog 125 #[.slice A n c, .string x] w fun e w' => e = .returned (.bool (Lib.containsS l x)) ∧ w = w' := by
  have hl := h.len
  have hb := h.bd
  rcases Nat.eq_zero_or_pos n with h0 | hp
  · subst h0
    obtain rfl : l = [] := List.eq_nil_of_length_eq_zero hl
    exact (Tryz.slices_Contains_string_empty A c x w).mono fun _ _ ⟨h1, h2⟩ => ⟨by rw [h1]; rfl, h2.symm⟩
  · obtain ⟨b, off, rfl, hc⟩ := shelfN h hp
    refine (Tryz.slices_Contains_string b off n c l x w (by omega) (by omega) hc).mono fun _ _ ⟨he, hw⟩ => ⟨?_, hw.symm⟩
    rw [he, List.take_of_length_le (by omega)]
theorem RS_takeN {w : World} {b o n k : Nat} {l : List ByteArray} (h : RS 9 w (some ⟨b, o, none⟩) n l) (hk : k ≤ n) : RS 9 w (some ⟨b, o, none⟩) k (l.take k) := by
  have hl := h.len
  refine ⟨by rw [List.length_take]; omega, by have := h.bd; omega, fun hp => ?_⟩
  obtain ⟨b', o', cs, fz, hA, hb, hc⟩ := h.2.2 (by omega)
  refine ⟨b', o', cs, fz, hA, hb, fun j x hx => hc j x ?_⟩
  rw [List.getElem?_take] at hx
  split at hx
  · exact hx
  · cases hx
def RetTk (w : World) (g : Nat) (zs : Zs) (k N : Nat) (e : Ending) (w' : World) : Prop := ∃ (A : Option Addr) (n c : Nat) (l : List ByteArray) (k' : Nat), e = .returned (.slice A n c) ∧ RS 9 w' A n l ∧ ((A = none ∧ n = 0 ∧ c = 0) ∨ ∃ b, A = some ⟨b, 0, none⟩ ∧ n ≤ c) ∧ n ≤ N + 1 ∧ St w' g zs k' ∧ k' ≤ k + N + 5 ∧ w.grownBy w' (some g)
set_option maxHeartbeats 3200000 in
set_option maxRecDepth 100000 in
theorem taken_c (g : Nat) (zs : Zs) (k N cN : Nat) (AN : Option Addr) (names : List ByteArray) (w : World) (h : St w g zs k) (hk : k + 2000 ≤ 1099511627776) (hN : N ≤ 500) (hr : RS 9 w AN N names) :
    Calls Tryz.prog 46 #[.pointer (some ⟨g, 0, none⟩), .slice AN N cN] w (RetTk w g zs k N) := by
  have hglt := h.lt
  have hRk := Lib.hid (fun v (hg : w.grownBy v (some g)) => show RS 9 v AN N names from hr.keep (T := 25) (by decide) (h.keep hg))
  have hRb := Lib.hid (fun v (hb : Below w.heap.size w v) => hr.below hb)
  clear hr
  go_enter Tryz.func46, Tryz.ntmps46
  go_wp2_with fail
  go_loopw [5, 10] (fun u i wr => ∃ (j m kk : Nat) (acc : List ByteArray), j ≤ N ∧ i = .int .i64 j ∧ m ≤ j ∧ kk ≤ k + j ∧ wr.ownsRow w.heap.size 9 1 u m (acc.map Value.string) ∧ St wr g zs kk ∧ w.grownBy wr (some g)) (fun _ i _ => N - (intOf i).toNat)
  case atStart => exact ⟨0, 0, k, [], Nat.zero_le _, rfl, Nat.le_refl _, by omega, World.ownsRow_nil _ _ _ _, h, grown_refl _ _⟩
  case round =>
    clear h
    obtain ⟨j, m, kk, acc, hj, rfl, hm, hkk, hown, hst, hgr⟩ := hrel
    by_cases hlt : j < N
    · obtain ⟨b, off, x, hA, hbl, hx, c0⟩ := (hRk.out _ hgr).at_ hlt
      subst hA
      go_wp2_with fail
      refine (flipE_c g zs kk _ _ hst (by omega) (by omega) (by omega)).mono ?_; rintro e w2 ⟨fl, rfl, s2, g2⟩
      have hgr2 := grown_trans hgr g2
      have hown2 := own_keep hown hglt g2
      have hz2 := hgr2.size
      clear hst g2 hown hgr hx
      cases fl
      · go_wp2
        go_roundw
        case rel => exact ⟨j + 1, m, kk + 1, acc, by omega, by go_num, by omega, by omega, hown2, s2, hgr2⟩
        case measure => simp [intOf]; omega
      · go_wp2_with (at_builtin; refine wpList_app rfl (.tmp 16) (.tmp 18) 99 rfl Tryz.underlying99 info_strS rfl (by omega) (by omega) hown2 rfl rfl (by first | rfl | (simp; done)) (by rfl) (by simp [Value.oneCell']) (by omega) hz2 ?_; intro v4 w4 hown4 hg4)
        have hgr4 := grown_own hgr2 hg4 (own_row_lt hown2)
        have hst4 := s2.grown hg4 (fun i hi => by have := own_row_lt hown2 i hi; omega)
        clear hgr2 hg4 s2 hown2
        go_roundw
        case rel => exact ⟨j + 1, m + 1, kk + 1, acc ++ [x], by omega, by go_num, by omega, by omega, by rw [strs_app]; exact hown4, hst4, hgr4⟩
        case measure => simp [intOf]; omega
    · obtain rfl : j = N := by omega
      go_wp2_with fail
      refine (flipE_c g zs kk _ _ hst (by omega) (by omega) (by omega)).mono ?_; rintro e w2 ⟨fl, rfl, s2, g2⟩
      have hgr2 := grown_trans hgr g2
      have hown2 := own_keep hown hglt g2
      have hz2 := hgr2.size
      clear hst g2 hown hgr
      cases fl
      · obtain ⟨A9, c9, rfl⟩ := own_shape hown2
        have hcp := own_cap hown2 rfl
        have hrs := RS.of_own hown2 (by omega)
        go_wp2
        go_ret
        exact ⟨A9, m, c9, acc, kk + 1, rfl, hrs, hcp, by omega, s2, by omega, hgr2⟩
      · go_wp2_with fail
        refine (some_c g zs (kk + 1) _ _ _ [⟨#[122, 122]⟩, ⟨#[115, 48]⟩, ⟨#[115, 49]⟩] _ (s2.alloc _) (by omega) (R1.litAt _ _ _ _ (by simp) rfl (le_big (by simp))) (by simp)).mono ?_; rintro e w3 ⟨rfl, s3, g3⟩
        have hgr3 := grown_trans (grown_alloc hgr2 _) g3
        have hown3 := own_keep (hown2.alloc _) hglt g3
        have hz3 := hgr3.size
        clear s2 g3 hown2 hgr2
        generalize pickV zs (kk + 1) ([⟨#[122, 122]⟩, ⟨#[115, 48]⟩, ⟨#[115, 49]⟩] : List ByteArray) = x9 at *
        go_wp2_with (at_builtin; refine wpList_app rfl (.tmp 23) (.tmp 27) 99 rfl Tryz.underlying99 info_strS rfl (by omega) (by omega) hown3 rfl rfl (by first | rfl | (simp; done)) (by rfl) (by simp [Value.oneCell']) (by omega) hz3 ?_; intro v4 w4 hown4 hg4)
        have hgr4 := grown_own hgr3 hg4 (own_row_lt hown3)
        have hst4 := s3.grown hg4 (fun i hi => by have := own_row_lt hown3 i hi; omega)
        have ho5 : w4.ownsRow w.heap.size 9 1 v4 (m + 1) ((acc ++ [x9]).map Value.string) := by rw [strs_app]; exact hown4
        obtain ⟨A9, c9, rfl⟩ := own_shape ho5
        have hcp := own_cap ho5 rfl
        have hrs := RS.of_own ho5 (by omega)
        clear hgr3 hg4 s3 hown3 hown4 ho5
        go_wp2
        go_ret
        exact ⟨A9, m + 1, c9, acc ++ [x9], kk + 2, rfl, hrs, hcp, by omega, hst4, by omega, hgr4⟩
def goneL (of : List ByteArray) : List ByteArray → List ByteArray → Int
  | _, [] => 0
  | done, s :: r => if Lib.containsS of s = true then (if Lib.containsS done s = true then 6 else goneL of (done ++ [s]) r) else 8
def goneErr (of who : List ByteArray) : Int := if 300 < who.length then 2 else goneL of [] who
theorem goneL_at {of who : List ByteArray} {k : Nat} {s : ByteArray} (h : who[k]? = some s) : goneL of (who.take k) (who.drop k) = if Lib.containsS of s = true then (if Lib.containsS (who.take k) s = true then 6 else goneL of (who.take (k + 1)) (who.drop (k + 1))) else 8 := by
  rw [drop_at h, List.take_add_one, h]
  rfl
theorem goneL_ok {of : List ByteArray} : ∀ (r done : List ByteArray), goneL of done r = 0 → done.Nodup → (∀ s ∈ r, s ∈ of) ∧ (done ++ r).Nodup
  | [], done, _, hd => ⟨fun s hs => (by cases hs), by simpa using hd⟩
  | s :: r, done, h, hd => by
    rw [show goneL of done (s :: r) = if Lib.containsS of s = true then (if Lib.containsS done s = true then 6 else goneL of (done ++ [s]) r) else 8 from rfl] at h
    split at h
    · split at h
      · cases h
      · rename_i h1 h2
        have hd2 : (done ++ [s]).Nodup := List.nodup_append.2 ⟨hd, by simp, fun a ha b hb e => by simp at hb; subst hb; subst e; exact h2 ((Lib.containsS_iff _ _).2 ha)⟩
        obtain ⟨i1, i2⟩ := goneL_ok r _ h hd2
        refine ⟨fun t ht => ?_, by rw [List.append_assoc] at i2; exact i2⟩
        rcases List.mem_cons.1 ht with rfl | ht
        · exact (Lib.containsS_iff _ _).1 h1
        · exact i1 t ht
    · cases h
theorem goneErr_ok {of who : List ByteArray} (h : goneErr of who = 0) : who.length ≤ 300 ∧ (∀ s ∈ who, s ∈ of) ∧ who.Nodup := by
  unfold goneErr at h
  split at h
  · cases h
  · obtain ⟨h1, h2⟩ := goneL_ok who [] h (by simp)
    exact ⟨by omega, h1, by simpa using h2⟩
set_option maxHeartbeats 1600000 in
set_option maxRecDepth 100000 in
theorem goneFault_c (A B : Option Addr) (n c m d : Nat) (of who : List ByteArray) (w : World) (hA : RS 9 w A n of) (hB : RS 9 w B m who) (hcap : (B = none ∧ m = 0 ∧ d = 0) ∨ ∃ b, B = some ⟨b, 0, none⟩ ∧ m ≤ d) :
    Calls Tryz.prog 51 #[.slice A n c, .slice B m d] w fun e w' => e = .returned (.int .i64 (goneErr of who)) ∧ w = w' := by
  have hl := hB.len
  have hbd := hB.bd
  have hE := Lib.hid (show goneErr of who = if 300 < m then 2 else goneL of [] who by unfold goneErr; rw [hl])
  have hcA := Lib.hid (fun x => containsN_c A n c of x w hA)
  have hcB := Lib.hid (fun b k (hk : k ≤ m) (e : B = some ⟨b, 0, none⟩) x => show Calls Tryz.prog 125 #[.slice (some ⟨b, 0, none⟩) k d, .string x] w fun e w' => e = .returned (.bool (Lib.containsS (who.take k) x)) ∧ w = w' from containsN_c _ k d _ x w (RS_takeN (by rw [← e]; exact hB) hk))
  have hGa := Lib.hid (fun k s (h : who[k]? = some s) => goneL_at (of := of) h)
  have hG0 := Lib.hid (fun d => show goneL of d [] = 0 from rfl)
  have hl' := Lib.hid hl
  generalize goneErr of who = E at *
  generalize goneL of = GL at *
  clear hl hA
  by_cases hbig : 300 < m
  · obtain rfl : E = 2 := by rw [hE.out, if_pos hbig]
    have q0 : (300 : Int) < (m : Int) := by omega
    clear hE
    go_enter Tryz.func51, Tryz.ntmps51
    go_wp2
    go_ret
    exact ⟨rfl, rfl⟩
  have q0 : ¬ (300 : Int) < (m : Int) := by omega
  have hE2 := Lib.hid (show E = GL [] who by rw [hE.out, if_neg hbig])
  clear hE
  go_enter Tryz.func51, Tryz.ntmps51
  go_wp2_with fail
  go_loopw [12] (fun i wr => ∃ k : Nat, k ≤ m ∧ i = .int .i64 k ∧ w = wr ∧ Hid (GL (who.take k) (who.drop k) = GL [] who)) (fun i _ => m - (intOf i).toNat)
  case atStart => exact ⟨0, Nat.zero_le _, rfl, rfl, Lib.hid rfl⟩
  case round =>
    obtain ⟨k, hk, rfl, rfl, hG⟩ := hrel
    by_cases hlt : k < m
    · rcases hcap with ⟨rfl, h0, _⟩ | ⟨b, rfl, hmd⟩
      · omega
      obtain ⟨b', off, s, hA, hbl, hs, c0⟩ := hB.at_ hlt
      injection hA with hA
      injection hA with e1 e2
      subst e1 e2
      rw [Nat.zero_add] at c0
      have hst := Lib.hid (show GL [] who = if Lib.containsS of s = true then (if Lib.containsS (who.take k) s = true then 6 else GL (who.take (k + 1)) (who.drop (k + 1))) else 8 by rw [← hG.out, hGa.out k s hs])
      have hcB' := Lib.hid (hcB.out b k (by omega) rfl s)
      have hcA' := Lib.hid (hcA.out s)
      have j0 : (0 : Int) ≤ (k : Int) := by omega
      have j1 : (k : Int) ≤ (d : Int) := by omega
      clear hs hG
      by_cases h1 : Lib.containsS of s = true
      rotate_left
      · obtain rfl : E = 8 := by rw [hE2.out, hst.out, if_neg h1]
        have hd : Lib.containsS of s = false := by simpa using h1
        rw [hd] at hcA'
        clear h1 hd hst hE2
        go_wp2_with fail
        refine hcA'.out.mono ?_; rintro e w1 ⟨rfl, rfl⟩
        go_wp2
        go_ret
        exact ⟨rfl, rfl⟩
      · have hd : Lib.containsS of s = true := h1
        rw [hd] at hcA'
        have hst2 := Lib.hid (show GL [] who = if Lib.containsS (who.take k) s = true then 6 else GL (who.take (k + 1)) (who.drop (k + 1)) by rw [hst.out, if_pos h1])
        clear h1 hd hst
        by_cases h2 : Lib.containsS (who.take k) s = true
        · obtain rfl : E = 6 := by rw [hE2.out, hst2.out, if_pos h2]
          have hd : Lib.containsS (who.take k) s = true := h2
          rw [hd] at hcB'
          clear h2 hd hst2 hE2
          go_wp2_with fail
          refine hcA'.out.mono ?_; rintro e w1 ⟨rfl, rfl⟩
          go_wp2_with fail
          refine hcB'.out.mono ?_; rintro e w1 ⟨rfl, rfl⟩
          go_wp2
          go_ret
          exact ⟨rfl, rfl⟩
        · have hG2 := Lib.hid (show GL (who.take (k + 1)) (who.drop (k + 1)) = GL [] who by rw [hst2.out, if_neg h2])
          have hd : Lib.containsS (who.take k) s = false := by simpa using h2
          rw [hd] at hcB'
          clear h2 hd hst2
          go_wp2_with fail
          refine hcA'.out.mono ?_; rintro e w1 ⟨rfl, rfl⟩
          go_wp2_with fail
          refine hcB'.out.mono ?_; rintro e w1 ⟨rfl, rfl⟩
          go_wp2
          go_roundw
          case rel => exact ⟨k + 1, by omega, by go_num, trivial, hG2⟩
          case measure => simp [intOf]; omega
    · obtain rfl : k = m := by omega
      obtain rfl : E = 0 := by rw [hE2.out, ← hG.out, drop_end (by rw [hl'.out]; exact Nat.le_refl _), hG0.out]
      go_wp2
      go_ret
      exact ⟨rfl, rfl⟩
end Go.Proofs.YtdbfcneeiiialaaGreatDoor
