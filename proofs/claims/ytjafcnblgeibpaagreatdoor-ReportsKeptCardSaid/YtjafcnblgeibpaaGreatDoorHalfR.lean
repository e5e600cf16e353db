/- The two halves of a list: the maker. Printed by wip/genhalf.py. -/
import Derived.Test.YtjafcnblgeibpaaGreatDoorHalfC
import Derived.Test.YtjafcnblgeibpaaGreatDoorSetR
namespace Go.Proofs.YtjafcnblgeibpaaGreatDoor
open Go.RowKit Go.Shelf Go.Lib Go.Sort
set_option linter.unusedVariables false


set_option maxHeartbeats 3200000 in
set_option maxRecDepth 100000 in
theorem halfReports_c (A : Option Addr) (n c : Nat) (l : List Rp) (g : Nat) (zs : List Int) (k : Nat) (w : World) (h : RRp w A n l) (hs : St w g zs k) (hn : n ≤ 1000) (hk : k + n ≤ 1099511627776) :
    Calls Tryz.prog 36 #[.pointer (some ⟨g, 0, none⟩), .slice A n c] w fun e w' => ∃ (ks : List (Rp × Int)) (A1 : Option Addr) (c1 : Nat) (A2 : Option Addr) (c2 : Nat), e = .returned (.tuple #[.slice A1 (hfA ks).length c1, .slice A2 (hfB ks).length c2]) ∧ ks.map Prod.fst = l ∧ RRp w' A1 (hfA ks).length (hfA ks) ∧ RRp w' A2 (hfB ks).length (hfB ks) ∧ CapOk A1 (hfA ks).length c1 ∧ CapOk A2 (hfB ks).length c2 ∧ St w' g zs (k + n) ∧ w.grownBy w' (some g) ∧ (∀ i j, (Value.slice A1 (hfA ks).length c1).ownBlock = some i → (Value.slice A2 (hfB ks).length c2).ownBlock = some j → i ≠ j) ∧ (∀ i, (Value.slice A1 (hfA ks).length c1).ownBlock = some i → w.heap.size ≤ i) ∧ (∀ i, (Value.slice A2 (hfB ks).length c2).ownBlock = some i → w.heap.size ≤ i) ∧ w'.ownsRow w.heap.size 62 7 (.slice A1 (hfA ks).length c1) (hfA ks).length ((hfA ks).flatMap rpE) ∧ w'.ownsRow w.heap.size 62 7 (.slice A2 (hfB ks).length c2) (hfB ks).length ((hfB ks).flatMap rpE) := by
  have hlen := Lib.hid h.len
  have hR := Lib.hid (fun W (hg : w.grownBy W (some g)) => h.keep (T := 25) (by decide) (hs.keep hg))
  have hlA := Lib.hid (fun (ks : List (Rp × Int)) => (halfA_sub ks).length_le)
  have hlB := Lib.hid (fun (ks : List (Rp × Int)) => (halfB_sub ks).length_le)
  have K0 : HK rpE 7 62 w g zs (.slice none 0 0) (.slice none 0 0) [] [] k w := HK.start hs
  clear hs h
  go_enter Tryz.func36, Tryz.ntmps36
  go_wp2_with fail
  go_loopw [4, 5, 11] (fun a b i wr => ∃ (j : Nat) (ks : List (Rp × Int)), j ≤ n ∧ i = .int .i64 j ∧ Hid (ks.map Prod.fst = l.take j) ∧ HK rpE 7 62 w g zs a b (hfA ks) (hfB ks) (k + j) wr) (fun _ _ i _ => n - (intOf i).toNat)
  case atStart => exact ⟨0, [], Nat.zero_le _, rfl, Lib.hid rfl, K0⟩
  case round =>
    clear K0
    rename World => wr
    rename Value => ub
    rename Value => ua
    obtain ⟨j, ks, hj, rfl, hks, K⟩ := hrel
    by_cases hlt : j < n
    · have hlti : (j : Int) < n := by omega
      obtain ⟨b, off, x, rfl, hbl, hx, c0, c1, c2, c3, c4, c5, c6⟩ := RRp_at7 (hR.out _ K.gr) hlt
      have hks2 := Lib.hid (fun v => ks_snoc v hks.out hx)
      have hla : (hfA ks).length ≤ 1000 := by
        have h1 := hlA.out ks
        rw [hks.out, List.length_take] at h1; omega
      have hlb : (hfB ks).length ≤ 1000 := by
        have h1 := hlB.out ks
        rw [hks.out, List.length_take] at h1; omega
      clear hks hx
      obtain ⟨id, jd, wo, fault, tm, wt, nt⟩ := x
      dsimp only at *
      have hn0 := heap_alloc_new wr (.cells #[.string id, .string jd, .string wo, .int .i64 fault, .int .i64 tm, .int .i64 wt, .bool nt] 62)
      have hz0 : (wr.alloc (.cells #[.string id, .string jd, .string wo, .int .i64 fault, .int .i64 tm, .int .i64 wt, .bool nt] 62)).heap.size = wr.heap.size + 1 := by simp
      have hU1 := K.lt1
      have hU2 := K.lt2
      have hgl := K.gl
      have hgz := K.gr.size
      have K1 := K.alloc (.cells #[.string id, .string jd, .string wo, .int .i64 fault, .int .i64 tm, .int .i64 wt, .bool nt] 62)
      clear K
      go_wp2_with fail
      refine (nextE_c g zs (k + j) 3 _ K1.st (by omega) (by decide) (by decide)).mono ?_; rintro e w6 ⟨v, rfl, v0, v1, s6, g6⟩
      have K6 := K1.stream s6 g6
      have hb6 := blk_grown hn0 g6 (fun e => by injection e; omega)
      have hz6 := g6.size
      rw [hz0] at hz6
      have hw6 : w.heap.size ≤ w6.heap.size := K6.gr.size
      clear K1 s6 g6 hn0 hz0 c0 c1 c2 c3 c4 c5 c6
      have x0 := (blk_facts hb6).1 0
      have x1 := (blk_facts hb6).1 1
      have x2 := (blk_facts hb6).1 2
      have x3 := (blk_facts hb6).1 3
      have x4 := (blk_facts hb6).1 4
      have x5 := (blk_facts hb6).1 5
      have x6 := (blk_facts hb6).1 6
      have hk1 := hks2.out v
      have hA1 := halfA_snoc (⟨id, jd, wo, fault, tm, wt, nt⟩ : Rp) v ks
      have hB1 := halfB_snoc (⟨id, jd, wo, fault, tm, wt, nt⟩ : Rp) v ks
      clear hks2
      have h3 : v = 0 ∨ v = 1 ∨ v = 2 := by omega
      generalize hk2 : ks ++ [((⟨id, jd, wo, fault, tm, wt, nt⟩ : Rp), v)] = ks2 at *
      have hk1' := Lib.hid hk1
      have hA1' := Lib.hid hA1
      have hB1' := Lib.hid hB1
      clear hk1 hA1 hB1 hk2 v0 v1
      rcases h3 with rfl | rfl | rfl
      · go_wp2_with (at_builtin; refine wpList_appAt rfl (.tmp 19) (.tmp 21) 57 rfl Tryz.underlying57 info_report rfl (by omega) (by omega) K6.o1 rfl rfl (by first | rfl | (simp; done)) rfl (by simp [Value.oneCell']) (by omega) hw6 ?_; intro v7 w7 hown7 hg7 hat7; have K7 := K6.app1 (x := ⟨id, jd, wo, fault, tm, wt, nt⟩) hown7 hg7 hat7)
        go_roundw
        case rel =>
          refine ⟨j + 1, ks2, by omega, by go_num, Lib.hid hk1'.out, ?_⟩
          rw [hA1'.out, hB1'.out]
          simpa [Nat.add_assoc] using K7
        case measure => simp [intOf]; omega
      · go_wp2_with (at_builtin; refine wpList_appAt rfl (.tmp 25) (.tmp 27) 57 rfl Tryz.underlying57 info_report rfl (by omega) (by omega) K6.o2 rfl rfl (by first | rfl | (simp; done)) rfl (by simp [Value.oneCell']) (by omega) hw6 ?_; intro v7 w7 hown7 hg7 hat7; have K7 := K6.app2 (x := ⟨id, jd, wo, fault, tm, wt, nt⟩) hown7 hg7 hat7)
        go_roundw
        case rel =>
          refine ⟨j + 1, ks2, by omega, by go_num, Lib.hid hk1'.out, ?_⟩
          rw [hA1'.out, hB1'.out]
          simpa [Nat.add_assoc] using K7
        case measure => simp [intOf]; omega
      · go_wp2_with (first | ((at_builtin; refine wpList_appAt rfl (.tmp 25) (.tmp 27) 57 rfl Tryz.underlying57 info_report rfl (by omega) (by omega) K7.o2 rfl rfl (by first | rfl | (simp; done)) rfl (by simp [Value.oneCell']) (by omega) hw7 ?_; intro v8 w8 hown8 hg8 hat8; have K8 := K7.app2 (x := ⟨id, jd, wo, fault, tm, wt, nt⟩) hown8 hg8 hat8)) | ((at_builtin; refine wpList_appAt rfl (.tmp 19) (.tmp 21) 57 rfl Tryz.underlying57 info_report rfl (by omega) (by omega) K6.o1 rfl rfl (by first | rfl | (simp; done)) rfl (by simp [Value.oneCell']) (by omega) hw6 ?_; intro v7 w7 hown7 hg7 hat7; have K7 := K6.app1 (x := ⟨id, jd, wo, fault, tm, wt, nt⟩) hown7 hg7 hat7; have hb7 := blk_grown hb6 hg7 (fun e => by have := hU1 _ e.symm; omega); have hw7 : w.heap.size ≤ w7.heap.size := K7.gr.size; have y0 := (blk_facts hb7).1 0; have y1 := (blk_facts hb7).1 1; have y2 := (blk_facts hb7).1 2; have y3 := (blk_facts hb7).1 3; have y4 := (blk_facts hb7).1 4; have y5 := (blk_facts hb7).1 5; have y6 := (blk_facts hb7).1 6)))
        go_roundw
        case rel =>
          refine ⟨j + 1, ks2, by omega, by go_num, Lib.hid hk1'.out, ?_⟩
          rw [hA1'.out, hB1'.out]
          simpa [Nat.add_assoc] using K8
        case measure => simp [intOf]; omega
    · obtain rfl : j = n := by omega
      obtain ⟨A1, c1, rfl⟩ := own_shape K.o1
      obtain ⟨A2, c2, rfl⟩ := own_shape K.o2
      go_wp2
      go_ret2
      have hk9 : ks.map Prod.fst = l := by
        rw [hks.out, List.take_of_length_le (by rw [hlen.out]; exact Nat.le_refl _)]
      have l1 := hlA.out ks
      have l2 := hlB.out ks
      rw [hk9, hlen.out] at l1 l2
      exact ⟨ks, A1, c1, A2, c2, rfl, hk9, RN.of_own rpE_len K.o1 rfl (by omega), RN.of_own rpE_len K.o2 rfl (by omega), capOk_own K.o1, capOk_own K.o2, K.st, K.gr, fun i q hi hq e => K.dis i hi (e ▸ hq), own_row_lt K.o1, own_row_lt K.o2, K.o1, K.o2⟩
end Go.Proofs.YtjafcnblgeibpaaGreatDoor
