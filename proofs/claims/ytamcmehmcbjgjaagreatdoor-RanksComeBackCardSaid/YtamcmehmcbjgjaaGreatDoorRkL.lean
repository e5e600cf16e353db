/- The stream's RankedList. Printed by wip/mkrkl.py. -/
import Derived.Test.YtamcmehmcbjgjaaGreatDoorRkO
import Derived.Test.YtamcmehmcbjgjaaGreatDoorVerdM
import Derived.Test.YtamcmehmcbjgjaaGreatDoorSeedM
import Derived.Test.YtamcmehmcbjgjaaGreatDoorMkReg
import Derived.BigRegion
namespace Go.Proofs.YtamcmehmcbjgjaaGreatDoor
open Go.RowKit Go.Shelf Go.Lib Go.Sort
set_option linter.unusedVariables false

theorem rkK4 : EncK rkE [0, 1, 1, 1] := by
  refine ⟨fun _ => rfl, fun x c hc => ?_, fun x c v hc hv => ?_⟩
  · obtain ⟨a, b, d, e⟩ := x
    rcases c with _ | _ | _ | _ | c
    · exact ⟨_, rfl, _, rfl⟩
    · exact ⟨_, rfl, _, rfl⟩
    · exact ⟨_, rfl, _, rfl⟩
    · exact ⟨_, rfl, _, rfl⟩
    · simp at hc; omega
  · obtain ⟨a, b, d, e⟩ := x
    rcases c with _ | _ | _ | _ | c
    · obtain ⟨s, rfl⟩ := hv; exact ⟨⟨s, b, d, e⟩, rfl⟩
    · obtain ⟨s, rfl⟩ := hv; exact ⟨⟨a, s, d, e⟩, rfl⟩
    · obtain ⟨s, rfl⟩ := hv; exact ⟨⟨a, b, s, e⟩, rfl⟩
    · obtain ⟨s, rfl⟩ := hv; exact ⟨⟨a, b, d, s⟩, rfl⟩
    · simp at hc; omega
/-- what RankedList hands back -/
def RetRkL (w : World) (g : Nat) (zs : Zs) (k : Nat) (e : Ending) (w' : World) : Prop := ∃ (A : Option Addr) (n c : Nat) (L : List Rk) (k' : Nat), e = .returned (.slice A n c) ∧ w'.ownsRow w.heap.size 64 4 (.slice A n c) n (L.flatMap rkE) ∧ L.length = n ∧ n ≤ 8 ∧ St w' g zs k' ∧ k' ≤ k + 500 ∧ w.grownBy w' (some g)
set_option maxHeartbeats 6400000 in
set_option maxRecDepth 100000 in
theorem rankedList_c (g : Nat) (zs : Zs) (k : Nat) (w w0 : World) (h : St w g zs k) (hk : k + 20000 ≤ 1099511627776) (hT : Tb w0) (hb0 : Below w0.heap.size w0 w) (hg0 : w0.heap.size ≤ g) :
    Calls Tryz.prog 26 #[.pointer (some ⟨g, 0, none⟩)] w (RetRkL w g zs k) := by
  have hRS := Lib.hid (rightSeeds_c g zs k 8 w w0 h (by omega) (by omega) hT hb0 hg0)
  unfold RetRS at hRS
  have hgl := h.lt
  clear hT hb0 hg0 h
  go_enter Tryz.func26, Tryz.ntmps26
  go_wp2_with fail
  refine hRS.out.mono ?_; rintro e w2 ⟨A, n, c, l, k2, rfl, rs, h0, hn, s2, hk2, g2, _⟩
  have hs0 := Lib.hid h0
  clear hRS h0
  go_wp2_with fail
  refine (verdictList_c _ zs k2 _ s2 (by omega)).mono ?_; rintro e w3 ⟨B, m, cv, v, k3, rfl, ho3, hlv, hm, s3, hk3, g3⟩
  have hv3 : RVd w3 B m v := RN.of_own vdE_len ho3 hlv (by omega)
  have hx3 : RSd w3 A n l := rs.keep (T := 25) (by decide) (s2.keep g3)
  have gr3 := grown_trans g2 g3
  have hVF := Lib.hid (verdictsFault_c B m cv v w3 hv3)
  clear rs s2 g2 g3 ho3
  go_wp2_with fail
  refine hVF.out.mono ?_; rintro e w4 ⟨rfl, B4⟩
  have s4 := s3.below B4
  have hx4 := hx3.below B4
  have hv4 := hv3.below B4
  have gr4 := grown_trans gr3 (grown_of_below B4)
  clear hVF s3 hx3 hv3 gr3 hlv B4
  go_upto_if 13 with (fail)
  go_cut [4] (fun s4 wx => ∃ (B : Option Addr) (m c : Nat) (V : List Vd), s4 = .slice B m c ∧ RVd wx B m V ∧ m ≤ 5 ∧ Hid (verdErr V = 0) ∧ RSd wx A n l ∧ St wx g zs k3 ∧ w.grownBy wx (some g))
  case first =>
    by_cases hv0 : verdErr v = 0
    · have hv1 := Lib.hid hv0
      rw [hv0]
      clear hv0
      go_wp2
      go_meet
      case rel => exact ⟨B, m, cv, v, rfl, hv4, hm, hv1, hx4, s4, gr4⟩
    · have e1 : (verdErr v != 0) = true := by simpa using hv0
      clear hv0 hv4
      generalize verdErr v = VE at *
      go_wp2
      go_meet
      case rel => exact ⟨none, 0, 0, [], rfl, RN.of_own (base := 0) vdE_len (World.ownsRow_nil _ _ _ _) rfl (by omega), by omega, Lib.hid rfl, hx4, s4, gr4⟩
  case rest =>
    clear s4 hx4 hv4 gr4 hm
    rename World => wc
    obtain ⟨B, m, cv, V, rfl, rv, hm, hv0, rs, sc, grc⟩ := hcut
    go_wp2_with fail
    refine (pickE_c g zs k3 _ _ _ [1, 10] _ (sc.alloc _) (by omega) (R1.litAt _ _ _ _ (by first | rfl | (simp; done)) (by simp) (by simp)) (by decide)).mono ?_; rintro e w5 ⟨d, rfl, hd, s5, g5⟩
    have gr5 := grown_trans (grown_alloc grc _) g5
    have rs5 : RSd w5 A n l := (rs.below (below_new _ _)).keep (T := 25) (by decide) ((sc.alloc _).keep g5)
    have rv5 : RVd w5 B m V := (rv.below (below_new _ _)).keep (T := 25) (by decide) ((sc.alloc _).keep g5)
    have hd1 : 1 ≤ d ∧ d ≤ 10 := by simp at hd; omega
    have hRO := Lib.hid (rankedOf_c A B n c m cv l V d w5 rs5 rv5 (by omega) (by omega) (by omega) (by omega) (fun x hx => by
      obtain ⟨_, h⟩ := seedErr_ok hs0.out
      obtain ⟨y1, y2⟩ := h x hx
      exact ⟨(key_small y1).2, y2⟩) (fun x hx => by
      obtain ⟨_, h⟩ := verdErr_ok hv0.out
      obtain ⟨y1, y2⟩ := h x hx
      exact ⟨(key_small y1).2, y2⟩))
    have hlr := Lib.hid (show (refRank d (faultV V) l).length ≤ 8 by rw [refRank_len, rs5.len]; exact hn)
    generalize refRank d (faultV V) l = L at *
    clear hd rs rv sc grc g5 rs5 rv5 hs0 hv0
    go_wp2_with fail
    refine hRO.out.mono ?_; rintro e w6 ⟨A6, n6, c6, rfl, ho, B6⟩
    have ho6 := own_mono ho gr5.size
    have hl6 := own_len rkE_len (by decide) ho6
    have hn6 : n6 ≤ 8 := by rw [← hl6]; exact hlr.out
    have s6 := s5.below B6
    have gr6 := grown_trans gr5 (grown_of_below B6)
    clear hRO ho B6 s5 gr5 hlr
    rcases Nat.eq_zero_or_pos n6 with h0 | hp
    · subst h0
      go_wp2
      go_ret
      exact ⟨A6, 0, c6, L, _, rfl, ho6, hl6, by omega, s6, by omega, gr6⟩
    · have hpi : (0 : Int) < (n6 : Int) := by omega
      go_wp2_with fail
      refine (flipE_c g zs _ _ _ s6 (by omega) (by omega) (by omega)).mono ?_; rintro e w7 ⟨fl, rfl, s7, g7⟩
      have ho7 := own_keep ho6 hgl g7
      have gr7 := grown_trans gr6 g7
      clear ho6 s6 g7 gr6
      cases fl
      · go_wp2
        go_ret
        exact ⟨A6, n6, c6, L, _, rfl, ho7, hl6, hn6, s7, by omega, gr7⟩
      · go_wp2_with fail
        refine (nextE_c g zs _ (n6 : Int) _ s7 (by omega) (by omega) (by omega)).mono ?_; rintro e w8 ⟨q, rfl, q0, q1, s8, g8⟩
        obtain ⟨q, rfl⟩ : ∃ m : Nat, q = m := ⟨q.toNat, by omega⟩
        have ho8 := own_keep ho7 hgl g8
        have gr8 := grown_trans gr7 g8
        have hq : q < n6 := by omega
        obtain ⟨b, rfl, hbb⟩ := own_someN ho8 hp
        have hgb : g < w.heap.size := hgl
        clear ho7 s7 g8 gr7
        go_wp2_with fail
        refine wp_region_inv (by kernel_rfl) (fun listed a w' => ∃ xs : Nat → Value, a = { tmps := #[.pointer (some ⟨g, 0, none⟩), undef, .slice none 0 0, .slice A n c, .slice B m cv, .slice (some ⟨b, 0, none⟩) n6 c6, .pointer (some ⟨b, q * 4, none⟩), u7, u8, u9, u10, u11, u12, u13, .slice A n c, .slice B m cv, .pointer (some ⟨g, 0, none⟩), .slice (some ⟨wc.heap.size, 0, none⟩) 2 2, .int .i64 d, .slice (some ⟨b, 0, none⟩) n6 c6, .slice (some ⟨b, 0, none⟩) n6 c6, .int .i64 (n6 : Int), .bool true, .bool true, .pointer (some ⟨g, 0, none⟩), .bool true, .bool true, .slice (some ⟨b, 0, none⟩) n6 c6, .pointer (some ⟨g, 0, none⟩), .slice (some ⟨b, 0, none⟩) n6 c6, .int .i64 (n6 : Int), .int .i64 (q : Int), .pointer (some ⟨b, q * 4, none⟩), xs 0, xs 1, xs 2, xs 3, xs 4, xs 5, xs 6, xs 7, xs 8, xs 9, xs 10, xs 11, xs 12, xs 13, xs 14, xs 15, xs 16, xs 17, xs 18, xs 19, xs 20, xs 21, xs 22, xs 23, xs 24, xs 25, xs 26, xs 27, xs 28, xs 29, xs 30, xs 31, xs 32, xs 33, xs 35, xs 36, xs 38, xs 39, xs 41, xs 42, u73], defers := [] } ∧ (∀ j, listed.getD j false = true → CT 3 9 64 rkE [.val (.pointer (some ⟨b, q * 4, none⟩)), .val (.pointer (some ⟨b, q * 4, none⟩)), .val (.pointer (some ⟨b, q * 4, none⟩)), .val (.pointer (some ⟨b, q * 4, none⟩)), .val (.pointer (some ⟨g, 0, none⟩)), .val (.pointer (some ⟨b, q * 4, none⟩)), .val (.pointer (some ⟨b, q * 4, none⟩)), .val (.pointer (some ⟨b, q * 4, none⟩)), .str, .strs 3, .str, .val (.pointer (some ⟨g, 0, none⟩)), .val (.pointer (some ⟨b, q * 4, none⟩)), .val (.pointer (some ⟨b, q * 4, none⟩)), .val (.pointer (some ⟨b, q * 4 + 1, none⟩)), .num, .ints 4, .num, .val (.pointer (some ⟨g, 0, none⟩)), .val (.pointer (some ⟨b, q * 4, none⟩)), .val (.pointer (some ⟨b, q * 4, none⟩)), .val (.pointer (some ⟨b, q * 4 + 2, none⟩)), .num, .ints 2, .num, .val (.pointer (some ⟨g, 0, none⟩)), .val (.pointer (some ⟨b, q * 4, none⟩)), .val (.pointer (some ⟨b, q * 4, none⟩)), .val (.pointer (some ⟨b, q * 4 + 3, none⟩)), .num, .ints 3, .num, .val (.pointer (some ⟨b, q * 4, none⟩)), .val (.pointer (some ⟨b, q * 4, none⟩)), .any, .val (.pointer (some ⟨b, q * 4, none⟩)), .val (.pointer (some ⟨b, q * 4 + 1, none⟩)), .any, .val (.pointer (some ⟨b, q * 4, none⟩)), .val (.pointer (some ⟨b, q * 4 + 2, none⟩)), .any, .val (.pointer (some ⟨b, q * 4, none⟩)), .val (.pointer (some ⟨b, q * 4 + 3, none⟩)), .any] j w' (xs j)) ∧ MW1 w8 g zs 64 rkE 4 w.heap.size b n6 c6 (k3 + 1 + 1 + 1 + 8) [10, 17, 24, 31] listed w') ?h0 (AllOps.of ?hs) ?he
        case h0 => exact ⟨fun j => match j with | 0 => u33 | 1 => u34 | 2 => u35 | 3 => u36 | 4 => u37 | 5 => u38 | 6 => u39 | 7 => u40 | 8 => u41 | 9 => u42 | 10 => u43 | 11 => u44 | 12 => u45 | 13 => u46 | 14 => u47 | 15 => u48 | 16 => u49 | 17 => u50 | 18 => u51 | 19 => u52 | 20 => u53 | 21 => u54 | 22 => u55 | 23 => u56 | 24 => u57 | 25 => u58 | 26 => u59 | 27 => u60 | 28 => u61 | 29 => u62 | 30 => u63 | 31 => u64 | 32 => u65 | 33 => u66 | 35 => u67 | 36 => u68 | 38 => u69 | 39 => u70 | 41 => u71 | 42 => u72 | _ => undef, rfl, (fun j hj => by rw [rep_false] at hj; cases hj), MW1.start s8 ho8 hl6 (by first | (simp; done) | (simp; omega))⟩
        case hs =>
          refine ⟨?_, ?_, ?_, ?_, ?_, ?_, ?_, ?_, ?_, ?_, ?_, ?_, ?_, ?_, ?_, ?_, ?_, ?_, ?_, ?_, ?_, ?_, ?_, ?_, ?_, ?_, ?_, ?_, ?_, ?_, ?_, ?_, ?_, ?_, ?_, ?_, ?_, ?_, ?_, ?_, ?_, ?_, ?_, ?_, trivial⟩
          · intro listed a w' hs hI h0 hd K' hK
            obtain ⟨xs, rfl, hC, hW⟩ := hI
            have hK2 := Lib.hid hK
            have hC2 := Lib.hid hC
            clear hd hK hC h0
            go_simp
            exact hK2.out _ _ ⟨updV xs 0 (.pointer (some ⟨b, q * 4, none⟩)), by simp [updV], cond_set hC2.out (fun _ _ h => h) rfl, hW.keep (by decide)⟩
          · intro listed a w' hs hI h0 hd K' hK
            obtain ⟨xs, rfl, hC, hW⟩ := hI
            have hK2 := Lib.hid hK
            have hC2 := Lib.hid hC
            clear hd hK hC h0
            go_simp
            exact hK2.out _ _ ⟨updV xs 1 (.pointer (some ⟨b, q * 4, none⟩)), by simp [updV], cond_set hC2.out (fun _ _ h => h) rfl, hW.keep (by decide)⟩
          · intro listed a w' hs hI h0 hd K' hK
            obtain ⟨xs, rfl, hC, hW⟩ := hI
            have hK2 := Lib.hid hK
            have hC2 := Lib.hid hC
            clear hd hK hC h0
            go_simp
            exact hK2.out _ _ ⟨updV xs 2 (.pointer (some ⟨b, q * 4, none⟩)), by simp [updV], cond_set hC2.out (fun _ _ h => h) rfl, hW.keep (by decide)⟩
          · intro listed a w' hs hI h0 hd K' hK
            obtain ⟨xs, rfl, hC, hW⟩ := hI
            have hK2 := Lib.hid hK
            have hC2 := Lib.hid hC
            clear hd hK hC h0
            go_simp
            exact hK2.out _ _ ⟨updV xs 3 (.pointer (some ⟨b, q * 4, none⟩)), by simp [updV], cond_set hC2.out (fun _ _ h => h) rfl, hW.keep (by decide)⟩
          · intro listed a w' hs hI h0 hd K' hK
            obtain ⟨xs, rfl, hC, hW⟩ := hI
            have hK2 := Lib.hid hK
            have hC2 := Lib.hid hC
            clear hd hK hC h0
            go_simp
            exact hK2.out _ _ ⟨updV xs 4 (.pointer (some ⟨g, 0, none⟩)), by simp [updV], cond_set hC2.out (fun _ _ h => h) rfl, hW.keep (by decide)⟩
          · intro listed a w' hs hI h0 hd K' hK
            obtain ⟨xs, rfl, hC, hW⟩ := hI
            have hK2 := Lib.hid hK
            have hC2 := Lib.hid hC
            clear hd hK hC h0
            go_simp
            exact hK2.out _ _ ⟨updV xs 5 (.pointer (some ⟨b, q * 4, none⟩)), by simp [updV], cond_set hC2.out (fun _ _ h => h) rfl, hW.keep (by decide)⟩
          · intro listed a w' hs hI h0 hd K' hK
            obtain ⟨xs, rfl, hC, hW⟩ := hI
            have e5 : xs 5 = (.pointer (some ⟨b, q * 4, none⟩)) := hC 5 (hd ⟨5, .data⟩ (by simp) rfl)
            have hK2 := Lib.hid hK
            have hC2 := Lib.hid hC
            clear hd hK hC h0
            go_simp
            exact hK2.out _ _ ⟨updV xs 6 (.pointer (some ⟨b, q * 4, none⟩)), by simp [updV, e5], cond_set hC2.out (fun _ _ h => h) rfl, hW.keep (by decide)⟩
          · intro listed a w' hs hI h0 hd K' hK
            obtain ⟨xs, rfl, hC, hW⟩ := hI
            have e6 : xs 6 = (.pointer (some ⟨b, q * 4, none⟩)) := hC 6 (hd ⟨6, .data⟩ (by simp) rfl)
            have hK2 := Lib.hid hK
            have hC2 := Lib.hid hC
            clear hd hK hC h0
            go_simp
            exact hK2.out _ _ ⟨updV xs 7 (.pointer (some ⟨b, q * 4, none⟩)), by simp [updV, e6], cond_set hC2.out (fun _ _ h => h) rfl, hW.keep (by decide)⟩
          · intro listed a w' hs hI h0 hd K' hK
            obtain ⟨xs, rfl, hC, hW⟩ := hI
            have e7 : xs 7 = (.pointer (some ⟨b, q * 4, none⟩)) := hC 7 (hd ⟨7, .data⟩ (by simp) rfl)
            have hK2 := Lib.hid hK
            have hC2 := Lib.hid hC
            obtain ⟨u9, c9, ⟨x9, rfl⟩, f9⟩ := hW.load rkK4 (s := 4) rfl (q := q) (d := 0) hq (by decide)
            rw [Nat.add_zero] at c9
            clear hd hK hC h0
            go_simp
            exact hK2.out _ _ ⟨updV xs 8 (.string x9), by simp [updV, e7], cond_set hC2.out (fun _ _ h => h) ⟨_, rfl⟩, hW.keep (by decide)⟩
          · intro listed a w' hs hI h0 hd K' hK
            obtain ⟨xs, rfl, hC, hW⟩ := hI
            obtain ⟨v8, e8⟩ : ∃ v : ByteArray, xs 8 = .string v := hC 8 (hd ⟨8, .data⟩ (by simp) rfl)
            have hK2 := Lib.hid hK
            have hC2 := Lib.hid hC
            clear hd hK hC h0
            go_simp
            exact hK2.out _ _ ⟨updV xs 9 (.slice (some ⟨w'.heap.size, 0, none⟩) 3 3), by simp [updV, e8], cond_set hC2.out (fun j v h => Sat.alloc _ _ _ h) ⟨w'.heap.size, [v8, ⟨#[]⟩, ⟨#[115, 48]⟩], rfl, rfl, heap_alloc_new w' _⟩, ((hW.alloc _).keep (by decide))⟩
          · intro listed a w' hs hI h0 hd K' hK
            obtain ⟨xs, rfl, hC, hW⟩ := hI
            have e4 : xs 4 = (.pointer (some ⟨g, 0, none⟩)) := hC 4 (hd ⟨4, .data⟩ (by simp) rfl)
            obtain ⟨z9, l9, e9, hl9, hz9⟩ : ∃ (z : Nat) (l : List ByteArray), xs 9 = .slice (some ⟨z, 0, none⟩) 3 3 ∧ l.length = 3 ∧ w'.heap[z]? = some (.cells (l.map Value.string).toArray 9 (0, 0)) := hC 9 (hd ⟨9, .data⟩ (by simp) rfl)
            have hK2 := Lib.hid hK
            have hC2 := Lib.hid hC
            obtain ⟨k9, s9, hk9, hnx⟩ := MW1.call hgb hW h0 (by decide) (by decide)
            have r9 : RS 9 w' (some ⟨z9, 0, none⟩) 3 l9 := R1.of_lit hz9 rfl hl9 (by decide)
            clear h0
            clear hd hK hC
            go_simp
            refine (some_c g zs _ _ _ _ _ _ s9 (by omega) r9 (by decide)).mono ?_; rintro e w1 ⟨rfl, s10, g10⟩
            exact hK2.out _ _ ⟨updV xs 10 (.string (pickV zs k9 l9)), by simp [updV, e4, e9], cond_set hC2.out (fun j v h => Sat.stream (s9.keep g10) (by decide) (by decide) (by decide) _ _ h) ⟨_, rfl⟩, hnx _ _ (by omega) s10 g10⟩
          · intro listed a w' hs hI h0 hd K' hK
            obtain ⟨xs, rfl, hC, hW⟩ := hI
            have hK2 := Lib.hid hK
            have hC2 := Lib.hid hC
            clear hd hK hC h0
            go_simp
            exact hK2.out _ _ ⟨updV xs 11 (.pointer (some ⟨g, 0, none⟩)), by simp [updV], cond_set hC2.out (fun _ _ h => h) rfl, hW.keep (by decide)⟩
          · intro listed a w' hs hI h0 hd K' hK
            obtain ⟨xs, rfl, hC, hW⟩ := hI
            have hK2 := Lib.hid hK
            have hC2 := Lib.hid hC
            clear hd hK hC h0
            go_simp
            exact hK2.out _ _ ⟨updV xs 12 (.pointer (some ⟨b, q * 4, none⟩)), by simp [updV], cond_set hC2.out (fun _ _ h => h) rfl, hW.keep (by decide)⟩
          · intro listed a w' hs hI h0 hd K' hK
            obtain ⟨xs, rfl, hC, hW⟩ := hI
            have e12 : xs 12 = (.pointer (some ⟨b, q * 4, none⟩)) := hC 12 (hd ⟨12, .data⟩ (by simp) rfl)
            have hK2 := Lib.hid hK
            have hC2 := Lib.hid hC
            clear hd hK hC h0
            go_simp
            exact hK2.out _ _ ⟨updV xs 13 (.pointer (some ⟨b, q * 4, none⟩)), by simp [updV, e12], cond_set hC2.out (fun _ _ h => h) rfl, hW.keep (by decide)⟩
          · intro listed a w' hs hI h0 hd K' hK
            obtain ⟨xs, rfl, hC, hW⟩ := hI
            have e13 : xs 13 = (.pointer (some ⟨b, q * 4, none⟩)) := hC 13 (hd ⟨13, .data⟩ (by simp) rfl)
            have hK2 := Lib.hid hK
            have hC2 := Lib.hid hC
            clear hd hK hC h0
            go_simp
            exact hK2.out _ _ ⟨updV xs 14 (.pointer (some ⟨b, q * 4 + 1, none⟩)), by simp [updV, e13], cond_set hC2.out (fun _ _ h => h) rfl, hW.keep (by decide)⟩
          · intro listed a w' hs hI h0 hd K' hK
            obtain ⟨xs, rfl, hC, hW⟩ := hI
            have e14 : xs 14 = (.pointer (some ⟨b, q * 4 + 1, none⟩)) := hC 14 (hd ⟨14, .data⟩ (by simp) rfl)
            have hK2 := Lib.hid hK
            have hC2 := Lib.hid hC
            obtain ⟨u9, c9, ⟨x9, rfl⟩, f9⟩ := hW.load rkK4 (s := 4) rfl (q := q) (d := 1) hq (by decide)
            clear hd hK hC h0
            go_simp
            exact hK2.out _ _ ⟨updV xs 15 (.int .i64 x9), by simp [updV, e14], cond_set hC2.out (fun _ _ h => h) ⟨_, rfl⟩, hW.keep (by decide)⟩
          · intro listed a w' hs hI h0 hd K' hK
            obtain ⟨xs, rfl, hC, hW⟩ := hI
            obtain ⟨v15, e15⟩ : ∃ v : Int, xs 15 = .int .i64 v := hC 15 (hd ⟨15, .data⟩ (by simp) rfl)
            have hK2 := Lib.hid hK
            have hC2 := Lib.hid hC
            clear hd hK hC h0
            go_simp
            exact hK2.out _ _ ⟨updV xs 16 (.slice (some ⟨w'.heap.size, 0, none⟩) 4 4), by simp [updV, e15], cond_set hC2.out (fun j v h => Sat.alloc _ _ _ h) ⟨w'.heap.size, [v15, 0, 1, 301], rfl, rfl, heap_alloc_new w' _⟩, ((hW.alloc _).keep (by decide))⟩
          · intro listed a w' hs hI h0 hd K' hK
            obtain ⟨xs, rfl, hC, hW⟩ := hI
            have e11 : xs 11 = (.pointer (some ⟨g, 0, none⟩)) := hC 11 (hd ⟨11, .data⟩ (by simp) rfl)
            obtain ⟨z16, l16, e16, hl16, hz16⟩ : ∃ (z : Nat) (l : List Int), xs 16 = .slice (some ⟨z, 0, none⟩) 4 4 ∧ l.length = 4 ∧ w'.heap[z]? = some (.cells (ints l).toArray 3 (0, 0)) := hC 16 (hd ⟨16, .data⟩ (by simp) rfl)
            have hK2 := Lib.hid hK
            have hC2 := Lib.hid hC
            obtain ⟨k9, s9, hk9, hnx⟩ := MW1.call hgb hW h0 (by decide) (by decide)
            have r9 : RI 3 w' (some ⟨z16, 0, none⟩) 4 l16 := R1.of_lit hz16 rfl hl16 (by decide)
            clear h0
            clear hd hK hC
            go_simp
            refine (pickE_c g zs _ _ _ _ _ _ s9 (by omega) r9 (by decide)).mono ?_; rintro e w1 ⟨v, rfl, hv9, s10, g10⟩
            exact hK2.out _ _ ⟨updV xs 17 (.int .i64 v), by simp [updV, e11, e16], cond_set hC2.out (fun j v h => Sat.stream (s9.keep g10) (by decide) (by decide) (by decide) _ _ h) ⟨_, rfl⟩, hnx _ _ (by omega) s10 g10⟩
          · intro listed a w' hs hI h0 hd K' hK
            obtain ⟨xs, rfl, hC, hW⟩ := hI
            have hK2 := Lib.hid hK
            have hC2 := Lib.hid hC
            clear hd hK hC h0
            go_simp
            exact hK2.out _ _ ⟨updV xs 18 (.pointer (some ⟨g, 0, none⟩)), by simp [updV], cond_set hC2.out (fun _ _ h => h) rfl, hW.keep (by decide)⟩
          · intro listed a w' hs hI h0 hd K' hK
            obtain ⟨xs, rfl, hC, hW⟩ := hI
            have hK2 := Lib.hid hK
            have hC2 := Lib.hid hC
            clear hd hK hC h0
            go_simp
            exact hK2.out _ _ ⟨updV xs 19 (.pointer (some ⟨b, q * 4, none⟩)), by simp [updV], cond_set hC2.out (fun _ _ h => h) rfl, hW.keep (by decide)⟩
          · intro listed a w' hs hI h0 hd K' hK
            obtain ⟨xs, rfl, hC, hW⟩ := hI
            have e19 : xs 19 = (.pointer (some ⟨b, q * 4, none⟩)) := hC 19 (hd ⟨19, .data⟩ (by simp) rfl)
            have hK2 := Lib.hid hK
            have hC2 := Lib.hid hC
            clear hd hK hC h0
            go_simp
            exact hK2.out _ _ ⟨updV xs 20 (.pointer (some ⟨b, q * 4, none⟩)), by simp [updV, e19], cond_set hC2.out (fun _ _ h => h) rfl, hW.keep (by decide)⟩
          · intro listed a w' hs hI h0 hd K' hK
            obtain ⟨xs, rfl, hC, hW⟩ := hI
            have e20 : xs 20 = (.pointer (some ⟨b, q * 4, none⟩)) := hC 20 (hd ⟨20, .data⟩ (by simp) rfl)
            have hK2 := Lib.hid hK
            have hC2 := Lib.hid hC
            clear hd hK hC h0
            go_simp
            exact hK2.out _ _ ⟨updV xs 21 (.pointer (some ⟨b, q * 4 + 2, none⟩)), by simp [updV, e20], cond_set hC2.out (fun _ _ h => h) rfl, hW.keep (by decide)⟩
          · intro listed a w' hs hI h0 hd K' hK
            obtain ⟨xs, rfl, hC, hW⟩ := hI
            have e21 : xs 21 = (.pointer (some ⟨b, q * 4 + 2, none⟩)) := hC 21 (hd ⟨21, .data⟩ (by simp) rfl)
            have hK2 := Lib.hid hK
            have hC2 := Lib.hid hC
            obtain ⟨u9, c9, ⟨x9, rfl⟩, f9⟩ := hW.load rkK4 (s := 4) rfl (q := q) (d := 2) hq (by decide)
            clear hd hK hC h0
            go_simp
            exact hK2.out _ _ ⟨updV xs 22 (.int .i64 x9), by simp [updV, e21], cond_set hC2.out (fun _ _ h => h) ⟨_, rfl⟩, hW.keep (by decide)⟩
          · intro listed a w' hs hI h0 hd K' hK
            obtain ⟨xs, rfl, hC, hW⟩ := hI
            obtain ⟨v22, e22⟩ : ∃ v : Int, xs 22 = .int .i64 v := hC 22 (hd ⟨22, .data⟩ (by simp) rfl)
            have hK2 := Lib.hid hK
            have hC2 := Lib.hid hC
            clear hd hK hC h0
            go_simp
            exact hK2.out _ _ ⟨updV xs 23 (.slice (some ⟨w'.heap.size, 0, none⟩) 2 2), by simp [updV, e22], cond_set hC2.out (fun j v h => Sat.alloc _ _ _ h) ⟨w'.heap.size, [v22, 0], rfl, rfl, heap_alloc_new w' _⟩, ((hW.alloc _).keep (by decide))⟩
          · intro listed a w' hs hI h0 hd K' hK
            obtain ⟨xs, rfl, hC, hW⟩ := hI
            have e18 : xs 18 = (.pointer (some ⟨g, 0, none⟩)) := hC 18 (hd ⟨18, .data⟩ (by simp) rfl)
            obtain ⟨z23, l23, e23, hl23, hz23⟩ : ∃ (z : Nat) (l : List Int), xs 23 = .slice (some ⟨z, 0, none⟩) 2 2 ∧ l.length = 2 ∧ w'.heap[z]? = some (.cells (ints l).toArray 3 (0, 0)) := hC 23 (hd ⟨23, .data⟩ (by simp) rfl)
            have hK2 := Lib.hid hK
            have hC2 := Lib.hid hC
            obtain ⟨k9, s9, hk9, hnx⟩ := MW1.call hgb hW h0 (by decide) (by decide)
            have r9 : RI 3 w' (some ⟨z23, 0, none⟩) 2 l23 := R1.of_lit hz23 rfl hl23 (by decide)
            clear h0
            clear hd hK hC
            go_simp
            refine (pickE_c g zs _ _ _ _ _ _ s9 (by omega) r9 (by decide)).mono ?_; rintro e w1 ⟨v, rfl, hv9, s10, g10⟩
            exact hK2.out _ _ ⟨updV xs 24 (.int .i64 v), by simp [updV, e18, e23], cond_set hC2.out (fun j v h => Sat.stream (s9.keep g10) (by decide) (by decide) (by decide) _ _ h) ⟨_, rfl⟩, hnx _ _ (by omega) s10 g10⟩
          · intro listed a w' hs hI h0 hd K' hK
            obtain ⟨xs, rfl, hC, hW⟩ := hI
            have hK2 := Lib.hid hK
            have hC2 := Lib.hid hC
            clear hd hK hC h0
            go_simp
            exact hK2.out _ _ ⟨updV xs 25 (.pointer (some ⟨g, 0, none⟩)), by simp [updV], cond_set hC2.out (fun _ _ h => h) rfl, hW.keep (by decide)⟩
          · intro listed a w' hs hI h0 hd K' hK
            obtain ⟨xs, rfl, hC, hW⟩ := hI
            have hK2 := Lib.hid hK
            have hC2 := Lib.hid hC
            clear hd hK hC h0
            go_simp
            exact hK2.out _ _ ⟨updV xs 26 (.pointer (some ⟨b, q * 4, none⟩)), by simp [updV], cond_set hC2.out (fun _ _ h => h) rfl, hW.keep (by decide)⟩
          · intro listed a w' hs hI h0 hd K' hK
            obtain ⟨xs, rfl, hC, hW⟩ := hI
            have e26 : xs 26 = (.pointer (some ⟨b, q * 4, none⟩)) := hC 26 (hd ⟨26, .data⟩ (by simp) rfl)
            have hK2 := Lib.hid hK
            have hC2 := Lib.hid hC
            clear hd hK hC h0
            go_simp
            exact hK2.out _ _ ⟨updV xs 27 (.pointer (some ⟨b, q * 4, none⟩)), by simp [updV, e26], cond_set hC2.out (fun _ _ h => h) rfl, hW.keep (by decide)⟩
          · intro listed a w' hs hI h0 hd K' hK
            obtain ⟨xs, rfl, hC, hW⟩ := hI
            have e27 : xs 27 = (.pointer (some ⟨b, q * 4, none⟩)) := hC 27 (hd ⟨27, .data⟩ (by simp) rfl)
            have hK2 := Lib.hid hK
            have hC2 := Lib.hid hC
            clear hd hK hC h0
            go_simp
            exact hK2.out _ _ ⟨updV xs 28 (.pointer (some ⟨b, q * 4 + 3, none⟩)), by simp [updV, e27], cond_set hC2.out (fun _ _ h => h) rfl, hW.keep (by decide)⟩
          · intro listed a w' hs hI h0 hd K' hK
            obtain ⟨xs, rfl, hC, hW⟩ := hI
            have e28 : xs 28 = (.pointer (some ⟨b, q * 4 + 3, none⟩)) := hC 28 (hd ⟨28, .data⟩ (by simp) rfl)
            have hK2 := Lib.hid hK
            have hC2 := Lib.hid hC
            obtain ⟨u9, c9, ⟨x9, rfl⟩, f9⟩ := hW.load rkK4 (s := 4) rfl (q := q) (d := 3) hq (by decide)
            clear hd hK hC h0
            go_simp
            exact hK2.out _ _ ⟨updV xs 29 (.int .i64 x9), by simp [updV, e28], cond_set hC2.out (fun _ _ h => h) ⟨_, rfl⟩, hW.keep (by decide)⟩
          · intro listed a w' hs hI h0 hd K' hK
            obtain ⟨xs, rfl, hC, hW⟩ := hI
            obtain ⟨v29, e29⟩ : ∃ v : Int, xs 29 = .int .i64 v := hC 29 (hd ⟨29, .data⟩ (by simp) rfl)
            have hK2 := Lib.hid hK
            have hC2 := Lib.hid hC
            clear hd hK hC h0
            go_simp
            exact hK2.out _ _ ⟨updV xs 30 (.slice (some ⟨w'.heap.size, 0, none⟩) 3 3), by simp [updV, e29], cond_set hC2.out (fun j v h => Sat.alloc _ _ _ h) ⟨w'.heap.size, [v29, 1, 9], rfl, rfl, heap_alloc_new w' _⟩, ((hW.alloc _).keep (by decide))⟩
          · intro listed a w' hs hI h0 hd K' hK
            obtain ⟨xs, rfl, hC, hW⟩ := hI
            have e25 : xs 25 = (.pointer (some ⟨g, 0, none⟩)) := hC 25 (hd ⟨25, .data⟩ (by simp) rfl)
            obtain ⟨z30, l30, e30, hl30, hz30⟩ : ∃ (z : Nat) (l : List Int), xs 30 = .slice (some ⟨z, 0, none⟩) 3 3 ∧ l.length = 3 ∧ w'.heap[z]? = some (.cells (ints l).toArray 3 (0, 0)) := hC 30 (hd ⟨30, .data⟩ (by simp) rfl)
            have hK2 := Lib.hid hK
            have hC2 := Lib.hid hC
            obtain ⟨k9, s9, hk9, hnx⟩ := MW1.call hgb hW h0 (by decide) (by decide)
            have r9 : RI 3 w' (some ⟨z30, 0, none⟩) 3 l30 := R1.of_lit hz30 rfl hl30 (by decide)
            clear h0
            clear hd hK hC
            go_simp
            refine (pickE_c g zs _ _ _ _ _ _ s9 (by omega) r9 (by decide)).mono ?_; rintro e w1 ⟨v, rfl, hv9, s10, g10⟩
            exact hK2.out _ _ ⟨updV xs 31 (.int .i64 v), by simp [updV, e25, e30], cond_set hC2.out (fun j v h => Sat.stream (s9.keep g10) (by decide) (by decide) (by decide) _ _ h) ⟨_, rfl⟩, hnx _ _ (by omega) s10 g10⟩
          · intro listed a w' hs hI h0 hd K' hK
            obtain ⟨xs, rfl, hC, hW⟩ := hI
            have e0 : xs 0 = (.pointer (some ⟨b, q * 4, none⟩)) := hC 0 (hd ⟨0, .data⟩ (by simp) rfl)
            have hK2 := Lib.hid hK
            have hC2 := Lib.hid hC
            clear hd hK hC h0
            go_simp
            exact hK2.out _ _ ⟨updV xs 32 (.pointer (some ⟨b, q * 4, none⟩)), by simp [updV, e0], cond_set hC2.out (fun _ _ h => h) rfl, hW.keep (by decide)⟩
          · intro listed a w' hs hI h0 hd K' hK
            obtain ⟨xs, rfl, hC, hW⟩ := hI
            have e32 : xs 32 = (.pointer (some ⟨b, q * 4, none⟩)) := hC 32 (hd ⟨32, .data⟩ (by simp) rfl)
            have hK2 := Lib.hid hK
            have hC2 := Lib.hid hC
            clear hd hK hC h0
            go_simp
            exact hK2.out _ _ ⟨updV xs 33 (.pointer (some ⟨b, q * 4, none⟩)), by simp [updV, e32], cond_set hC2.out (fun _ _ h => h) rfl, hW.keep (by decide)⟩
          · intro listed a w' hs hI h0 hd K' hK
            obtain ⟨xs, rfl, hC, hW⟩ := hI
            obtain ⟨v10, e10⟩ : ∃ v : ByteArray, xs 10 = .string v := hC 10 (hd ⟨10, .data⟩ (by simp) rfl)
            have e33 : xs 33 = (.pointer (some ⟨b, q * 4, none⟩)) := hC 33 (hd ⟨33, .data⟩ (by simp) rfl)
            have hK2 := Lib.hid hK
            have hC2 := Lib.hid hC
            obtain ⟨u9, c9, _, f9⟩ := hW.load rkK4 (s := 4) rfl (q := q) (d := 0) hq (by decide)
            obtain ⟨cs9, hcs9⟩ := hW.blk
            have hS9 := Lib.hid (MW1.store rkK4 (s := 4) rfl hgb hW (q := q) (d := 0) hq (by decide) (v := .string v10) ⟨_, rfl⟩)
            rw [Nat.add_zero] at c9 f9 hS9
            clear hd hK hC h0
            go_simp
            exact hK2.out _ _ ⟨updV xs 34 (undef), by simp [updV, e10, e33], cond_set hC2.out (fun j v h => Sat.set rkK4 hcs9 (by decide) (by decide) (okAt (q := q) (s := 4) (c := 0) rfl rfl ⟨_, rfl⟩) _ _ h) trivial, hS9.out.keep (by decide)⟩
          · intro listed a w' hs hI h0 hd K' hK
            obtain ⟨xs, rfl, hC, hW⟩ := hI
            have e1 : xs 1 = (.pointer (some ⟨b, q * 4, none⟩)) := hC 1 (hd ⟨1, .data⟩ (by simp) rfl)
            have hK2 := Lib.hid hK
            have hC2 := Lib.hid hC
            clear hd hK hC h0
            go_simp
            exact hK2.out _ _ ⟨updV xs 35 (.pointer (some ⟨b, q * 4, none⟩)), by simp [updV, e1], cond_set hC2.out (fun _ _ h => h) rfl, hW.keep (by decide)⟩
          · intro listed a w' hs hI h0 hd K' hK
            obtain ⟨xs, rfl, hC, hW⟩ := hI
            have e35 : xs 35 = (.pointer (some ⟨b, q * 4, none⟩)) := hC 35 (hd ⟨35, .data⟩ (by simp) rfl)
            have hK2 := Lib.hid hK
            have hC2 := Lib.hid hC
            clear hd hK hC h0
            go_simp
            exact hK2.out _ _ ⟨updV xs 36 (.pointer (some ⟨b, q * 4 + 1, none⟩)), by simp [updV, e35], cond_set hC2.out (fun _ _ h => h) rfl, hW.keep (by decide)⟩
          · intro listed a w' hs hI h0 hd K' hK
            obtain ⟨xs, rfl, hC, hW⟩ := hI
            obtain ⟨v17, e17⟩ : ∃ v : Int, xs 17 = .int .i64 v := hC 17 (hd ⟨17, .data⟩ (by simp) rfl)
            have e36 : xs 36 = (.pointer (some ⟨b, q * 4 + 1, none⟩)) := hC 36 (hd ⟨36, .data⟩ (by simp) rfl)
            have hK2 := Lib.hid hK
            have hC2 := Lib.hid hC
            obtain ⟨u9, c9, _, f9⟩ := hW.load rkK4 (s := 4) rfl (q := q) (d := 1) hq (by decide)
            obtain ⟨cs9, hcs9⟩ := hW.blk
            have hS9 := Lib.hid (MW1.store rkK4 (s := 4) rfl hgb hW (q := q) (d := 1) hq (by decide) (v := .int .i64 v17) ⟨_, rfl⟩)
            clear hd hK hC h0
            go_simp
            exact hK2.out _ _ ⟨updV xs 37 (undef), by simp [updV, e17, e36], cond_set hC2.out (fun j v h => Sat.set rkK4 hcs9 (by decide) (by decide) (okAt (q := q) (s := 4) (c := 1) rfl rfl ⟨_, rfl⟩) _ _ h) trivial, hS9.out.keep (by decide)⟩
          · intro listed a w' hs hI h0 hd K' hK
            obtain ⟨xs, rfl, hC, hW⟩ := hI
            have e2 : xs 2 = (.pointer (some ⟨b, q * 4, none⟩)) := hC 2 (hd ⟨2, .data⟩ (by simp) rfl)
            have hK2 := Lib.hid hK
            have hC2 := Lib.hid hC
            clear hd hK hC h0
            go_simp
            exact hK2.out _ _ ⟨updV xs 38 (.pointer (some ⟨b, q * 4, none⟩)), by simp [updV, e2], cond_set hC2.out (fun _ _ h => h) rfl, hW.keep (by decide)⟩
          · intro listed a w' hs hI h0 hd K' hK
            obtain ⟨xs, rfl, hC, hW⟩ := hI
            have e38 : xs 38 = (.pointer (some ⟨b, q * 4, none⟩)) := hC 38 (hd ⟨38, .data⟩ (by simp) rfl)
            have hK2 := Lib.hid hK
            have hC2 := Lib.hid hC
            clear hd hK hC h0
            go_simp
            exact hK2.out _ _ ⟨updV xs 39 (.pointer (some ⟨b, q * 4 + 2, none⟩)), by simp [updV, e38], cond_set hC2.out (fun _ _ h => h) rfl, hW.keep (by decide)⟩
          · intro listed a w' hs hI h0 hd K' hK
            obtain ⟨xs, rfl, hC, hW⟩ := hI
            obtain ⟨v24, e24⟩ : ∃ v : Int, xs 24 = .int .i64 v := hC 24 (hd ⟨24, .data⟩ (by simp) rfl)
            have e39 : xs 39 = (.pointer (some ⟨b, q * 4 + 2, none⟩)) := hC 39 (hd ⟨39, .data⟩ (by simp) rfl)
            have hK2 := Lib.hid hK
            have hC2 := Lib.hid hC
            obtain ⟨u9, c9, _, f9⟩ := hW.load rkK4 (s := 4) rfl (q := q) (d := 2) hq (by decide)
            obtain ⟨cs9, hcs9⟩ := hW.blk
            have hS9 := Lib.hid (MW1.store rkK4 (s := 4) rfl hgb hW (q := q) (d := 2) hq (by decide) (v := .int .i64 v24) ⟨_, rfl⟩)
            clear hd hK hC h0
            go_simp
            exact hK2.out _ _ ⟨updV xs 40 (undef), by simp [updV, e24, e39], cond_set hC2.out (fun j v h => Sat.set rkK4 hcs9 (by decide) (by decide) (okAt (q := q) (s := 4) (c := 2) rfl rfl ⟨_, rfl⟩) _ _ h) trivial, hS9.out.keep (by decide)⟩
          · intro listed a w' hs hI h0 hd K' hK
            obtain ⟨xs, rfl, hC, hW⟩ := hI
            have e3 : xs 3 = (.pointer (some ⟨b, q * 4, none⟩)) := hC 3 (hd ⟨3, .data⟩ (by simp) rfl)
            have hK2 := Lib.hid hK
            have hC2 := Lib.hid hC
            clear hd hK hC h0
            go_simp
            exact hK2.out _ _ ⟨updV xs 41 (.pointer (some ⟨b, q * 4, none⟩)), by simp [updV, e3], cond_set hC2.out (fun _ _ h => h) rfl, hW.keep (by decide)⟩
          · intro listed a w' hs hI h0 hd K' hK
            obtain ⟨xs, rfl, hC, hW⟩ := hI
            have e41 : xs 41 = (.pointer (some ⟨b, q * 4, none⟩)) := hC 41 (hd ⟨41, .data⟩ (by simp) rfl)
            have hK2 := Lib.hid hK
            have hC2 := Lib.hid hC
            clear hd hK hC h0
            go_simp
            exact hK2.out _ _ ⟨updV xs 42 (.pointer (some ⟨b, q * 4 + 3, none⟩)), by simp [updV, e41], cond_set hC2.out (fun _ _ h => h) rfl, hW.keep (by decide)⟩
          · intro listed a w' hs hI h0 hd K' hK
            obtain ⟨xs, rfl, hC, hW⟩ := hI
            obtain ⟨v31, e31⟩ : ∃ v : Int, xs 31 = .int .i64 v := hC 31 (hd ⟨31, .data⟩ (by simp) rfl)
            have e42 : xs 42 = (.pointer (some ⟨b, q * 4 + 3, none⟩)) := hC 42 (hd ⟨42, .data⟩ (by simp) rfl)
            have hK2 := Lib.hid hK
            have hC2 := Lib.hid hC
            obtain ⟨u9, c9, _, f9⟩ := hW.load rkK4 (s := 4) rfl (q := q) (d := 3) hq (by decide)
            obtain ⟨cs9, hcs9⟩ := hW.blk
            have hS9 := Lib.hid (MW1.store rkK4 (s := 4) rfl hgb hW (q := q) (d := 3) hq (by decide) (v := .int .i64 v31) ⟨_, rfl⟩)
            clear hd hK hC h0
            go_simp
            exact hK2.out _ _ ⟨updV xs 43 (undef), by simp [updV, e31, e42], cond_set hC2.out (fun j v h => Sat.set rkK4 hcs9 (by decide) (by decide) (okAt (q := q) (s := 4) (c := 3) rfl rfl ⟨_, rfl⟩) _ _ h) trivial, hS9.out.keep (by decide)⟩
        case he =>
          intro listed a w' hs hI hr
          obtain ⟨xs, rfl, hC, hW⟩ := hI
          clear hC hs hr
          obtain ⟨k10, l10, s10, o10, hl10, g10, hk10⟩ := hW.out gr8 (Nat.le_refl _)
          clear hW
          go_wp2
          go_ret
          exact ⟨_, n6, c6, l10, k10, rfl, o10, hl10, hn6, s10, by omega, g10⟩
end Go.Proofs.YtamcmehmcbjgjaaGreatDoor
